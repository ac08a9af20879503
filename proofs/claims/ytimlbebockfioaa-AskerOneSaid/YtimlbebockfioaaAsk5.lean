/- The asker: Tick, Poll, State. -/
import Derived.Test.YtimlbebockfioaaAsk4
namespace Go.Proofs.Ytimlbebockfioaa
open Go.RowKit

def pollK (s : Ak) (id : Int) : Int × Int := if id < 0 ∨ (s.acc : Int) ≤ id then (0, 4) else if id < s.told.length then ((s.told[id.toNat]?).getD 0, 0) else (0, 0)
set_option maxRecDepth 100000
section
variable {col : Nat → Nat} {w : World} {ga gq gt b gs : Nat} {most room : Int} {s : Ak}
set_option maxHeartbeats 1000000 in
theorem akTick_any (h : AkAt col w ga gq gt b gs most room s) (ok : AkOk most room s) (hm : most ≤ 64) :
    Calls Try.prog 26 #[.pointer (some ⟨ga, 0, none⟩)] w fun e w' => ∃ u, e = .returned u ∧ AkRes col w ga gq gt b gs most room (tickK most s).1 u (tickK most s).2 w' := by
  have HI := hid (akIs_any h)
  have HL := hid (lenF_any h.q)
  have HT := hid (tmTick_any w gt b most s.T h.tm ok.tm (by have := ok.tl; omega) hm)
  obtain ⟨tv, hb, _⟩ := h.is
  obtain ⟨c0, c1, _⟩ := akCellsAt hb
  have HA := hid h
  obtain ⟨QL, hQL⟩ : ∃ QL, QL = s.q.length := ⟨_, rfl⟩
  rw [← hQL] at HL
  by_cases hq : s.q = []
  · have hz : QL = 0 := by rw [hQL, hq]; rfl
    subst hz
    have htk : tickK most s = (s, []) := by unfold tickK; rw [if_pos hq]
    rw [htk]
    clear h ok hb hq hQL htk HT
    go_enter Try.func26, Try.ntmps26
    go_wp2_with (first
      | (go_at_call 51; refine HI.out.mono ?_; rintro e w2 ⟨rfl, rfl⟩)
      | (go_at_call 52; refine HL.out.mono ?_; rintro e w2 ⟨rfl, rfl⟩))
    go_ret
    exact ⟨_, rfl, AkRes.nil HA.out (fun k => .inl rfl) (Out.refl _ _)⟩
  · have hz : 0 < QL := by rw [hQL]; exact List.length_pos_iff.2 hq
    have hzB : (QL == 0) = false := by simp; omega
    have hzB2 : ((QL : Int) == 0) = false := by simp; omega
    have htk : tickK most s = (⟨s.q, tickT most s.T, s.D, s.U, s.acc, s.t, s.r, s.bound, s.told⟩, if dueT s.T = [] then [] else asksK s) := by unfold tickK; rw [if_neg hq]
    rw [htk]
    have HAS := hid fun (w1 : World) (s1 : Ak) (h1 : AkAt col w1 ga gq gt b gs most room s1) => akAsks_any h1
    obtain ⟨D, hD⟩ : ∃ D, D = dueT s.T := ⟨_, rfl⟩
    rw [← hD] at HT ⊢
    by_cases hd : D = []
    · rw [if_pos hd]
      subst hd
      clear h ok hb hq hQL htk hD hz HAS
      go_enter Try.func26, Try.ntmps26
      go_wp2_with (first
        | (go_at_call 51; refine HI.out.mono ?_; rintro e w2 ⟨rfl, rfl⟩)
        | (go_at_call 52; refine HL.out.mono ?_; rintro e w2 ⟨rfl, rfl⟩)
        | (go_at_call 44; refine HT.out.mono ?_; rintro e w3 ⟨u, rfl, hu, ht3, ho3⟩; obtain ⟨Au, cu, rfl⟩ := hu.shape))
      go_ret
      exact ⟨_, rfl, AkRes.nil (HA.out.timer ho3 ht3) (fun k => .inl rfl) (Out.of_only ho3 (by rw [HA.out.cb]; omega))⟩
    · rw [if_neg hd]
      obtain ⟨n, hn⟩ : ∃ n, n = D.length := ⟨_, rfl⟩
      have hn0 : 0 < n := by rw [hn]; exact List.length_pos_iff.2 hd
      have hnB : (n == 0) = false := by simp; omega
      have hnB2 : ((n : Int) == 0) = false := by simp; omega
      have HN := hid hn
      clear h ok hb hq hQL htk hD hz hd hn hn0
      go_enter Try.func26, Try.ntmps26
      go_wp2_with (first
        | (go_at_call 51; refine HI.out.mono ?_; rintro e w2 ⟨rfl, rfl⟩)
        | (go_at_call 52; refine HL.out.mono ?_; rintro e w2 ⟨rfl, rfl⟩)
        | (go_at_call 44; refine HT.out.mono ?_; rintro e w3 ⟨u, rfl, hu, ht3, ho3⟩; obtain ⟨Au, cu, hus⟩ := hu.shape; rw [← HN.out] at hus; subst hus; have hA3 := HA.out.timer ho3 ht3)
        | (go_at_call 55; refine (HAS.out _ _ hA3).mono ?_; rintro e w4 ⟨u4, rfl, hu4, hx4⟩))
      go_ret
      have hz3 := ho3.size
      have hu4' : IsSlice repTk w4 (fun k => Proofs.Ytimlbebockfioaa.fresh w w4 k ∧ col k = 0) u4 (asksK s) := hu4.keep fun k hk => ⟨⟨⟨by have := hk.1; omega, hk.2⟩, Classical.byContradiction fun hc => by have := HA.out.lt k hc; have := hk.1; omega⟩, fun _ => rfl⟩
      exact ⟨u4, rfl, col, hA3.ext hx4, fun k => .inl rfl, hu4', (Out.of_only (X := fun k => col k ≠ 0) ho3 (by rw [HA.out.cb]; omega)).then hx4⟩
theorem akPoll_any (h : AkAt col w ga gq gt b gs most room s) (ok : AkOk most room s) (id : Int) :
    Calls Try.prog 28 #[.pointer (some ⟨ga, 0, none⟩), .int .i64 id] w fun e w' => e = .returned (.tuple #[.int .i64 (pollK s id).1, .int .i64 (pollK s id).2]) ∧ w = w' := by
  have HI := hid (akIs_any h)
  obtain ⟨tv, hb, hrow⟩ := h.is
  obtain ⟨_, _, _, c3, _, _, _, _, c8⟩ := akCellsAt hb
  obtain ⟨A, n, cc, rfl, hn1, hn2, hr⟩ := hrow.slice
  have hn := hr.1
  obtain ⟨AC, hAC⟩ : ∃ AC : Int, AC = (s.acc : Int) := ⟨_, rfl⟩
  have hP : pollK s id = if id < 0 ∨ AC ≤ id then (0, 4) else if id < (n : Int) then ((s.told[id.toNat]?).getD 0, 0) else (0, 0) := by rw [hAC, ← hn]; rfl
  rw [← hAC] at c3
  rw [hP]
  unfold maxLen at hn2
  clear hb hrow hP hAC h ok hn
  by_cases h1 : id < 0
  · rw [if_pos (.inl h1)]
    have d1 : decide (id < 0) = true := decide_eq_true h1
    clear h1 hr
    go_enter Try.func28, Try.ntmps28
    go_wp2_with (go_at_call 51; refine HI.out.mono ?_; rintro e w2 ⟨rfl, rfl⟩)
    go_ret2
    exact ⟨rfl, rfl⟩
  · have d1 : decide (id < 0) = false := decide_eq_false h1
    by_cases h2 : AC ≤ id
    · rw [if_pos (.inr h2)]
      have d2 : decide (AC ≤ id) = true := decide_eq_true h2
      clear h1 h2 hr
      go_enter Try.func28, Try.ntmps28
      go_wp2_with (go_at_call 51; refine HI.out.mono ?_; rintro e w2 ⟨rfl, rfl⟩)
      go_ret2
      exact ⟨rfl, rfl⟩
    · rw [if_neg (by omega)]
      have d2 : decide (AC ≤ id) = false := decide_eq_false h2
      by_cases h3 : id < (n : Int)
      · rw [if_pos h3]
        have d3 : decide (id < (n : Int)) = true := decide_eq_true h3
        obtain ⟨j, rfl⟩ := Int.eq_ofNat_of_zero_le (a := id) (by omega)
        have hj : j < n := by omega
        obtain ⟨bk, off, y, rfl, _, hy, hcy, _⟩ := hr.int hj
        have hv : (s.told[(j : Int).toNat]?).getD 0 = y := by rw [Int.toNat_natCast, hy]; rfl
        rw [hv]
        clear h1 h2 hr hy hv
        go_enter Try.func28, Try.ntmps28
        go_wp2_with (go_at_call 51; refine HI.out.mono ?_; rintro e w2 ⟨rfl, rfl⟩)
        go_ret2
        exact ⟨rfl, rfl⟩
      · rw [if_neg h3]
        have d3 : decide (id < (n : Int)) = false := decide_eq_false h3
        clear h1 h2 h3 hr
        go_enter Try.func28, Try.ntmps28
        go_wp2_with (go_at_call 51; refine HI.out.mono ?_; rintro e w2 ⟨rfl, rfl⟩)
        go_ret2
        exact ⟨rfl, rfl⟩
theorem akState_any (h : AkAt col w ga gq gt b gs most room s) :
    Calls Try.prog 24 #[.pointer (some ⟨ga, 0, none⟩)] w fun e w' => e = .returned (.agg #[.int .i64 (s.acc : Int), .int .i64 (s.told.length : Int), .int .u64 s.t, .int .u64 s.r, .bool s.bound]) ∧ Ext w w' := by
  have hx1 := ext_alloc w (.cells #[.int .i64 0, .int .i64 0, .int .u64 0, .int .u64 0, .bool false] 66)
  have h1 := h.ext hx1
  have HI := hid (akIs_any h1)
  obtain ⟨tv, hb, _⟩ := h1.is
  obtain ⟨_, _, _, c3, c4, c5, c6, c7, _⟩ := akCellsAt hb
  have hbb := Blk.new w 66 #[.int .i64 0, .int .i64 0, .int .u64 0, .int .u64 0, .bool false]
  have z0 := hbb.cell 0
  have z1 := hbb.cell 1
  have z2 := hbb.cell 2
  have z3 := hbb.cell 3
  have z4 := hbb.cell 4
  have y0 := hbb.frozen 0
  have y1 := hbb.frozen 1
  have y2 := hbb.frozen 2
  have y3 := hbb.frozen 3
  have y4 := hbb.frozen 4
  have hne : ga ≠ w.heap.size := by obtain ⟨_, hq, _⟩ := h.is; have := hq.lt; omega
  obtain ⟨AC, hAC⟩ : ∃ AC : Int, AC = (s.acc : Int) := ⟨_, rfl⟩
  obtain ⟨TN, hTN⟩ : ∃ TN : Int, TN = (s.told.length : Int) := ⟨_, rfl⟩
  rw [← hAC] at c3 ⊢
  rw [← hTN] at c4 ⊢
  clear h h1 hb hAC hTN
  go_enter Try.func24, Try.ntmps24
  go_wp2_with (go_at_call 51; refine HI.out.mono ?_; rintro e w2 ⟨rfl, rfl⟩)
  exact bodyPost_ret (results_cell_row rfl _ _ w.heap.size _ _ (0, 0) _ rfl (Blk.new w 66 #[.int .i64 AC, .int .i64 TN, .int .u64 s.t, .int .u64 s.r, .bool s.bound]) Try.underlying66 rfl (by kernel_rfl)) rfl ⟨rfl, ext_alloc _ _⟩
end
end Go.Proofs.Ytimlbebockfioaa
