/- The asker: Send. -/
import Derived.Test.YtimlbebockfioaaAsk2
namespace Go.Proofs.Ytimlbebockfioaa
open Go.RowKit

section
variable {col : Nat → Nat} {w w' : World} {ga gq gt b gs : Nat} {most room : Int} {s : Ak}
theorem recol_lt {n : Nat} (hlt : ∀ q, col q ≠ 0 → q < w.heap.size) (hs : w.heap.size ≤ w'.heap.size) : ∀ q, recol col w w' n q ≠ 0 → q < w'.heap.size := fun q hq => by
  by_cases hc : col q = 0
  · by_cases hn : w.heap.size ≤ q ∧ q < w'.heap.size
    · exact hn.2
    · unfold recol at hq; rw [if_neg hn] at hq; exact absurd hc hq
  · exact Nat.lt_of_lt_of_le (hlt q hc) hs
/-- Its queue turns. -/
theorem AkAt.queue (h : AkAt col w ga gq gt b gs most room s) {q : List (List UInt8)} (hq : QF (grow (fun k => col k = 6) w w') w' gq room q) (ho : Only gq w w') : AkAt (recol col w w' 6) w' ga gq gt b gs most room ⟨q, s.T, s.D, s.U, s.acc, s.t, s.r, s.bound, s.told⟩ := by
  obtain ⟨tv, h1, h2⟩ := h.is
  have hO : Out (fun q => q = gq) w w' := Out.of_only ho rfl
  have hne : ∀ {q m}, m ≠ 2 → col q = m → ¬ q = gq := fun hm hc e => hm (by rw [← hc, e, h.cq])
  have hr : ∀ {k m}, m ≠ 0 → col k = m → recol col w w' 6 k = m := fun hm hc => recol_is h.lt hm hc
  have hlt := recol_lt (n := 6) h.lt ho.size
  have he : ∀ {m : Nat}, m ≠ 6 → m ≠ 0 → (fun k => recol col w w' 6 k = m) = fun k => col k = m := fun hm h0 => funext fun q => propext ⟨fun e => recol_from hm e, fun e => hr h0 e⟩
  refine ⟨hr (by omega) h.ca, hr (by omega) h.cq, hr (by omega) h.ct, hr (by omega) h.cb, hr (by omega) h.cs, hlt, ?_, h.tm.out3 hO (hne (by omega) h.ct) (hne (by omega) h.cb), ?_, tv, h1.out hO (hne (by omega) h.ca), ?_⟩
  · refine hq.mono (fun k hk => hk.elim (fun e => hr (by omega) e) fun e => recol_mk e) (fun hk => ?_) fun k hk => hlt k (by omega)
    rw [hr (by omega) h.cq] at hk
    omega
  · rw [he (by omega) (by omega), he (by omega) (by omega)]
    exact h.src.away hO fun q hq => ⟨fun e => hne (by omega) h.cs (e ▸ hq), fun e => hne (by omega) e hq, fun e => hne (by omega) e hq⟩
  · rw [he (by omega) (by omega)]
    exact h2.frame ho.size fun k hk hF => hO.block k hk (hne (by omega) hF)
/-- What is told turns. -/
theorem AkAt.tell (h : AkAt col w ga gq gt b gs most room s) {told : List Int} {tv : Value} (hrow : RowF (grow (fun k => col k = 9) w w') (repInt .i64) 3 w' tv told) (ho : Out (fun q => q = ga ∨ col q = 9) w w') (hb : Blk w' ga 112 (akCells gq gt gs s.acc told.length s.t s.r s.bound tv)) : AkAt (recol col w w' 9) w' ga gq gt b gs most room ⟨s.q, s.T, s.D, s.U, s.acc, s.t, s.r, s.bound, told⟩ := by
  have hne : ∀ {q m}, m ≠ 1 → m ≠ 9 → col q = m → ¬ (q = ga ∨ col q = 9) := fun hm hm2 hc e => e.elim (fun e => hm (by rw [← hc, e, h.ca])) fun e => hm2 (hc.symm.trans e)
  have hr : ∀ {k m}, m ≠ 0 → col k = m → recol col w w' 9 k = m := fun hm hc => recol_is h.lt hm hc
  have hlt := recol_lt (n := 9) h.lt ho.size
  have he : ∀ {m : Nat}, m ≠ 9 → m ≠ 0 → (fun k => recol col w w' 9 k = m) = fun k => col k = m := fun hm h0 => funext fun q => propext ⟨fun e => recol_from hm e, fun e => hr h0 e⟩
  refine ⟨hr (by omega) h.ca, hr (by omega) h.cq, hr (by omega) h.ct, hr (by omega) h.cb, hr (by omega) h.cs, hlt, ?_, h.tm.out3 ho (hne (by omega) (by omega) h.ct) (hne (by omega) (by omega) h.cb), ?_, tv, hb, ?_⟩
  · rw [he (by omega) (by omega)]
    exact h.q.away ho fun k hk => ⟨fun e => hne (by omega) (by omega) h.cq (e ▸ hk), fun e => hne (by omega) (by omega) e hk⟩
  · rw [he (by omega) (by omega), he (by omega) (by omega)]
    exact h.src.away ho fun q hq => ⟨fun e => hne (by omega) (by omega) h.cs (e ▸ hq), fun e => hne (by omega) (by omega) e hq, fun e => hne (by omega) (by omega) e hq⟩
  · exact hrow.mono fun q _ hq => hq.elim (fun e => hr (by omega) e) fun e => recol_mk e
/-- A call behind another. -/
theorem AkRes.after {w1 : World} {col1 : Nat → Nat} {u : Value} {xs : List Tk} {s' : Ak} (h : AkRes col1 w1 ga gq gt b gs most room s' u xs w') (hlt : ∀ q, col q ≠ 0 → q < w.heap.size) (h1 : ∀ k, col1 k = col k ∨ Proofs.Ytimlbebockfioaa.fresh w w1 k) (ho : Out (fun k => col k ≠ 0) w w1) : AkRes col w ga gq gt b gs most room s' u xs w' := by
  obtain ⟨col', k1, k2, k3, k4⟩ := h
  have hs := ho.size
  have hs4 := k4.size
  refine ⟨col', k1, fun k => ?_, k3.keep fun k hk => ⟨⟨⟨Nat.le_trans hs hk.1.1, hk.1.2⟩, hk.2⟩, fun _ => rfl⟩, ho.trans2 k4 fun q hq hy => ?_⟩
  · rcases k2 k with e | e
    · rcases h1 k with e1 | e1
      · exact .inl (e.trans e1)
      · exact .inr ⟨e1.1, Nat.lt_of_lt_of_le e1.2 hs4⟩
    · exact .inr ⟨Nat.le_trans hs e.1, e.2⟩
  · rcases h1 q with e | e
    · rwa [e] at hy
    · have := e.1; omega
theorem recol_fresh {n : Nat} : ∀ k, recol col w w' n k = col k ∨ Proofs.Ytimlbebockfioaa.fresh w w' k := fun k => by
  by_cases hn : w.heap.size ≤ k ∧ k < w'.heap.size
  · exact .inr hn
  · unfold recol; rw [if_neg hn]; exact .inl rfl
/-- Nothing is given. -/
theorem AkRes.nil {s' : Ak} {col' : Nat → Nat} (h : AkAt col' w' ga gq gt b gs most room s') (h1 : ∀ k, col' k = col k ∨ Proofs.Ytimlbebockfioaa.fresh w w' k) (ho : Out (fun k => col k ≠ 0) w w') : AkRes col w ga gq gt b gs most room s' (.slice none 0 0) [] w' :=
  ⟨col', h, h1, isSlice_nil _ _ _, ho⟩
end
set_option maxRecDepth 100000
section
variable {col : Nat → Nat} {w : World} {ga gq gt b gs : Nat} {most room : Int} {s : Ak}
theorem akSendLong_any (h : AkAt col w ga gq gt b gs most room s) (A : Option Addr) (n c : Nat) (hn : 64 < n) :
    Calls Try.prog 25 #[.pointer (some ⟨ga, 0, none⟩), .slice A n c] w fun e w' => e = .returned (.tuple #[.int .i64 0, .slice none 0 0, .int .i64 2]) ∧ w = w' := by
  have HI := hid (akIs_any h)
  have HL := hid (lenF_any h.q)
  have HP := hid (pushLong_any h.q A n c hn)
  obtain ⟨tv, hb, _⟩ := h.is
  obtain ⟨c0, _⟩ := akCellsAt hb
  clear h hb hn
  go_enter Try.func25, Try.ntmps25
  go_wp2_with (first
    | (go_at_call 51; refine HI.out.mono ?_; rintro e w2 ⟨rfl, rfl⟩)
    | (go_at_call 52; refine HL.out.mono ?_; rintro e w2 ⟨rfl, rfl⟩)
    | (go_at_call 53; refine HP.out.mono ?_; rintro e w2 ⟨rfl, rfl⟩))
  exact bodyPost_ret (results3 rfl _ _ _) rfl ⟨rfl, rfl⟩
theorem akSendFull_any (h : AkAt col w ga gq gt b gs most room s) (A : Option Addr) (n c : Nat) (hn : n ≤ 64) (hr : room ≤ (s.q.length : Int)) :
    Calls Try.prog 25 #[.pointer (some ⟨ga, 0, none⟩), .slice A n c] w fun e w' => e = .returned (.tuple #[.int .i64 0, .slice none 0 0, .int .i64 3]) ∧ ∃ d, w' = w.drewN d := by
  have HI := hid (akIs_any h)
  have HL := hid (lenF_any h.q)
  have HP := hid (pushFull_any h.q A n c hn hr)
  obtain ⟨tv, hb, _⟩ := h.is
  obtain ⟨c0, _⟩ := akCellsAt hb
  clear h hb hn hr
  go_enter Try.func25, Try.ntmps25
  go_wp2_with (first
    | (go_at_call 51; refine HI.out.mono ?_; rintro e w2 ⟨rfl, rfl⟩)
    | (go_at_call 52; refine HL.out.mono ?_; rintro e w2 ⟨rfl, rfl⟩)
    | (go_at_call 53; refine HP.out.mono ?_; rintro e w2 ⟨rfl, d, rfl⟩))
  exact bodyPost_ret (results3 rfl _ _ _) rfl ⟨rfl, _, rfl⟩
set_option maxHeartbeats 2000000 in
theorem akSend_any (h : AkAt col w ga gq gt b gs most room s) (ok : AkOk most room s) (hD : s.D.length ≤ 1000) (hacc : s.acc ≤ 900) (v : Value) (x : List UInt8) (hv : IsSlice repByte w (all w) v x) (hx : x.length ≤ 64) (hr : (s.q.length : Int) < room) :
    Calls Try.prog 25 #[.pointer (some ⟨ga, 0, none⟩), v] w fun e w' => ∃ u, e = .returned (.tuple #[.int .i64 (s.acc : Int), u, .int .i64 0]) ∧ AkRes col w ga gq gt b gs most room (sendK s x).1 u (sendK s x).2 w' := by
  have HI := hid (akIs_any h)
  have HL := hid (lenF_any h.q)
  have HP := hid (pushF_any h.q v x hv hx hr)
  obtain ⟨tv, hb, _⟩ := h.is
  have HB := hid hb
  obtain ⟨c0, _, _, c3, _⟩ := akCellsAt hb
  have hag : ga ≠ gq := fun e => by have h1 := h.ca; rw [e, h.cq] at h1; omega
  have HA := hid h
  have HOK := hid ok
  have hud := ok.ud
  have hT := ok.tm.asc
  have hwd := ok.wd
  have HBG := hid fun (w1 : World) (s1 : Ak) (c1 : Nat → Nat) (h1 : AkAt c1 w1 ga gq gt b gs most room s1) (e1 : s1.T = s.T) (e2 : s1.D = s.D) (e3 : s1.U = s.U) => akBegin_any h1 (by rw [e1]; exact hT) (by rw [e2]; exact hD) (by rw [e3]; omega) (by rw [e2]; exact hwd)
  obtain ⟨AC, hAC⟩ : ∃ AC, AC = s.acc := ⟨_, rfl⟩
  rw [← hAC] at c3 hacc ⊢
  have HAC := hid hAC
  obtain ⟨QL, hQL⟩ : ∃ QL, QL = s.q.length := ⟨_, rfl⟩
  rw [← hQL] at HL
  have hwr : ((AC : Int) + 1) = ((AC + 1 : Nat) : Int) := by push_cast; rfl
  have HWR := hid hwr
  have hfin : ∀ w2, QF (grow (fun k => col k = 6) w w2) w2 gq room (s.q ++ [x]) → Only gq w w2 → AkAt (recol col w w2 6) (w2.setCell ⟨ga, 3, none⟩ (.int .i64 ((AC : Int) + 1))) ga gq gt b gs most room ⟨s.q ++ [x], s.T, s.D, s.U, AC + 1, s.t, s.r, s.bound, s.told⟩ ∧ Out (fun k => col k ≠ 0) w (w2.setCell ⟨ga, 3, none⟩ (.int .i64 ((AC : Int) + 1))) := fun w2 hq2 ho2 => by
    have hA2 := HA.out.queue hq2 ho2
    have hb2 := HB.out.out (Out.of_only (X := fun q => q = gq) ho2 rfl) hag
    have ho3 : Only ga w2 (w2.setCell ⟨ga, 3, none⟩ (.int .i64 ((AC : Int) + 1))) := (Only.refl _ _).set_ _ _
    have hb3 : Blk (w2.setCell ⟨ga, 3, none⟩ (.int .i64 ((AC : Int) + 1))) ga 112 (akCells gq gt gs (AC + 1) s.told.length s.t s.r s.bound tv) := by
      rw [HWR.out]
      exact hb2.set_ 3 (.int .i64 ((AC + 1 : Nat) : Int))
    exact ⟨hA2.own ho3 (hb2.cell 8) hb3, (Out.of_only ho2 (by rw [HA.out.cq]; omega)).trans (Out.of_only ho3 (by rw [HA.out.ca]; omega))⟩
  have HFIN := hid hfin
  obtain ⟨Av, cv, rfl⟩ := hv.shape
  have hsnd : sendK s x = if s.q = [] then (beginK ⟨[x], s.T, s.D, s.U, AC + 1, s.t, s.r, s.bound, s.told⟩, asksK (beginK ⟨[x], s.T, s.D, s.U, AC + 1, s.t, s.r, s.bound, s.told⟩)) else (⟨s.q ++ [x], s.T, s.D, s.U, AC + 1, s.t, s.r, s.bound, s.told⟩, []) := by rw [hAC]; rfl
  by_cases hq0 : s.q = []
  · rw [if_pos hq0] at hsnd
    have hq1 : s.q ++ [x] = [x] := by rw [hq0]; rfl
    have hz : QL = 0 := by rw [hQL, hq0]; rfl
    subst hz
    rw [hsnd]
    rw [hq1] at HFIN HP
    clear hq0 hq1 hsnd hQL hAC h hb ok hv hfin hud hT hwd hwr hr
    go_enter Try.func25, Try.ntmps25
    go_upto_region 9 with (first
      | (go_at_call 51; refine HI.out.mono ?_; rintro e w2 ⟨rfl, rfl⟩)
      | (go_at_call 52; refine HL.out.mono ?_; rintro e w2 ⟨rfl, rfl⟩)
      | (go_at_call 53; refine HP.out.mono ?_; rintro e w2 ⟨rfl, hq2, ho2⟩; have hb2 := HB.out.out (Out.of_only (X := fun q => q = gq) ho2 rfl) hag; have i3 := (akCellsAt hb2).2.2.2.1; rw [← HAC.out] at i3; have y3 := hb2.frozen 3))
    obtain ⟨hA4, ho4⟩ := HFIN.out _ hq2 ho2
    have hz42 : w2.heap.size ≤ (w2.setCell ⟨ga, 3, none⟩ (.int .i64 ((AC : Int) + 1))).heap.size := by simp
    generalize w2.setCell ⟨ga, 3, none⟩ (.int .i64 ((AC : Int) + 1)) = w4 at *
    clear hb2 i3 y3 hq2 c0 c3
    have HB4 := hid (HBG.out _ _ _ hA4 rfl rfl rfl)
    go_wp2_with (go_at_call 54; refine HB4.out.mono ?_; rintro e w5 ⟨u, rfl, hres⟩)
    refine bodyPost_ret (results3 rfl _ _ _) rfl ?_
    exact ⟨u, rfl, hres.after HA.out.lt (fun k => (recol_fresh (col := col) (w := w) (w' := w2) (n := 6) k).imp id fun e => ⟨e.1, Nat.lt_of_lt_of_le e.2 hz42⟩) ho4⟩
  · rw [if_neg hq0] at hsnd
    have hz : 0 < QL := by rw [hQL]; exact List.length_pos_iff.2 hq0
    have hzB : (QL == 0) = false := by simp; omega
    have hzB2 : ((QL : Int) == 0) = false := by simp; omega
    rw [hsnd]
    clear hq0 hsnd hQL hAC h hb ok hv hfin hud hT hwd hwr hz hr HBG
    go_enter Try.func25, Try.ntmps25
    go_upto_region 9 with (first
      | (go_at_call 51; refine HI.out.mono ?_; rintro e w2 ⟨rfl, rfl⟩)
      | (go_at_call 52; refine HL.out.mono ?_; rintro e w2 ⟨rfl, rfl⟩)
      | (go_at_call 53; refine HP.out.mono ?_; rintro e w2 ⟨rfl, hq2, ho2⟩; have hb2 := HB.out.out (Out.of_only (X := fun q => q = gq) ho2 rfl) hag; have i3 := (akCellsAt hb2).2.2.2.1; rw [← HAC.out] at i3; have y3 := hb2.frozen 3))
    obtain ⟨hA4, ho4⟩ := HFIN.out _ hq2 ho2
    clear hb2 i3 y3 hq2 c0 c3
    go_wp2
    refine bodyPost_ret (results3 rfl _ _ _) rfl ?_
    exact ⟨_, rfl, AkRes.nil hA4 (fun k => (recol_fresh (col := col) (w := w) (w' := w2) (n := 6) k).imp id fun e => ⟨e.1, by simpa using e.2⟩) ho4⟩
end
end Go.Proofs.Ytimlbebockfioaa
