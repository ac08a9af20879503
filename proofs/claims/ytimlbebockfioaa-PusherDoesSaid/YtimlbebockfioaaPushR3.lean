/- The pusher's reference: New, Poll, Tick. -/
import Derived.Test.YtimlbebockfioaaPushR2
import Derived.Test.YtimlbebockfioaaPusher7
namespace Go.Proofs.Ytimlbebockfioaa
open Go.RowKit

def pollV (s : Ps) (id : Int) : Int × Int := if id < 0 ∨ (s.acc.length : Int) ≤ id then (0, 4) else if id < s.base then (1, 0) else (0, 0)
set_option maxRecDepth 100000
section
theorem newRpBad_any (w : World) (c : Cfg) (hw : (Lit.int .i64 c.w).wf = true) (hb : checkV c.w c.m c.l ≠ 0) :
    Calls Try.prog 16 #[.agg (cfgVals c).toArray] w fun e w' => e = .returned (.tuple #[.pointer none, .int .i64 (checkV c.w c.m c.l)]) ∧ Ext w w' := by
  have HC := hid (fun W => checkRingR_any c.w c.m c.l W hw)
  have hbB : (checkV c.w c.m c.l != 0) = true := by simpa using hb
  unfold cfgVals
  generalize checkV c.w c.m c.l = cv at *
  clear hw hb
  go_enter Try.func16, Try.ntmps16
  go_wp2_with (go_at_call 41; refine (HC.out _).mono ?_; rintro e w2 ⟨rfl, rfl⟩)
  go_ret2
  exact ⟨rfl, ext_alloc _ _⟩
theorem newRpB_any (w : World) (c : Cfg) (hw : (Lit.int .i64 c.w).wf = true) (hb : checkV c.w c.m c.l = 0) (hbb : c.b < 1 ∨ 64 < c.b) :
    Calls Try.prog 16 #[.agg (cfgVals c).toArray] w fun e w' => e = .returned (.tuple #[.pointer none, .int .i64 1]) ∧ Ext w w' := by
  have HC := hid (fun W => checkRingR_any c.w c.m c.l W hw)
  have HT := hid (fun W => rtNew_no W c.b hbb)
  rw [hb] at HC
  unfold cfgVals
  clear hw hb hbb
  go_enter Try.func16, Try.ntmps16
  go_wp2_with (first
    | (go_at_call 41; refine (HC.out _).mono ?_; rintro e w2 ⟨rfl, rfl⟩)
    | (go_at_call 42; refine (HT.out _).mono ?_; rintro e w2 ⟨rfl, rfl⟩))
  go_ret2
  exact ⟨rfl, ext_alloc _ _⟩
theorem newRpRoom_any (w : World) (c : Cfg) (hw : (Lit.int .i64 c.w).wf = true) (hb : checkV c.w c.m c.l = 0) (hb1 : 1 ≤ c.b) (hb2 : c.b ≤ 64) (hr : c.room < 1 ∨ 16 < c.room) :
    Calls Try.prog 16 #[.agg (cfgVals c).toArray] w fun e w' => e = .returned (.tuple #[.pointer none, .int .i64 1]) ∧ Ext w w' := by
  have HC := hid (fun W => checkRingR_any c.w c.m c.l W hw)
  have HT := hid (fun W => rtNew_yes W c.b hb1 hb2)
  rw [hb] at HC
  unfold cfgVals
  have hb1 := Blk.new w 24 (cfgVals c).toArray
  unfold cfgVals at hb1
  have hx1 := ext_alloc w (.cells (cfgVals c).toArray 24)
  unfold cfgVals at hx1
  clear hw hb
  rcases hr with hr | hr
  · have hd1 : decide (c.room < 1) = true := decide_eq_true (by omega)
    go_enter Try.func16, Try.ntmps16
    go_wp2_with (first
      | (go_at_call 41; refine (HC.out _).mono ?_; rintro e w2 ⟨rfl, rfl⟩)
      | (go_at_call 42; refine (HT.out _).mono ?_; rintro e w2 ⟨gt, rfl, hgt, htm, hx2⟩; have hb2 := hb1.ext hx2; have b5 := hb2.cell 5))
    go_ret2
    exact ⟨rfl, Ext.trans hx1 hx2⟩
  · have hd1 : decide (c.room < 1) = false := decide_eq_false (by omega)
    have hd2 : decide (16 < c.room) = true := decide_eq_true (by omega)
    go_enter Try.func16, Try.ntmps16
    go_wp2_with (first
      | (go_at_call 41; refine (HC.out _).mono ?_; rintro e w2 ⟨rfl, rfl⟩)
      | (go_at_call 42; refine (HT.out _).mono ?_; rintro e w2 ⟨gt, rfl, hgt, htm, hx2⟩; have hb2 := hb1.ext hx2; have b5 := hb2.cell 5))
    go_ret2
    exact ⟨rfl, Ext.trans hx1 hx2⟩
theorem newRp_any (w : World) (c : Cfg) (hw : (Lit.int .i64 c.w).wf = true) (hb : checkV c.w c.m c.l = 0) (hb1 : 1 ≤ c.b) (hb2 : c.b ≤ 64) (h1 : 1 ≤ c.room) (h2 : c.room ≤ 16) :
    Calls Try.prog 16 #[.agg (cfgVals c).toArray] w fun e w' => ∃ gr gt, e = .returned (.tuple #[.pointer (some ⟨gr, 0, none⟩), .int .i64 0]) ∧ RpAt (fun _ => False) w' gr gt c ⟨[], 0, 0, []⟩ ∧ Ext w w' ∧ w.heap.size ≤ gr ∧ ∀ k, rtOwn w' gt k → w.heap.size ≤ k := by
  have HC := hid (fun W => checkRingR_any c.w c.m c.l W hw)
  have HT := hid (fun W => rtNew_yes W c.b hb1 hb2)
  rw [hb] at HC
  unfold cfgVals
  have hb1 := Blk.new w 24 (cfgVals c).toArray
  unfold cfgVals at hb1
  have hx1 := ext_alloc w (.cells (cfgVals c).toArray 24)
  unfold cfgVals at hx1
  have hd1 : decide (c.room < 1) = false := decide_eq_false (by omega)
  have hd2 : decide (16 < c.room) = false := decide_eq_false (by omega)
  clear hw hb
  go_enter Try.func16, Try.ntmps16
  go_wp2_with (first
    | (go_at_call 41; refine (HC.out _).mono ?_; rintro e w2 ⟨rfl, rfl⟩)
    | (go_at_call 42; refine (HT.out _).mono ?_; rintro e w2 ⟨gt, rfl, hgt, htm, hx2⟩; have hb2 := hb1.ext hx2; have b0 := hb2.cell 0; have b1 := hb2.cell 1; have b2 := hb2.cell 2; have b3 := hb2.cell 3; have b4 := hb2.cell 4; have b5 := hb2.cell 5; have b6 := hb2.cell 6))
  go_ret2
  have hbp := Blk.new w2 86 (psCells c (.slice none 0 0) 0 0 gt)
  have hx3 := ext_alloc w2 (.cells (psCells c (.slice none 0 0) 0 0 gt) 86)
  have hz2 := hx2.size
  simp at hgt hz2
  have hown : ∀ k, rtOwn (w2.alloc (.cells (psCells c (.slice none 0 0) 0 0 gt) 86)) gt k → w.heap.size ≤ k ∧ k < w2.heap.size := fun k hk => by
    have h3 := rtOwn_ext htm hx3 hk
    refine ⟨?_, rtOwn_lt htm h3⟩
    obtain ⟨v, q1, q2⟩ := htm
    rcases (rtOwn_is q1 k).1 h3 with e | e
    · omega
    · have := (q2.lt k e).1; omega
  refine ⟨w2.heap.size, gt, rfl, ⟨fun hk => by have := (hown _ hk).2; omega, fun _ h => h.elim, htm.ext hx3, _, hbp, .inl ⟨own_nil _ _ _ _, fun b hb => by cases hb⟩⟩, Ext.trans (Ext.trans hx1 hx2) hx3, by omega, fun k hk => (hown k hk).1⟩
theorem rpPoll_any (F : Nat → Prop) (w : World) (gr gt : Nat) (c : Cfg) (s : Ps) (h : RpAt F w gr gt c s) (id : Int) :
    Calls Try.prog 33 #[.pointer (some ⟨gr, 0, none⟩), .int .i64 id] w fun e w' => e = .returned (.tuple #[.int .i64 (pollV s id).1, .int .i64 (pollV s id).2]) ∧ ∃ n, w' = w.drewN n := by
  obtain ⟨lv, hb, hrow⟩ := h.is
  obtain ⟨A, cc, rfl, _⟩ := hrow.len
  obtain ⟨_, _, _, c7, c8, _, _, _, _, _⟩ := rpCellsAt hb
  obtain ⟨L, hL⟩ : ∃ L, L = s.acc.length := ⟨_, rfl⟩
  have hP : pollV s id = if id < 0 ∨ (L : Int) ≤ id then (0, 4) else if id < s.base then (1, 0) else (0, 0) := by rw [hL]; rfl
  rw [← hL] at c7
  rw [hP]
  obtain ⟨B, hB⟩ : ∃ B : Int, B = (s.base : Int) := ⟨_, rfl⟩
  rw [← hB] at c8 ⊢
  clear hL hB hb hrow hP h
  by_cases h1 : id < 0
  · rw [if_pos (.inl h1)]
    have d1 : decide (id < 0) = true := decide_eq_true h1
    clear h1
    go_enter Try.func33, Try.ntmps33
    go_wp2
    first | (go_quiet (fail); go_wp2) | skip
    go_ret2
    exact ⟨rfl, 0, rfl⟩
  · have d1 : decide (id < 0) = false := decide_eq_false h1
    by_cases h2 : (L : Int) ≤ id
    · rw [if_pos (.inr h2)]
      have d2 : decide ((L : Int) ≤ id) = true := decide_eq_true h2
      clear h1 h2
      go_enter Try.func33, Try.ntmps33
      go_wp2
      first | (go_quiet (fail); go_wp2) | skip
      go_ret2
      exact ⟨rfl, 0, rfl⟩
    · rw [if_neg (by omega)]
      have d2 : decide ((L : Int) ≤ id) = false := decide_eq_false h2
      by_cases h3 : id < B
      · rw [if_pos h3]
        have d3 : decide (id < B) = true := decide_eq_true h3
        clear h1 h2 h3
        go_enter Try.func33, Try.ntmps33
        go_wp2
        first | (go_quiet (fail); go_wp2) | skip
        go_ret2
        exact ⟨rfl, 0, rfl⟩
      · rw [if_neg h3]
        have d3 : decide (id < B) = false := decide_eq_false h3
        clear h1 h2 h3
        go_enter Try.func33, Try.ntmps33
        go_wp2
        first | (go_quiet (fail); go_wp2) | skip
        go_ret2
        exact ⟨rfl, 0, rfl⟩
end
end Go.Proofs.Ytimlbebockfioaa
