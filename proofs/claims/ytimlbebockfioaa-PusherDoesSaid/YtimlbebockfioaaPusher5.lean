/- The pusher: New. -/
import Derived.Test.YtimlbebockfioaaPusher4
namespace Go.Proofs.Ytimlbebockfioaa
open Go.RowKit

set_option maxRecDepth 100000
section
theorem newPsBad_any (w : World) (c : Cfg) (hw : (Lit.int .i64 c.w).wf = true) (hb : checkV c.w c.m c.l ≠ 0) :
    Calls Try.prog 7 #[.agg (cfgVals c).toArray] w fun e w' => e = .returned (.tuple #[.pointer none, .int .i64 (checkV c.w c.m c.l)]) ∧ Ext w w' := by
  have hwb := bounds_i64 hw
  have HC := hid (fun W => checkRing_any c.w c.m c.l W hwb.1 hwb.2)
  have hbB : (checkV c.w c.m c.l != 0) = true := by simpa using hb
  unfold cfgVals
  generalize checkV c.w c.m c.l = cv at *
  clear hw hwb hb
  go_enter Try.func7, Try.ntmps7
  go_wp2_with (go_at_call 34; refine (HC.out _).mono ?_; rintro e w2 ⟨rfl, rfl⟩)
  go_ret2
  exact ⟨rfl, ext_alloc _ _⟩
theorem newPsB_any (w : World) (c : Cfg) (hw : (Lit.int .i64 c.w).wf = true) (hb : checkV c.w c.m c.l = 0) (hbb : c.b < 1 ∨ 64 < c.b) :
    Calls Try.prog 7 #[.agg (cfgVals c).toArray] w fun e w' => e = .returned (.tuple #[.pointer none, .int .i64 1]) ∧ Ext w w' := by
  have hwb := bounds_i64 hw
  have HC := hid (fun W => checkRing_any c.w c.m c.l W hwb.1 hwb.2)
  have HT := hid (fun W => tmNew_no W c.b hbb)
  rw [hb] at HC
  unfold cfgVals
  clear hw hwb hb hbb
  go_enter Try.func7, Try.ntmps7
  go_wp2_with (first
    | (go_at_call 34; refine (HC.out _).mono ?_; rintro e w2 ⟨rfl, rfl⟩)
    | (go_at_call 35; refine (HT.out _).mono ?_; rintro e w2 ⟨rfl, rfl⟩))
  go_ret2
  exact ⟨rfl, ext_alloc _ _⟩
theorem newPsRoom_any (w : World) (c : Cfg) (hw : (Lit.int .i64 c.w).wf = true) (hb : checkV c.w c.m c.l = 0) (hb1 : 1 ≤ c.b) (hb2 : c.b ≤ 64) (hr : c.room < 1 ∨ 16 < c.room) :
    Calls Try.prog 7 #[.agg (cfgVals c).toArray] w fun e w' => e = .returned (.tuple #[.pointer none, .int .i64 1]) ∧ Ext w w' := by
  have hwb := bounds_i64 hw
  have HC := hid (fun W => checkRing_any c.w c.m c.l W hwb.1 hwb.2)
  have HT := hid (fun W => tmNew_yes W c.b hb1 hb2)
  rw [hb] at HC
  unfold cfgVals
  have hb1 := Blk.new w 24 (cfgVals c).toArray
  unfold cfgVals at hb1
  have hx1 := ext_alloc w (.cells (cfgVals c).toArray 24)
  unfold cfgVals at hx1
  clear hw hwb hb
  rcases hr with hr | hr
  · have hd1 : decide (c.room < 1) = true := decide_eq_true (by omega)
    go_enter Try.func7, Try.ntmps7
    go_wp2_with (first
      | (go_at_call 34; refine (HC.out _).mono ?_; rintro e w2 ⟨rfl, rfl⟩)
      | (go_at_call 35; refine (HT.out _).mono ?_; rintro e w2 ⟨gt, bt, rfl, hgt, hbt, htm, hx2⟩; have hb2 := hb1.ext hx2; have b5 := hb2.cell 5))
    go_ret2
    exact ⟨rfl, Ext.trans hx1 hx2⟩
  · have hd1 : decide (c.room < 1) = false := decide_eq_false (by omega)
    have hd2 : decide (16 < c.room) = true := decide_eq_true (by omega)
    go_enter Try.func7, Try.ntmps7
    go_wp2_with (first
      | (go_at_call 34; refine (HC.out _).mono ?_; rintro e w2 ⟨rfl, rfl⟩)
      | (go_at_call 35; refine (HT.out _).mono ?_; rintro e w2 ⟨gt, bt, rfl, hgt, hbt, htm, hx2⟩; have hb2 := hb1.ext hx2; have b5 := hb2.cell 5))
    go_ret2
    exact ⟨rfl, Ext.trans hx1 hx2⟩
theorem newPs_any (w : World) (c : Cfg) (hw : (Lit.int .i64 c.w).wf = true) (hb : checkV c.w c.m c.l = 0) (hb1 : 1 ≤ c.b) (hb2 : c.b ≤ 64) (h1 : 1 ≤ c.room) (h2 : c.room ≤ 16) :
    Calls Try.prog 7 #[.agg (cfgVals c).toArray] w fun e w' => ∃ gp gt b, e = .returned (.tuple #[.pointer (some ⟨gp, 0, none⟩), .int .i64 0]) ∧ PsAt (fun _ => False) w' gp gt b c ⟨[], 0, 0, []⟩ ∧ Ext w w' ∧ w.heap.size ≤ gp ∧ w.heap.size ≤ gt ∧ w.heap.size ≤ b := by
  have hwb := bounds_i64 hw
  have HC := hid (fun W => checkRing_any c.w c.m c.l W hwb.1 hwb.2)
  have HT := hid (fun W => tmNew_yes W c.b hb1 hb2)
  rw [hb] at HC
  unfold cfgVals
  have hb1 := Blk.new w 24 (cfgVals c).toArray
  unfold cfgVals at hb1
  have hx1 := ext_alloc w (.cells (cfgVals c).toArray 24)
  unfold cfgVals at hx1
  have hd1 : decide (c.room < 1) = false := decide_eq_false (by omega)
  have hd2 : decide (16 < c.room) = false := decide_eq_false (by omega)
  clear hw hwb hb
  go_enter Try.func7, Try.ntmps7
  go_wp2_with (first
    | (go_at_call 34; refine (HC.out _).mono ?_; rintro e w2 ⟨rfl, rfl⟩)
    | (go_at_call 35; refine (HT.out _).mono ?_; rintro e w2 ⟨gt, bt, rfl, hgt, hbt, htm, hx2⟩; have hb2 := hb1.ext hx2; have b0 := hb2.cell 0; have b1 := hb2.cell 1; have b2 := hb2.cell 2; have b3 := hb2.cell 3; have b4 := hb2.cell 4; have b5 := hb2.cell 5; have b6 := hb2.cell 6))
  go_ret2
  have hlt := htm.lt
  have hbp := Blk.new w2 97 (psCells c (.slice none 0 0) 0 0 gt)
  have hx3 := ext_alloc w2 (.cells (psCells c (.slice none 0 0) 0 0 gt) 97)
  have hz2 := hx2.size
  simp at hgt hbt hz2
  refine ⟨w2.heap.size, gt, bt, rfl, ⟨by omega, by omega, fun _ h => h.elim, htm.ext hx3, _, hbp, .inl ⟨own_nil _ _ _ _, fun b hb => by cases hb⟩⟩, Ext.trans (Ext.trans hx1 hx2) hx3, by omega, by omega, by omega⟩
end
end Go.Proofs.Ytimlbebockfioaa
