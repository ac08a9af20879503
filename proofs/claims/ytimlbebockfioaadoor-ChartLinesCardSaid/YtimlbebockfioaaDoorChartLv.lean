/- The walk of the chart's laws' live. -/
import Derived.Test.YtimlbebockfioaaDoorChartO
import Derived.Test.YtimlbebockfioaaDoorChartRo
namespace Go.Proofs.YtimlbebockfioaaDoor
open Go.RowKit

def lvL : List UInt8 := [51, 32, 115, 101, 110, 116, 32, 49, 32, 54, 49]
def lvE : Ev := ⟨3, 0, 1, [97]⟩
theorem lv_show : showG lvE = lvL := by
  have e3 : Lib.itoa 3 = [51] := by rw [itoa_pos (by decide)]; exact Lib.decDigits_one (by decide)
  have e1 : Lib.itoa 1 = [49] := by rw [itoa_pos (by decide)]; exact Lib.decDigits_one (by decide)
  unfold showG
  rw [if_pos (by decide)]
  show joinW [Lib.itoa 3, wordK 0, Lib.itoa 1, dataG [97]] = lvL
  rw [e3, e1]
  decide
theorem lv_parse : parseG lvL = some lvE := by
  rw [← lv_show]
  exact parse_show (by decide)
set_option maxRecDepth 100000
section
theorem cnum_any (x : Int) (w : World) : Calls Tryd.prog 12 #[.int .i64 x] w fun e w' => e = .returned (.int .i64 x) ∧ w = w' := by
  go_enter Tryd.func12, Tryd.ntmps12
  go_wp2
  go_ret
  exact ⟨rfl, rfl⟩
set_option maxHeartbeats 2000000 in
theorem live35_any (w : World) (HL : Laid w) : Calls Tryd.prog 7 #[] w fun e w' => e = .returned (.bool true) ∧ Ext w w' := by
  have HLL := hid HL
  have HP : Wall (Calls Tryd.prog 8 #[.string ⟨#[51, 32, 115, 101, 110, 116, 32, 49, 32, 54, 49]⟩] w (ParseRes lvL w)) := hid (parse_any lvL w HL (by decide))
  clear HL
  go_enter Tryd.func7, Tryd.ntmps7
  go_upto_region 2 with (go_at_call 8; refine HP.out.mono ?_; rintro e w2 ⟨ev, v, n, rfl, hor, hs, hx2⟩; obtain ⟨A, c, rfl⟩ := hs.shape)
  have hev : n = 0 ∧ ev = lvE := by
    rcases hor with ⟨h1, h2⟩ | ⟨_, h2, _⟩
    · rw [lv_parse] at h2
      injection h2 with h2
      exact ⟨h1, h2.symm⟩
    · rw [lv_parse] at h2
      cases h2
  obtain ⟨rfl, rfl⟩ := hev
  clear hor
  have hxa := ext_alloc w2 (.cells #[.int .i64 lvE.step, .int .i64 lvE.kind, .int .i64 lvE.place, .slice A lvE.data.length c] 24)
  have HS := hid (show_any 3 0 1 (.slice A 1 c) [97] _ (HLL.out.ext (Ext.trans hx2 hxa)) (hs.any.ext hxa) (by decide))
  have HRW := hid fun W => rows_any (.slice none 0 0) [] W (isSlice_nil _ _ _) (by simp)
  have HSH : Wall (bstr (showG ⟨3, 0, 1, [97]⟩) = ⟨#[51, 32, 115, 101, 110, 116, 32, 49, 32, 54, 49]⟩) := hid (congrArg bstr lv_show)
  rw [HSH.out] at HS
  have HXX := hid (Ext.trans hx2 hxa)
  clear hs hx2 hxa
  simp only [lvE, List.length_cons, List.length_nil, Nat.zero_add] at HXX HS ⊢
  have hbE := Blk.new w2 24 #[.int .i64 3, .int .i64 0, .int .i64 1, .slice A 1 c]
  obtain ⟨gE, hgE⟩ : ∃ gE, gE = w2.heap.size := ⟨_, rfl⟩
  rw [← hgE] at hbE ⊢
  generalize w2.alloc (.cells #[.int .i64 3, .int .i64 0, .int .i64 1, .slice A 1 c] 24) = w3 at *
  have q0 := hbE.cell 0
  have q1 := hbE.cell 1
  have q2 := hbE.cell 2
  have q3 := hbE.cell 3
  clear hgE hbE HSH
  go_wp2_with (first
    | (go_at_call 12; refine (cnum_any _ _).mono ?_; rintro e w5 ⟨rfl, rfl⟩)
    | (go_at_call 10; refine HS.out.mono ?_; rintro e w5 ⟨rfl, hx5⟩)
    | (go_at_call 17; refine (HRW.out _).mono ?_; rintro e w6 ⟨u, rfl, hu, hx6⟩; obtain ⟨Au, cu, rfl⟩ := hu.shape; rw [show (rowsL []).length = 8 from rfl]))
  go_ret
  exact ⟨rfl, Ext.trans HXX.out (Ext.trans hx5 hx6)⟩
end
end Go.Proofs.YtimlbebockfioaaDoor
