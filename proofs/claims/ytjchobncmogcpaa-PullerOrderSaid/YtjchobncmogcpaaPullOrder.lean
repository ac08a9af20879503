/- The walk of PullerOrder. -/
import Derived.Test.YtjchobncmogcpaaPullLive
namespace Go.Proofs.Ytjchobncmogcpaa
open Go.RowKit

set_option maxRecDepth 100000
section
set_option maxHeartbeats 2000000 in
theorem orderBad_any (c : Cfg) (hw : (Lit.int .i64 c.w).wf = true) (v1 v2 : Value) (ls : List (List UInt8)) (os : List Int) (W : World) (o1 : IsSlice (repSlice repByte) W (all W) v1 ls) (o2 : IsSlice (repInt .i64) W (all W) v2 os)
    (hbad : checkV c.w c.m c.l ≠ 0 ∨ c.room < 1 ∨ 16 < c.room ∨ 40 < ls.length ∨ 200 < os.length) :
    Calls Try.prog 3 #[.agg (cfgVals c).toArray, v1, v2] W fun e w' => e = .returned (.bool true) ∧ Ext W w' := by
  have HLV := hid pullLive_any
  have hb := Blk.new W 24 (cfgVals c).toArray
  have hx := ext_alloc W (.cells (cfgVals c).toArray 24)
  have b0 := hb.cell 0
  have b1 := hb.cell 1
  have b2 := hb.cell 2
  have b3 := hb.cell 3
  have b4 := hb.cell 4
  have b5 := hb.cell 5
  have b6 := hb.cell 6
  by_cases hc : checkV c.w c.m c.l ≠ 0
  · have HN := hid (fun W1 => newPBad_any W1 c hw hc)
    have hcB : (checkV c.w c.m c.l != 0) = true := by simpa using hc
    clear hc hbad o1 o2 hw
    generalize checkV c.w c.m c.l = cv at *
    unfold cfgVals at *
    go_enter Try.func3, Try.ntmps3
    go_wp2_with (first
      | (go_at_call 14; refine (HN.out _).mono ?_; rintro e w1 ⟨rfl, hx1⟩)
      | (go_at_call 15; refine (pnum_any _ _).mono ?_; rintro e w5 ⟨rfl, rfl⟩)
      | (go_at_call 16; refine (HLV.out _).mono ?_; rintro e w2 ⟨rfl, hx2⟩))
    go_ret
    exact ⟨rfl, Ext.trans (Ext.trans hx hx1) hx2⟩
  · have hc : checkV c.w c.m c.l = 0 := by simpa using hc
    by_cases hr : c.room < 1 ∨ 16 < c.room
    · have HN := hid (fun W1 => newPRoom_any W1 c hw hc hr)
      clear hc hbad o1 o2 hw hr
      unfold cfgVals at *
      go_enter Try.func3, Try.ntmps3
      go_wp2_with (first
        | (go_at_call 14; refine (HN.out _).mono ?_; rintro e w1 ⟨rfl, hx1⟩)
        | (go_at_call 15; refine (pnum_any _ _).mono ?_; rintro e w5 ⟨rfl, rfl⟩)
        | (go_at_call 16; refine (HLV.out _).mono ?_; rintro e w2 ⟨rfl, hx2⟩))
      go_ret
      exact ⟨rfl, Ext.trans (Ext.trans hx hx1) hx2⟩
    · have HN := hid (fun W1 => newP_any W1 c hw hc (by omega) (by omega))
      have hlens : 40 < ls.length ∨ 200 < os.length := by omega
      obtain ⟨A1, c1, rfl⟩ := o1.shape
      obtain ⟨A2, c2, rfl⟩ := o2.shape
      clear o1 o2 hw hc hr hbad
      generalize ls.length = n1 at *
      generalize os.length = n2 at *
      unfold cfgVals at *
      by_cases h40 : 40 < n1
      · clear hlens
        go_enter Try.func3, Try.ntmps3
        go_wp2_with (first
          | (go_at_call 14; refine (HN.out _).mono ?_; rintro e w1 ⟨gp, gq, gm, rfl, _, hx1, _⟩)
          | (go_at_call 15; refine (pnum_any _ _).mono ?_; rintro e w5 ⟨rfl, rfl⟩)
          | (go_at_call 16; refine (HLV.out _).mono ?_; rintro e w2 ⟨rfl, hx2⟩))
        go_ret
        exact ⟨rfl, Ext.trans (Ext.trans hx hx1) hx2⟩
      · have h200 : 200 < n2 := by omega
        clear hlens
        go_enter Try.func3, Try.ntmps3
        go_wp2_with (first
          | (go_at_call 14; refine (HN.out _).mono ?_; rintro e w1 ⟨gp, gq, gm, rfl, _, hx1, _⟩)
          | (go_at_call 15; refine (pnum_any _ _).mono ?_; rintro e w5 ⟨rfl, rfl⟩)
          | (go_at_call 16; refine (HLV.out _).mono ?_; rintro e w2 ⟨rfl, hx2⟩))
        go_ret
        exact ⟨rfl, Ext.trans (Ext.trans hx hx1) hx2⟩
end
end Go.Proofs.Ytjchobncmogcpaa
