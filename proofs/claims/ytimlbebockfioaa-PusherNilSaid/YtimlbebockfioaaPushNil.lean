/- The walk of PusherNil: what a nil pusher makes; which settings may not be. -/
import Derived.Test.YtimlbebockfioaaPushF
import Derived.Test.YtimlbebockfioaaPushLive
namespace Go.Proofs.Ytimlbebockfioaa
open Go.RowKit

/-- What is told of settings. -/
def newPE (c : Cfg) : Int := if checkV c.w c.m c.l ≠ 0 then checkV c.w c.m c.l else if (c.b < 1 ∨ 64 < c.b) ∨ c.room < 1 ∨ 16 < c.room then 1 else 0
theorem newPs_gen (w : World) (c : Cfg) (hw : (Lit.int .i64 c.w).wf = true) :
    Calls Try.prog 7 #[.agg (cfgVals c).toArray] w fun e w' => ∃ q, e = .returned (.tuple #[.pointer q, .int .i64 (newPE c)]) ∧ Ext w w' := by
  unfold newPE
  by_cases h1 : checkV c.w c.m c.l = 0
  · rw [if_neg (by simpa using h1)]
    by_cases h2 : c.b < 1 ∨ 64 < c.b
    · rw [if_pos (.inl h2)]
      exact (newPsB_any w c hw h1 h2).mono fun e w' ⟨h, hx⟩ => ⟨_, h, hx⟩
    · by_cases h3 : c.room < 1 ∨ 16 < c.room
      · rw [if_pos (.inr h3)]
        exact (newPsRoom_any w c hw h1 (by omega) (by omega) h3).mono fun e w' ⟨h, hx⟩ => ⟨_, h, hx⟩
      · rw [if_neg (by omega)]
        exact (newPs_any w c hw h1 (by omega) (by omega) (by omega) (by omega)).mono fun e w' ⟨gp, gt, b, h, _, hx, _⟩ => ⟨_, h, hx⟩
  · rw [if_pos h1]
    exact (newPsBad_any w c hw h1).mono fun e w' ⟨h, hx⟩ => ⟨_, h, hx⟩
theorem newRp_gen (w : World) (c : Cfg) (hw : (Lit.int .i64 c.w).wf = true) :
    Calls Try.prog 16 #[.agg (cfgVals c).toArray] w fun e w' => ∃ q, e = .returned (.tuple #[.pointer q, .int .i64 (newPE c)]) ∧ Ext w w' := by
  unfold newPE
  by_cases h1 : checkV c.w c.m c.l = 0
  · rw [if_neg (by simpa using h1)]
    by_cases h2 : c.b < 1 ∨ 64 < c.b
    · rw [if_pos (.inl h2)]
      exact (newRpB_any w c hw h1 h2).mono fun e w' ⟨h, hx⟩ => ⟨_, h, hx⟩
    · by_cases h3 : c.room < 1 ∨ 16 < c.room
      · rw [if_pos (.inr h3)]
        exact (newRpRoom_any w c hw h1 (by omega) (by omega) h3).mono fun e w' ⟨h, hx⟩ => ⟨_, h, hx⟩
      · rw [if_neg (by omega)]
        exact (newRp_any w c hw h1 (by omega) (by omega) (by omega) (by omega)).mono fun e w' ⟨gr, gt, h, _, hx, _⟩ => ⟨_, h, hx⟩
  · rw [if_pos h1]
    exact (newRpBad_any w c hw h1).mono fun e w' ⟨h, hx⟩ => ⟨_, h, hx⟩
set_option maxRecDepth 100000
section
theorem psSendZ_any (w : World) (v : Value) : Calls Try.prog 14 #[.pointer none, v] w fun e w' => e = .returned (.tuple #[.int .i64 0, .slice none 0 0, .int .i64 5]) ∧ w = w' := by
  go_enter Try.func14, Try.ntmps14
  go_wp2_with (go_at_call 36; refine (psIsNil_any _).mono ?_; rintro e w2 ⟨rfl, rfl⟩)
  exact bodyPost_ret (results3 rfl _ _ _) rfl ⟨rfl, rfl⟩
theorem psPollZ_any (w : World) (n : Int) : Calls Try.prog 15 #[.pointer none, .int .i64 n] w fun e w' => e = .returned (.tuple #[.int .i64 0, .int .i64 5]) ∧ w = w' := by
  go_enter Try.func15, Try.ntmps15
  go_wp2_with (go_at_call 36; refine (psIsNil_any _).mono ?_; rintro e w2 ⟨rfl, rfl⟩)
  go_ret2
  exact ⟨rfl, rfl⟩
theorem psTickZ_any (w : World) : Calls Try.prog 17 #[.pointer none] w fun e w' => e = .returned (.slice none 0 0) ∧ w = w' := by
  go_enter Try.func17, Try.ntmps17
  go_wp2_with (go_at_call 36; refine (psIsNil_any _).mono ?_; rintro e w2 ⟨rfl, rfl⟩)
  go_ret
  exact ⟨rfl, rfl⟩
theorem psTimersZ_any (w : World) : Calls Try.prog 13 #[.pointer none] w fun e w' => e = .returned (.slice none 0 0) ∧ w = w' := by
  go_enter Try.func13, Try.ntmps13
  go_wp2_with (go_at_call 36; refine (psIsNil_any _).mono ?_; rintro e w2 ⟨rfl, rfl⟩)
  go_ret
  exact ⟨rfl, rfl⟩
theorem psTakeZ_any (w : World) (a : Bool) (q t : Int) (v : Value) : Calls Try.prog 18 #[.pointer none, .agg #[.bool a, .int .i64 q, .int .u64 t, v]] w fun e w' => e = .returned (.slice none 0 0) ∧ Ext w w' := by
  go_enter Try.func18, Try.ntmps18
  go_wp2_with (go_at_call 36; refine (psIsNil_any _).mono ?_; rintro e w2 ⟨rfl, rfl⟩)
  go_ret
  exact ⟨rfl, ext_alloc _ _⟩
set_option maxHeartbeats 2000000 in
theorem pushNil_main (c : Cfg) (hw : (Lit.int .i64 c.w).wf = true) (v : Value) (hv : ∃ A n cc, v = .slice A n cc) (W : World) :
    Calls Try.prog 4 #[.agg (cfgVals c).toArray, v] W fun e w' => e = .returned (.bool true) ∧ Ext W w' := by
  obtain ⟨Av, nv, cv, rfl⟩ := hv
  have HLV := hid pushLive_any
  have hb := Blk.new W 24 (cfgVals c).toArray
  have hx := ext_alloc W (.cells (cfgVals c).toArray 24)
  have HNP := hid (fun W1 => newPs_gen W1 c hw)
  have HNR := hid (fun W1 => newRp_gen W1 c hw)
  generalize newPE c = pe at *
  unfold cfgVals at *
  have b0 := hb.cell 0
  have b1 := hb.cell 1
  have b2 := hb.cell 2
  have b3 := hb.cell 3
  have b4 := hb.cell 4
  have b5 := hb.cell 5
  have b6 := hb.cell 6
  have hpe : (pe == pe) = true := by simp
  clear hw
  go_enter Try.func4, Try.ntmps4
  go_wp2_with (first
    | (go_at_call 14; refine (psSendZ_any _ _).mono ?_; rintro e w2 ⟨rfl, rfl⟩)
    | (go_at_call 15; refine (psPollZ_any _ _).mono ?_; rintro e w2 ⟨rfl, rfl⟩)
    | (go_at_call 17; refine (psTickZ_any _).mono ?_; rintro e w2 ⟨rfl, rfl⟩)
    | (go_at_call 18; refine (psTakeZ_any _ _ _ _ _).mono ?_; rintro e w6 ⟨rfl, hx6⟩)
    | (go_at_call 13; refine (psTimersZ_any _).mono ?_; rintro e w2 ⟨rfl, rfl⟩)
    | (go_at_call 7; refine (HNP.out _).mono ?_; rintro e w3 ⟨q3, rfl, hx3⟩; have hbb3 := hb.ext hx3; have b0 := hbb3.cell 0; have b1 := hbb3.cell 1; have b2 := hbb3.cell 2; have b3 := hbb3.cell 3; have b4 := hbb3.cell 4; have b5 := hbb3.cell 5; have b6 := hbb3.cell 6)
    | (go_at_call 16; refine (HNR.out _).mono ?_; rintro e w4 ⟨q4, rfl, hx4⟩)
    | (go_at_call 9; refine (anum_any _ _).mono ?_; rintro e w5 ⟨rfl, rfl⟩)
    | (go_at_call 10; refine (HLV.out _).mono ?_; rintro e w8 ⟨rfl, hx8⟩))
  go_ret
  exact ⟨rfl, Ext.trans (Ext.trans (Ext.trans (Ext.trans hx hx3) hx4) hx6) hx8⟩
end
end Go.Proofs.Ytimlbebockfioaa
