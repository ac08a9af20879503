/- The walk of IdealJudge. -/
import Derived.Test.YtjchobncmogcpaaJudgeLaw
import Derived.Test.YtjchobncmogcpaaSkipsR3
import Derived.Test.YtjchobncmogcpaaIdealLive
namespace Go.Proofs.Ytjchobncmogcpaa
open Go.RowKit

theorem bool_of (p : Prop) : ∃ b : Bool, b = true ↔ p := by
  by_cases h : p
  · exact ⟨true, by simp [h]⟩
  · exact ⟨false, by simp [h]⟩
set_option maxRecDepth 100000
section
set_option maxHeartbeats 1000000 in
theorem idealJudge_any (v : Value) (evs : List Ev) (W : World) (o0 : IsSlice repEv W (all W) v evs) :
    Calls Try.prog 13 #[v] W fun e w' => e = .returned (.bool true) ∧ Ext W w' := by
  have HH := hid (huge_any v evs W o0)
  have HLV := hid idealLive_any
  cases hhg : hugeB evs with
  | true =>
    rw [hhg] at HH
    clear o0
    go_enter Try.func13, Try.ntmps13
    go_wp2_with (first
      | (go_at_call 54; refine HH.out.mono ?_; rintro e w2 ⟨rfl, rfl⟩)
      | (go_at_call 55; refine (HLV.out _).mono ?_; rintro e w2 ⟨rfl, hx2⟩))
    go_ret
    exact ⟨rfl, hx2⟩
  | false =>
    rw [hhg] at HH
    obtain ⟨hl100, hd100⟩ := hugeB_no hhg
    have hm : Mild evs := ⟨hl100, hd100⟩
    have HOF := hid (ofR_any v evs 0 W o0 (by omega) hm.data)
    have HAL := hid (fun (u : Value) (w1 : World) (hu : IsSlice (repSlice repByte) w1 (all w1) u (texts evs 0)) => aloneR_any u _ w1 hu)
    cases hal : aloneB (texts evs 0) with
    | false =>
      rw [hal] at HAL
      clear hl100 hd100 hm o0
      go_enter Try.func13, Try.ntmps13
      go_wp2_with (first
        | (go_at_call 54; refine HH.out.mono ?_; rintro e w2 ⟨rfl, rfl⟩)
        | (go_at_call 64; refine HOF.out.mono ?_; rintro e w2 ⟨u, rfl, hu, hx2⟩)
        | (go_at_call 65; refine (HAL.out _ _ hu.any).mono ?_; rintro e w3 ⟨rfl, hx3⟩)
        | (go_at_call 55; refine (HLV.out _).mono ?_; rintro e w4 ⟨rfl, hx4⟩))
      go_ret
      exact ⟨rfl, Ext.trans (Ext.trans hx2 hx3) hx4⟩
    | true =>
      rw [hal] at HAL
      have HACC := hid (fun (W1 : World) (he : Ext W W1) => accepts_any _ evs true W1 (o0.ext he) (by omega) (fun x hx => by have := hd100 x hx; omega))
      obtain ⟨r1, hr1⟩ : ∃ r1, r1 = ((accI (iq0 true) evs 0).1 : Int) := ⟨_, rfl⟩
      obtain ⟨r2, hr2⟩ : ∃ r2, r2 = (accI (iq0 true) evs 0).2 := ⟨_, rfl⟩
      have hlaw : r2 = true ↔ SkipP evs := by rw [hr2]; exact judge_law evs hal
      rw [← hr1, ← hr2] at HACC
      obtain ⟨bo, hbo⟩ := bool_of (OrdP evs)
      have HOR := hid (fun (W1 : World) (he : Ext W W1) => (show Calls Try.prog 66 #[v] W1 fun e w' => e = .returned (.bool bo) ∧ Ext W1 w' from (order_any v evs W1 (o0.ext he) hm).mono fun e w' ⟨b, h1, h2, h3⟩ => ⟨by rw [h1]; exact ret_bool (Bool.eq_iff_iff.2 (h2.trans hbo.symm)), h3⟩))
      have HSK := hid (fun (W1 : World) (he : Ext W W1) => (show Calls Try.prog 67 #[v] W1 fun e w' => e = .returned (.bool r2) ∧ Ext W1 w' from (skips_any v evs W1 (o0.ext he) hm).mono fun e w' ⟨b, h1, h2, h3⟩ => ⟨by rw [h1]; exact ret_bool (Bool.eq_iff_iff.2 (h2.trans hlaw.symm)), h3⟩))
      have hno : bo = false → r2 = false := fun h => by
        cases hr : r2 with
        | false => rfl
        | true => rw [hbo.2 (hlaw.1 hr).1] at h; cases h
      have HNO := hid hno
      clear hr1 hr2 hlaw hbo hno hl100 hd100 hm o0
      cases bo with
      | false =>
        have hr := HNO.out rfl
        subst hr
        clear HSK
        go_enter Try.func13, Try.ntmps13
        go_wp2_with (first
          | (go_at_call 54; refine HH.out.mono ?_; rintro e w2 ⟨rfl, rfl⟩)
          | (go_at_call 64; refine HOF.out.mono ?_; rintro e w2 ⟨u, rfl, hu, hx2⟩)
          | (go_at_call 65; refine (HAL.out _ _ hu.any).mono ?_; rintro e w3 ⟨rfl, hx3⟩; have hx23 := Ext.trans hx2 hx3)
          | (go_at_call 61; refine (HACC.out _ hx23).mono ?_; rintro e w4 ⟨rfl, hx4⟩; have hx24 := Ext.trans hx23 hx4)
          | (go_at_call 66; refine (HOR.out _ hx24).mono ?_; rintro e w5 ⟨rfl, hx5⟩)
          | (go_at_call 55; refine (HLV.out _).mono ?_; rintro e w6 ⟨rfl, hx6⟩))
        go_ret
        exact ⟨rfl, Ext.trans (Ext.trans hx24 hx5) hx6⟩
      | true =>
        clear HNO
        go_enter Try.func13, Try.ntmps13
        go_wp2_with (first
          | (go_at_call 54; refine HH.out.mono ?_; rintro e w2 ⟨rfl, rfl⟩)
          | (go_at_call 64; refine HOF.out.mono ?_; rintro e w2 ⟨u, rfl, hu, hx2⟩)
          | (go_at_call 65; refine (HAL.out _ _ hu.any).mono ?_; rintro e w3 ⟨rfl, hx3⟩; have hx23 := Ext.trans hx2 hx3)
          | (go_at_call 61; refine (HACC.out _ hx23).mono ?_; rintro e w4 ⟨rfl, hx4⟩; have hx24 := Ext.trans hx23 hx4)
          | (go_at_call 66; refine (HOR.out _ hx24).mono ?_; rintro e w5 ⟨rfl, hx5⟩; have hx25 := Ext.trans hx24 hx5)
          | (go_at_call 67; refine (HSK.out _ hx25).mono ?_; rintro e w7 ⟨rfl, hx7⟩)
          | (go_at_call 55; refine (HLV.out _).mono ?_; rintro e w6 ⟨rfl, hx6⟩))
        go_ret
        exact ⟨rfl, Ext.trans (Ext.trans hx25 hx7) hx6⟩
end
end Go.Proofs.Ytjchobncmogcpaa
