/- The statement JudgeRules: the walk of the law. -/
import Derived.Test.YtheopadakjojkaaBreachesR
namespace Go.Proofs.Ytheopadakjojkaa
open Go.RowKit

theorem same_says {a b : Bool} {P : Prop} (h : a = true ↔ P) (k : b = true ↔ P) : b = a := by
  cases a <;> cases b
  · rfl
  · exact (h.2 (k.1 rfl)).symm
  · exact k.2 (h.1 rfl)
  · rfl

set_option maxRecDepth 100000
section
set_option maxHeartbeats 3200000 in
theorem judgeRules_any (v : Value) (xs : List Ev) (n q : Int) (w : World) (h : IsSlice repEv w (all w) v xs) :
    Calls Try.prog 13 #[v, .int .i64 n, .int .i64 q] w fun e w' => e = .returned (.bool true) ∧ Ext w w' := by
  cases hf : hugeB xs
  · have f1 := huge_any v xs w h
    rw [hf] at f1
    have F1 := hid f1
    obtain ⟨hl, hd⟩ := hugeB_no hf
    have hm : Mild xs := ⟨hl, hd⟩
    have HM := hid hm
    clear f1 hf hd hm
    have hv := h
    obtain ⟨A, m, c, rfl, _⟩ := h
    by_cases h0 : q < 0
    · go_enter Try.func13, Try.ntmps13
      go_wp2_with (first | (go_at_call 39; refine F1.out.mono ?_; rintro e w' ⟨rfl, rfl⟩) | (go_at_call 27; refine (judgeLive_any _).mono ?_; rintro e w1 ⟨rfl, hx⟩))
      go_ret
      exact ⟨rfl, hx⟩
    by_cases h1 : 1000 < q
    · go_enter Try.func13, Try.ntmps13
      go_wp2_with (first | (go_at_call 39; refine F1.out.mono ?_; rintro e w' ⟨rfl, rfl⟩) | (go_at_call 27; refine (judgeLive_any _).mono ?_; rintro e w1 ⟨rfl, hx⟩))
      go_ret
      exact ⟨rfl, hx⟩
    go_enter Try.func13, Try.ntmps13
    go_wp2_with fail
    refine F1.out.mono ?_
    rintro e w' ⟨rfl, rfl⟩
    go_wp2_with fail
    refine (order_any _ _ _ hv HM.out).mono ?_
    rintro r w1 ⟨b1, rfl, hb1, hx1⟩
    go_wp2_with fail
    refine (orderR_any _ _ _ (hv.ext hx1) HM.out).mono ?_
    rintro r w2 ⟨b2, rfl, hb2, hx2⟩
    obtain rfl : b2 = b1 := same_says hb1 hb2
    clear hb1 hb2
    have hx02 := Ext.trans hx1 hx2
    go_wp2_with fail
    refine (confirms_any _ _ _ (hv.ext hx02) HM.out.few).mono ?_
    rintro r w3 ⟨b3, rfl, hb3, hx3⟩
    have hx03 := Ext.trans hx02 hx3
    go_wp2_with fail
    refine (confirmsR_any _ _ _ (hv.ext hx03) HM.out).mono ?_
    rintro r w4 ⟨b4, rfl, hb4, hx4⟩
    obtain rfl : b4 = b3 := same_says hb3 hb4
    clear hb3 hb4
    have hx04 := Ext.trans hx03 hx4
    go_wp2_with fail
    refine (unknowns_any _ _ _ (hv.ext hx04) HM.out.few).mono ?_
    rintro r w5 ⟨b5, rfl, hb5, hx5⟩
    have hx05 := Ext.trans hx04 hx5
    go_wp2_with fail
    refine (unknownsR_any _ _ _ (hv.ext hx05) HM.out.few).mono ?_
    rintro r w6 ⟨b6, rfl, hb6, hx6⟩
    obtain rfl : b6 = b5 := same_says hb5 hb6
    clear hb5 hb6
    have hx06 := Ext.trans hx05 hx6
    go_wp2_with fail
    refine (skips_any _ _ _ (hv.ext hx06) HM.out).mono ?_
    rintro r w7 ⟨b7, rfl, hb7, hx7⟩
    have hx07 := Ext.trans hx06 hx7
    go_wp2_with fail
    refine (skipsR_any _ _ _ (hv.ext hx07) HM.out).mono ?_
    rintro r w8 ⟨b8, rfl, hb8, hx8⟩
    obtain rfl : b8 = b7 := same_says hb7 hb8
    clear hb7 hb8
    have hx08 := Ext.trans hx07 hx8
    go_wp2_with fail
    refine (window_any _ _ q _ (hv.ext hx08) HM.out.few).mono ?_
    rintro r w9 ⟨b9, rfl, hb9, hx9⟩
    have hx09 := Ext.trans hx08 hx9
    go_wp2_with fail
    refine (windowR_any _ _ q _ (hv.ext hx09) HM.out.few).mono ?_
    rintro r w10 ⟨b10, rfl, hb10, hx10⟩
    obtain rfl : b10 = b9 := same_says hb9 hb10
    clear hb9 hb10
    have hx10' := Ext.trans hx09 hx10
    go_wp2_with fail
    refine (breaches_any _ _ n q _ (hv.ext hx10') HM.out).mono ?_
    rintro r w11 ⟨v11, rfl, hv11, hx11⟩
    have hx011 := Ext.trans hx10' hx11
    go_wp2_with fail
    refine (breachesR_any _ _ n q _ (hv.ext hx011) HM.out).mono ?_
    rintro r w12 ⟨v12, rfl, hv12, hx12⟩
    have hx012 := Ext.trans hx011 hx12
    go_wp2_with fail
    refine (sameTexts_any _ _ _ _ (hv11.ext hx12) hv12).mono ?_
    rintro r w13 ⟨rfl, k13, rfl⟩
    go_wp2_with fail
    refine (judgeLive_any _).mono ?_
    rintro r w14 ⟨rfl, hx14⟩
    go_wp2
    go_ret
    exact ⟨rfl, Ext.trans hx012 (Ext.trans (ext_drewN _ _) hx14)⟩
  · have f1 := huge_any v xs w h
    rw [hf] at f1
    have F1 := hid f1
    clear f1 hf
    obtain ⟨A, m, c, rfl, _⟩ := h
    go_enter Try.func13, Try.ntmps13
    go_wp2_with (first | (go_at_call 39; refine F1.out.mono ?_; rintro e w' ⟨rfl, rfl⟩) | (go_at_call 27; refine (judgeLive_any _).mono ?_; rintro e w1 ⟨rfl, hx⟩))
    go_ret
    exact ⟨rfl, hx⟩
end
end Go.Proofs.Ytheopadakjojkaa
