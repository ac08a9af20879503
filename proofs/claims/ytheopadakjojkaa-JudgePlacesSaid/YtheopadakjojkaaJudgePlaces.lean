/- The statement JudgePlaces: the walk of the law. -/
import Derived.Test.YtheopadakjojkaaCrashed
namespace Go.Proofs.Ytheopadakjojkaa
open Go.RowKit

set_option maxRecDepth 100000
section
set_option maxHeartbeats 800000 in
theorem judgePlaces_any (u v : Value) (xs ys : List (List UInt8)) (w : World) (h : IsSlice (repSlice repByte) w (all w) u xs) (h' : IsSlice (repSlice repByte) w (all w) v ys) :
    Calls Try.prog 5 #[u, v] w fun e w' => e = .returned (.bool true) ∧ Ext w w' := by
  cases hf : fewB xs
  · have f1 := few_any u xs w h
    rw [hf] at f1
    have F1 := hid f1
    clear f1 hf
    go_enter Try.func5, Try.ntmps5
    go_wp2_with (first | (go_at_call 26; refine F1.out.mono ?_; rintro e w' ⟨rfl, rfl⟩) | (go_at_call 27; refine (judgeLive_any _).mono ?_; rintro e w1 ⟨rfl, hx⟩))
    go_ret
    exact ⟨rfl, hx⟩
  · cases hg : fewB ys
    · have f1 := few_any u xs w h
      have f2 := few_any v ys w h'
      rw [hf] at f1
      rw [hg] at f2
      have F1 := hid f1
      have F2 := hid f2
      clear f1 f2 hf hg
      go_enter Try.func5, Try.ntmps5
      go_wp2_with fail
      refine F1.out.mono ?_
      rintro e w' ⟨rfl, rfl⟩
      go_wp2_with fail
      refine F2.out.mono ?_
      rintro e w' ⟨rfl, rfl⟩
      go_wp2_with (go_at_call 27; refine (judgeLive_any _).mono ?_; rintro e w1 ⟨rfl, hx⟩)
      go_ret
      exact ⟨rfl, hx⟩
    · have f1 := few_any u xs w h
      have f2 := few_any v ys w h'
      rw [hf] at f1
      rw [hg] at f2
      have F1 := hid f1
      have F2 := hid f2
      have hxs := (fewB_yes hf).1
      have hys := (fewB_yes hg).1
      clear f1 f2 hf hg
      go_enter Try.func5, Try.ntmps5
      go_wp2_with fail
      refine F1.out.mono ?_
      rintro e w' ⟨rfl, rfl⟩
      go_wp2_with fail
      refine F2.out.mono ?_
      rintro e w' ⟨rfl, rfl⟩
      go_wp2_with fail
      refine (places_any _ _ _ _ _ h h' (by omega) (by omega)).mono ?_
      rintro e w1 ⟨p1, rfl, hp1, hx1⟩
      go_wp2_with fail
      refine (placesR_any _ _ _ _ _ (h.ext hx1) (h'.ext hx1) (by omega) (by omega)).mono ?_
      rintro e w2 ⟨p2, rfl, hp2, hx2⟩
      have hx := Ext.trans hx1 hx2
      have hs := sameInts_any _ _ _ _ _ (hp1.any.ext hx2) hp2.any
      rw [decide_eq_true rfl] at hs
      have HS := hid hs
      clear hs hp1 hp2
      go_wp2_with fail
      refine HS.out.mono ?_
      rintro e w' ⟨rfl, kd, rfl⟩
      have hx3 := Ext.trans hx (ext_drewN w2 kd)
      generalize w2.drewN kd = w3 at *
      clear HS F1 F2 hx1 hx2 hx
      go_wp2_with fail
      refine (prefix_any _ _ _ _ _ (h.ext hx3) (h'.ext hx3)).mono ?_
      rintro e w' ⟨rfl, rfl⟩
      go_wp2_with fail
      refine (prefixR_any _ _ _ _ _ (h.ext hx3) (h'.ext hx3)).mono ?_
      rintro e w' ⟨rfl, ke, rfl⟩
      have hx4 := Ext.trans hx3 (ext_drewN w3 ke)
      generalize w3.drewN ke = w4 at *
      go_wp2_with fail
      refine (alone_any _ _ _ (h'.ext hx4)).mono ?_
      rintro e w5 ⟨rfl, hx5⟩
      have hx5' := Ext.trans hx4 hx5
      go_wp2_with fail
      refine (aloneR_any _ _ _ (h'.ext hx5')).mono ?_
      rintro e w6 ⟨rfl, hx6⟩
      have hx6' := Ext.trans hx5' hx6
      go_wp2_with fail
      refine (judgeLive_any _).mono ?_
      rintro e w7 ⟨rfl, hx7⟩
      go_wp2
      go_ret
      exact ⟨rfl, Ext.trans hx6' hx7⟩
end
end Go.Proofs.Ytheopadakjojkaa
