/- The walk of the reference's Places. -/
import Derived.Test.YtmllkniloalgoaaPlaces
namespace Go.Proofs.Ytmllkniloalgoaa
open Go.RowKit

theorem drop_get {α : Type} (l : List α) (a j : Nat) : (l.drop a)[j]? = l[a + j]? := by rw [List.getElem?_drop]

set_option maxRecDepth 100000
section
set_option maxHeartbeats 800000 in
theorem placesR_any (u v : Value) (xs ys : List (List UInt8)) (w : World) (h : IsSlice (repSlice repByte) w (all w) u xs) (h' : IsSlice (repSlice repByte) w (all w) v ys) (hl : xs.length ≤ 1000) (hl' : ys.length ≤ 1000) :
    Calls Try.prog 29 #[u, v] w (SomePlaces w xs ys) := by
  obtain ⟨A, n, c, rfl, hnc, hcm, hrow⟩ := h
  obtain ⟨B, m, d, rfl, hmd, hdm, hrow'⟩ := h'
  have hn := hrow.1
  have hm := hrow'.1
  have hnb : n ≤ 1000 := by omega
  have hmb : m ≤ 1000 := by omega
  have HN := hid hn
  have HM := hid hm
  clear hn hm
  go_enter Try.func29, Try.ntmps29
  go_wp2
  go_loopw [6, 7, 8] (fun o p i wr => ∃ (k a : Nat) (acc : List Int), k ≤ n ∧ i = .int .i64 k ∧ p = .int .i64 a ∧ a ≤ m ∧ acc.length = k ∧ Own (repInt .i64) 3 w.heap.size wr o acc ∧ pl (xs.drop k) ys a acc = placesOf xs ys ∧ Ext w wr) (fun _ _ i _ => n - (intOf i).toNat)
  case atStart => exact ⟨0, 0, [], Nat.zero_le _, rfl, rfl, Nat.zero_le _, rfl, own_nil _ _ _ _, rfl, Below.refl _ _⟩
  case round =>
    obtain ⟨k, a, acc, hk, rfl, rfl, ha, hacc, hown, hpl, hext⟩ := hrel
    have hal : acc.length ≤ 1000 := by omega
    have HP := hid hpl
    have HA := hid hacc
    clear hpl hacc
    by_cases hlt : k < n
    · have hlt2 : k < n := hlt
      go_wp2
      obtain ⟨wo, rfl⟩ : ∃ wo : World, wo = wr := ⟨_, rfl⟩
      obtain ⟨x, hx⟩ : ∃ x, xs[k]? = some x := ⟨_, List.getElem?_eq_getElem (by have := HN.out; omega)⟩
      have HX := hid hx
      clear hx
      go_loopw [7] (fun p wr => ∃ q : Nat, a + q ≤ m ∧ p = .int .i64 ((a + q : Nat) : Int) ∧ (∀ j, j < q → ys[a + j]? ≠ some x) ∧ Ext wo wr) (fun p _ => m - (intOf p).toNat)
      case atStart => exact ⟨0, by omega, rfl, fun j hj => absurd hj (by omega), Below.refl _ _⟩
      case round =>
        obtain ⟨q, hq, rfl, hne, hext2⟩ := hrel
        have HNE := hid hne
        clear hne
        generalize hp : a + q = p at *
        have HPQ := hid hp
        clear hp
        have hex3 := Ext.trans hext hext2
        by_cases hpm : p < m
        · obtain ⟨b, off, A1, m1, c1, x', rfl, hx', hs1, hm1, hcx⟩ := hrow.sliceE hex3 hlt2
          obtain ⟨b', off', A2, m2, c2, y, rfl, hy, hs2, hm2, hcy⟩ := hrow'.sliceE hex3 hpm
          have hxx : x' = x := by rw [HX.out] at hx'; injection hx' with e; exact e.symm
          subst hxx
          have HY := hid hy
          clear hy hx' hm1 hm2
          have sq : ∀ k, Calls Try.prog 40 #[.slice A1 m1 c1, .slice A2 m2 c2] (wr.drewN k) fun e w' => e = .returned (.bool (decide (x' = y))) ∧ ∃ m, w' = (wr.drewN k).drewN m := fun k =>
            sameB_any _ _ _ _ (wr.drewN k) (hs1.ext (Ext.trans hex3 (ext_drewN _ k))) (hs2.ext (Ext.trans hex3 (ext_drewN _ k)))
          by_cases hxy : x' = y
          · rw [decide_eq_true hxy] at sq
            have SQ := hid sq
            clear sq
            go_wp2
            go_quiet ((go_at_call 40; exact Calls.quiet_of (SQ.out _)))
            have hown2 := hown.ext (Ext.trans hext2 (ext_drewN wr nq))
            have hex4 : Ext w (wr.drewN nq) := Ext.trans hex3 (ext_drewN wr nq)
            go_wp2_with (at_builtin; refine wpl_app1 (r := repInt .i64) (x := (p : Int)) _ _ rfl rfl Try.underlying22 info_int (by decide) hown2 rfl rfl (by simp) ⟨rfl, WalkArith.wf_i64 (by omega)⟩ (by omega) (by simp only [maxLen]; omega) hex4.size ?_; intro v' w1 hown1 hg1)
            go_roundw
            case rel =>
              have hix : ix x' (ys.drop a) = q := ix_at (by rw [drop_get, HPQ.out, HY.out, hxy]) fun j hj => by rw [drop_get]; exact HNE.out j hj
              have hpq := HPQ.out
              refine ⟨k + 1, p + 1, acc ++ [(p : Int)], by omega, by go_num, by go_num, by omega, by simp [HA.out], hown1, ?_, Below.grown hex4 hg1 hex4.size (fun j hj => (hown2.lt j hj).1)⟩
              rw [← HP.out, pl_pos HX.out (by rw [hix]; omega), hix, ← hpq]
              simp
            case measure => simp [intOf]; omega
          · rw [decide_eq_false hxy] at sq
            have SQ := hid sq
            clear sq
            go_wp2
            go_quiet ((go_at_call 40; exact Calls.quiet_of (SQ.out _)))
            go_wp2
            go_roundw
            case rel =>
              have hpq := HPQ.out
              refine ⟨q + 1, by omega, by go_num, fun j hj => ?_, Ext.trans hext2 (ext_drewN wr nq)⟩
              rcases Nat.lt_or_ge j q with h1 | h1
              · exact HNE.out j h1
              · obtain rfl : j = q := by omega
                rw [hpq, HY.out]
                intro e
                injection e with e
                exact hxy e.symm
            case measure => simp [intOf]; omega
        · have hpm2 : ¬ (p : Int) < (m : Int) := by omega
          have hd : decide ((p : Int) < (m : Int)) = false := by simpa using hpm2
          go_wp2
          go_quiet (fail)
          go_wp2
          go_ret2
          have hix : ix x (ys.drop a) = -1 := ix_none fun j hj => by
            rw [drop_get] at hj
            have := lt_of_get hj
            have h1 := HPQ.out
            have h2 := HM.out
            exact HNE.out j (by omega) hj
          have hp : placesOf xs ys = none := by rw [← HP.out]; exact pl_neg HX.out (by rw [hix]; omega)
          exact ⟨_, ret_2b (by rw [hp]; rfl), by unfold placesV; rw [hp]; exact isSlice_nil _ _ _, Ext.trans hex3 (ext_drewN wr _)⟩
    · go_wp2
      go_ret2
      have hp : placesOf xs ys = some acc := by rw [← HP.out]; exact pl_end (by rw [HN.out]; omega)
      exact ⟨_, ret_2b (by rw [hp]; rfl), by unfold placesV; rw [hp]; exact hown.fresh, hext⟩
end
end Go.Proofs.Ytmllkniloalgoaa
