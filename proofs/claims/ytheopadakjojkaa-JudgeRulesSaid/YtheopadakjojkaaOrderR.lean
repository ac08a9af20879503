/- The walks of the reference's Order and Skips. -/
import Derived.Test.YtheopadakjojkaaSkips
namespace Go.Proofs.Ytheopadakjojkaa
open Go.RowKit

set_option maxRecDepth 100000
section
set_option maxHeartbeats 800000 in
theorem orderR_any (v : Value) (xs : List Ev) (w : World) (h : IsSlice repEv w (all w) v xs) (hm : Mild xs) :
    Calls Try.prog 66 #[v] w (SomeB (OrdP xs) w) := by
  have hl := hm.few
  have t0 := hm.texts 0
  have t2 := hm.texts 2
  have HD := hid hm.data
  clear hm
  go_enter Try.func66, Try.ntmps66
  go_wp2_with fail
  refine (ofR_any _ _ _ _ h (by omega) HD.out).mono ?_
  rintro e w1 ⟨v1, rfl, hv1, hx1⟩
  go_wp2_with fail
  refine (ofR_any _ _ _ _ (h.ext hx1) (by omega) HD.out).mono ?_
  rintro e w2 ⟨v2, rfl, hv2, hx2⟩
  have hx12 := Ext.trans hx1 hx2
  go_wp2_with fail
  refine (placesR_any _ _ _ _ _ (hv1.any.ext hx2) hv2.any t2 t0).mono ?_
  rintro e w3 ⟨p, rfl, hp, hx3⟩
  have hx13 := Ext.trans hx12 hx3
  cases hr : retPlaces xs with
  | none =>
    rw [show placesOf (texts xs 2) (texts xs 0) = none from hr]
    have HR := hid hr
    clear hr hp hv1 hv2
    simp only [Option.isSome_none]
    go_wp2
    go_ret
    refine ⟨false, rfl, ⟨(fun h => by cases h), ?_⟩, hx13⟩
    rintro ⟨p, hp, _⟩
    rw [HR.out] at hp
    cases hp
  | some pl =>
    rw [show placesOf (texts xs 2) (texts xs 0) = some pl from hr]
    unfold placesV at hp
    rw [show placesOf (texts xs 2) (texts xs 0) = some pl from hr] at hp
    simp only [Option.isSome_some, Option.getD_some] at hp ⊢
    have HR := hid hr
    have hv3 := h.ext hx13
    have hp3 := hp.any
    clear hv1 hv2 hp hr
    go_wp2_with fail
    refine (numbersR_any _ _ _ _ hv3 (by omega)).mono ?_
    rintro e w4 ⟨s, rfl, hs, hx4⟩
    have hx14 := Ext.trans hx13 hx4
    go_wp2_with fail
    refine (numbersR_any _ _ _ _ (h.ext hx14) (by omega)).mono ?_
    rintro e w5 ⟨d, rfl, hd, hx5⟩
    have hx15 := Ext.trans hx14 hx5
    obtain ⟨A, n, c, rfl, hnc, hcm, hrp⟩ := (hp3.ext hx4).ext hx5
    obtain ⟨B, m, c', rfl, hmc, hcm', hrs⟩ := hs.any.ext hx5
    obtain ⟨D, q, c'', rfl, hqc, hcm'', hrd⟩ := hd.any
    have hn := hrp.1
    have hms := hrs.1
    have hqd := hrd.1
    have hmax : n ≤ 9223372036854775807 := by unfold maxLen at hcm; omega
    have HN := hid hn
    have HM := hid hms
    have HQ := hid hqd
    have HAT : Hid (∀ k, k < n → ∃ (a : Nat) (s d : Int), pl[k]? = some (a : Int) ∧ a < m ∧ (nums xs 0)[a]? = some s ∧ k < q ∧ (nums xs 2)[k]? = some d) := fun k hk => by
      obtain ⟨a, s, d, h1, h2, h3, h4, h5⟩ := ord_at (l := xs) (k := k) (by rw [HR.out]; simpa [hn] using hk)
      rw [HR.out] at h1
      exact ⟨a, s, d, h1, by omega, h3, by omega, h5⟩
    clear hn hms hqd h hs hd hp3 hv3
    go_wp2
    go_loopw [7] (fun i wr => ∃ k : Nat, k ≤ n ∧ i = .int .i64 k ∧ OrdTo xs pl k ∧ Ext w5 wr) (fun i _ => n - (intOf i).toNat)
    case atStart => exact ⟨0, Nat.zero_le _, rfl, fun _ _ _ _ h => absurd h (by omega), Below.refl _ _⟩
    case round =>
      obtain ⟨k, hk, rfl, hb, hext⟩ := hrel
      have HB := hid hb
      clear hb
      by_cases hlt : k < n
      · obtain ⟨a, s, d, h1, am, h3, kq, h5⟩ := HAT.out k hlt
        obtain ⟨gb, go, a', rfl, ha', hca, _⟩ := hrp.intE hext hlt
        obtain ⟨gb', go', s', rfl, hs', hcs, _⟩ := hrs.intE hext am
        obtain ⟨gb'', go'', d', rfl, hd', hcd, _⟩ := hrd.intE hext kq
        have ea : a' = (a : Int) := by rw [h1] at ha'; injection ha' with e; exact e.symm
        subst ea
        rw [h3] at hs'
        rw [h5] at hd'
        injection hs' with es
        injection hd' with ed
        subst es ed
        have hne := nums_ne (by decide) h3 h5
        have HO := hid (ordTo_step (k := k) h1 (by simpa using h3) h5)
        clear h1 h3 h5 ha'
        by_cases hsd : d < s
        · have hsb : decide (d < s) = true := decide_eq_true hsd
          go_wp2
          go_quiet (fail)
          go_wp2
          go_ret
          refine ⟨false, rfl, ⟨(fun h => by cases h), fun hP => ?_⟩, Ext.trans hx15 (below_drewN hext _)⟩
          obtain ⟨h1, h2⟩ := ordP_iff.1 hP
          rw [HR.out] at h2
          have h3 : OrdTo xs pl (k + 1) := fun j a s d hj h1 => h2 j a s d (lt_of_get h1) h1
          have := (HO.out.1 h3).2
          omega
        · have hsb : decide (d < s) = false := decide_eq_false hsd
          go_wp2
          go_quiet (fail)
          go_wp2
          go_roundw
          case rel => exact ⟨k + 1, by omega, by go_num, HO.out.2 ⟨HB.out, by omega⟩, below_drewN hext _⟩
          case measure => simp [intOf]; omega
      · go_wp2
        go_ret
        refine ⟨true, rfl, ⟨fun _ => ordP_iff.2 ?_, fun _ => rfl⟩, Ext.trans hx15 hext⟩
        have : k = n := by omega
        subst this
        rw [HR.out]
        refine ⟨rfl, ?_⟩
        rw [Option.getD_some, HN.out]
        exact HB.out

set_option maxHeartbeats 1600000 in
theorem skipsR_any (v : Value) (xs : List Ev) (w : World) (h : IsSlice repEv w (all w) v xs) (hm : Mild xs) :
    Calls Try.prog 71 #[v] w (SomeB (SkipP xs) w) := by
  have hl := hm.few
  have t0 := hm.texts 0
  have t2 := hm.texts 2
  have HD := hid hm.data
  have HMI := hid hm
  clear hm
  go_enter Try.func71, Try.ntmps71
  go_wp2_with fail
  refine (orderR_any _ _ _ h HMI.out).mono ?_
  rintro e w0 ⟨b0, rfl, hb0, hx0⟩
  cases b0
  · have hno : ¬ SkipP xs := fun hk => by have := hb0.2 hk.1; cases this
    have HNO := hid hno
    clear hb0 hno
    go_wp2
    go_ret
    exact ⟨false, rfl, ⟨(fun h => by cases h), fun h => absurd h HNO.out⟩, hx0⟩
  have hord := hb0.1 rfl
  obtain ⟨pl, hpl, _⟩ := hord
  have hr : placesOf (texts xs 2) (texts xs 0) = some pl := hpl
  have HO := hid (hb0.1 rfl)
  have HP := hid hpl
  have HR := hid hr
  have hA := places_are hpl
  have hlen := hA.len
  rw [texts_len] at hlen
  clear hb0 hpl hr
  go_wp2_with fail
  refine (ofR_any _ _ _ _ (h.ext hx0) (by omega) HD.out).mono ?_
  rintro e w1 ⟨v1, rfl, hv1, hx1⟩
  have hx01 := Ext.trans hx0 hx1
  go_wp2_with fail
  refine (ofR_any _ _ _ _ (h.ext hx01) (by omega) HD.out).mono ?_
  rintro e w2 ⟨v2, rfl, hv2, hx2⟩
  have hx12 := Ext.trans hx01 hx2
  go_wp2_with fail
  refine (placesR_any _ _ _ _ _ (hv1.any.ext hx2) hv2.any t2 t0).mono ?_
  rintro e w3 ⟨p, rfl, hp, hx3⟩
  have hx13 := Ext.trans hx12 hx3
  unfold placesV at hp
  rw [HR.out] at hp ⊢
  simp only [Option.isSome_some, Option.getD_some] at hp ⊢
  have hp3 := hp.any
  clear hv1 hv2 hp
  go_wp2_with fail
  refine (numbersR_any _ _ _ _ (h.ext hx13) (by omega)).mono ?_
  rintro e w4 ⟨s, rfl, hs, hx4⟩
  have hx14 := Ext.trans hx13 hx4
  go_wp2_with fail
  refine (numbersR_any _ _ _ _ (h.ext hx14) (by omega)).mono ?_
  rintro e w5 ⟨d, rfl, hd, hx5⟩
  have hx15 := Ext.trans hx14 hx5
  have hv5 := h.ext hx15
  obtain ⟨A, n, c, rfl, hnc, hcm, hrp⟩ := (hp3.ext hx4).ext hx5
  obtain ⟨B, m, c', rfl, hmc, hcm', hrs⟩ := hs.any.ext hx5
  obtain ⟨D, q, c'', rfl, hqc, hcm'', hrd⟩ := hd.any
  have hn := hrp.1
  have hms := hrs.1
  have hqd := hrd.1
  have hmax : n ≤ 9223372036854775807 := by unfold maxLen at hcm; omega
  have hmax' : m ≤ 100 := by have := nums_le xs 0; omega
  have hnq : n = q := by omega
  have HN := hid hn
  have HM := hid hms
  have HQ := hid hqd
  have HAT : Hid (∀ k, k < n → ∃ a : Nat, pl[k]? = some (a : Int) ∧ a < m) := fun k hk => by
    obtain ⟨a, h1, _, h3, _⟩ := hA.at_ k _ (List.getElem?_eq_getElem (by omega))
    rw [texts_len] at h3
    exact ⟨a, by rw [List.getElem?_eq_getElem (by omega), h1], by omega⟩
  clear hA hlen hn hms hqd h hp3 hs hd
  subst hnq
  go_wp2
  go_loopw [7, 8, 9] (fun x i _ wr => ∃ (k y : Nat), k ≤ n ∧ i = .int .i64 k ∧ x = .int .i64 ((y : Int) - 1) ∧ y ≤ m ∧ NextIs pl k y ∧ SkTo xs pl k ∧ Ext w5 wr) (fun _ i _ _ => n - (intOf i).toNat)
  case atStart => exact ⟨0, 0, Nat.zero_le _, rfl, rfl, Nat.zero_le _, .inl ⟨rfl, rfl⟩, fun _ _ _ h => absurd h (by omega), Below.refl _ _⟩
  case round =>
    obtain ⟨k, y, hk, rfl, rfl, hym, hnx, hsk, hext⟩ := hrel
    by_cases hlt : k < n
    · obtain ⟨a, ha, ham⟩ := HAT.out k hlt
      obtain ⟨gb, go, a', rfl, ha', hca, _⟩ := hrp.intE hext hlt
      obtain rfl : a' = (a : Int) := by rw [ha] at ha'; injection ha' with e; exact e.symm
      have HA' := hid ha
      clear ha ha'
      have hltk : k < n := hlt
      have am := ham
      have hkk := hk
      go_wp2
      obtain ⟨wo, rfl⟩ : ∃ wo : World, wo = wr := ⟨_, rfl⟩
      obtain ⟨d, hd⟩ : ∃ d, (nums xs 2)[k]? = some d := ⟨_, List.getElem?_eq_getElem (by rw [HQ.out]; exact hltk)⟩
      have HD := hid hd
      clear hd
      go_loopw [9] (fun x wr => ∃ z : Nat, y ≤ z ∧ z ≤ m ∧ x = .int .i64 z ∧ SkFrom xs y z d ∧ Ext wo wr) (fun x _ => a - (intOf x).toNat)
      case atStart => exact ⟨y, Nat.le_refl _, hym, by go_num, fun q s h1 h2 => absurd h2 (by omega), Below.refl _ _⟩
      case round =>
        obtain ⟨z, hyz, hzm, rfl, hsf, hext2⟩ := hrel
        have hex3 := Ext.trans hext hext2
        obtain ⟨_, _, a2, e2, ha2, hca2, _⟩ := hrp.intE hex3 hltk
        simp only [Option.some.injEq, Addr.mk.injEq, and_true] at e2
        obtain ⟨rfl, rfl⟩ := e2
        obtain rfl : a2 = (a : Int) := by rw [HA'.out] at ha2; injection ha2 with e; exact e.symm
        clear ha2
        by_cases hza : z < a
        · have hzm2 : z < m := by omega
          obtain ⟨gs, os, s', rfl, hs', hcs, _⟩ := hrs.intE hex3 hzm2
          obtain ⟨gd, od, d', rfl, hd', hcd, _⟩ := hrd.intE hex3 hltk
          obtain rfl : d' = d := by rw [HD.out] at hd'; injection hd' with e; exact e.symm
          have HS := hid hs'
          clear hs' hd'
          have hbs : gs < wr.heap.size := lt_of_cell' hcs
          have hbd : gd < wr.heap.size := lt_of_cell' hcd
          have xd : Ext w5 wr.drew := Below.drew hex3
          have cs := hcs
          have cd := hcd
          obtain ⟨bc, hbc⟩ : ∃ bc, crB xs s' d' (-1) = bc := ⟨_, rfl⟩
          have HBC := hid hbc
          clear hbc
          go_wp2
          go_region_held3 (fun w' => w'.cell? ⟨gs, os + z, none⟩ = some (.int .i64 s') ∧ w'.cell? ⟨gd, od + k, none⟩ = some (.int .i64 d') ∧ Ext w5 w')
            (first | exact ⟨by assumption, by assumption, by assumption⟩)
            (first
              | (go_at_call 44; refine (crashedR_any _ _ _ _ _ _ (hv5.ext (by assumption))).mono ?_; rw [HBC.out]; rintro e w6 ⟨rfl, hx6⟩; have xb3 := Ext.trans xd hx6; have c0 := (Ext.cell hx6 hbs _).trans cs; have c1 := (Ext.cell hx6 hbd _).trans cd))
          cases bc
          · go_wp2
            go_ret
            exact ⟨false, rfl, ⟨(fun h => by cases h), fun h => absurd h (skip_no HP.out hnx HA'.out HD.out hyz hza HS.out HBC.out)⟩, Ext.trans hx15 xb3⟩
          · go_wp2
            go_roundw
            case rel =>
              refine ⟨z + 1, by omega, by omega, by go_num, fun q s h1 h2 h3 => ?_, Ext.trans (Below.drew hext2) hx6⟩
              rcases Nat.lt_or_ge q z with h4 | h4
              · exact hsf q s h1 h4 h3
              · obtain rfl : q = z := by omega
                rw [HS.out] at h3
                injection h3 with h3
                subst h3
                exact HBC.out
            case measure => simp [intOf]; omega
        · go_wp2
          go_roundw
          case rel => exact ⟨k + 1, a + 1, by omega, by go_num, by go_num, by omega, .inr ⟨by omega, by rw [show k + 1 - 1 = k from rfl, HA'.out]; congr 1; omega, by omega⟩, skTo_step hnx HA'.out HD.out hsk (fun q s h1 h2 => hsf q s h1 (by omega)), hex3⟩
          case measure => simp [intOf]; omega
    · go_wp2
      go_ret
      refine ⟨true, rfl, ⟨fun _ => ⟨HO.out, fun p hp j a d h1 h2 => ?_⟩, fun _ => rfl⟩, Ext.trans hx15 hext⟩
      rw [HP.out] at hp
      injection hp with hp
      subst hp
      exact hsk j a d (by have := lt_of_get h1; have := HN.out; omega) h1 h2
end
end Go.Proofs.Ytheopadakjojkaa
