/- The walks of judge.brought, Order, Skips. -/
import Derived.Test.YtjchobncmogcpaaJudgePlainR3
namespace Go.Proofs.Ytjchobncmogcpaa
open Go.RowKit

/-- The first k of what was returned were sent ahead. -/
def OrdTo (l : List Ev) (p : List Int) (k : Nat) : Prop := ∀ (j : Nat) (a s d : Int), j < k → p[j]? = some a → (nums l 0)[a.toNat]? = some s → (nums l 2)[j]? = some d → s < d
theorem ordTo_step {l : List Ev} {p : List Int} {k : Nat} {a s d : Int} (ha : p[k]? = some a) (hs : (nums l 0)[a.toNat]? = some s) (hd : (nums l 2)[k]? = some d) : OrdTo l p (k + 1) ↔ OrdTo l p k ∧ s < d := by
  constructor
  · exact fun h => ⟨fun j a s d hj => h j a s d (by omega), h k a s d (by omega) ha hs hd⟩
  · rintro ⟨h1, h2⟩ j a' s' d' hj h3 h4 h5
    rcases Nat.lt_or_ge j k with hk | hk
    · exact h1 j a' s' d' hk h3 h4 h5
    · obtain rfl : j = k := by omega
      rw [ha] at h3
      injection h3 with h3
      subst h3
      rw [hs] at h4
      rw [hd] at h5
      injection h4 with h4
      injection h5 with h5
      omega
/-- What a round finds. -/
theorem ord_at {l : List Ev} {k : Nat} (hk : k < ((retPlaces l).getD []).length) : ∃ (a : Nat) (s d : Int), ((retPlaces l).getD [])[k]? = some (a : Int) ∧ a < (nums l 0).length ∧ (nums l 0)[a]? = some s ∧ k < (nums l 2).length ∧ (nums l 2)[k]? = some d := by
  cases hr : retPlaces l with
  | none => rw [hr] at hk; simp at hk
  | some p =>
    rw [hr] at hk
    simp only [Option.getD_some] at hk ⊢
    have hA := places_are hr
    obtain ⟨m, h1, _, h3, _⟩ := hA.at_ k _ (List.getElem?_eq_getElem hk)
    rw [texts_len] at h3
    have h5 := hA.len
    rw [texts_len] at h5
    exact ⟨m, _, _, by rw [List.getElem?_eq_getElem hk, h1], h3, List.getElem?_eq_getElem h3, by omega, List.getElem?_eq_getElem (by omega)⟩
theorem ordP_iff {l : List Ev} : OrdP l ↔ (retPlaces l).isSome = true ∧ OrdTo l ((retPlaces l).getD []) ((retPlaces l).getD []).length := by
  constructor
  · rintro ⟨p, hp, h⟩
    rw [hp]
    exact ⟨rfl, fun j a s d _ => h j a s d⟩
  · rintro ⟨h1, h2⟩
    cases hr : retPlaces l with
    | none => rw [hr] at h1; cases h1
    | some p =>
      rw [hr] at h2
      exact ⟨p, hr, fun j a s d h3 h4 h5 => h2 j a s d (lt_of_get h3) h3 h4 h5⟩

/-- The Bool says whether. -/
def Says (b : Bool) (P : Prop) : Prop := b = true ↔ P
theorem Says.out {b : Bool} {P : Prop} (h : Says b P) : b = true ↔ P := h
def SomeB (P : Prop) (w : World) (e : Ending) (w' : World) : Prop := ∃ b : Bool, e = .returned (.bool b) ∧ (b = true ↔ P) ∧ Ext w w'
def SomeBrought (l : List Ev) (w : World) (e : Ending) (w' : World) : Prop := ∃ p s d, e = .returned (.tuple #[p, s, d, .bool (retPlaces l).isSome]) ∧ IsSlice (repInt .i64) w' (all w') p ((retPlaces l).getD []) ∧ IsSlice (repInt .i64) w' (all w') s (nums l 0) ∧ IsSlice (repInt .i64) w' (all w') d (nums l 2) ∧ Ext w w'

/-- Of events: not many, none long. -/
structure Mild (xs : List Ev) : Prop where
  few : xs.length ≤ 100
  short : ∀ x ∈ xs, x.data.length ≤ 100
theorem Mild.data {xs : List Ev} (h : Mild xs) : ∀ x ∈ xs, x.data.length ≤ 1000 := fun x hx => Nat.le_trans (h.short x hx) (by omega)
theorem Mild.texts {xs : List Ev} (h : Mild xs) (k : Int) : (texts xs k).length ≤ 1000 := by rw [texts_len]; exact Nat.le_trans (nums_le xs k) (Nat.le_trans h.few (by omega))

set_option maxRecDepth 100000
section
set_option maxHeartbeats 800000 in
theorem brought_any (v : Value) (xs : List Ev) (w : World) (h : IsSlice repEv w (all w) v xs) (hm : Mild xs) :
    Calls Try.prog 115 #[v] w (SomeBrought xs w) := by
  have hl := hm.few
  have t0 := hm.texts 0
  have t2 := hm.texts 2
  have HD := hid hm.data
  clear hm
  go_enter Try.func115, Try.ntmps115
  go_wp2_with fail
  refine (of_any _ _ _ _ h (by omega) HD.out).mono ?_
  rintro e w1 ⟨v1, rfl, hv1, hx1⟩
  go_wp2_with fail
  refine (of_any _ _ _ _ (h.ext hx1) (by omega) HD.out).mono ?_
  rintro e w2 ⟨v2, rfl, hv2, hx2⟩
  have hx12 := Ext.trans hx1 hx2
  go_wp2_with fail
  refine (places_any _ _ _ _ _ (hv1.any.ext hx2) hv2.any t2 t0).mono ?_
  rintro e w3 ⟨p, rfl, hp, hx3⟩
  have hx13 := Ext.trans hx12 hx3
  go_wp2_with fail
  refine (numbers_any _ _ _ _ (h.ext hx13) (by omega)).mono ?_
  rintro e w4 ⟨s, rfl, hs, hx4⟩
  have hx14 := Ext.trans hx13 hx4
  go_wp2_with fail
  refine (numbers_any _ _ _ _ (h.ext hx14) (by omega)).mono ?_
  rintro e w5 ⟨d, rfl, hd, hx5⟩
  go_wp2
  refine bodyPost_ret (results4 rfl _ _ _) rfl ⟨p, s, d, rfl, (hp.any.ext hx4).ext hx5, hs.any.ext hx5, hd.any, Ext.trans hx14 hx5⟩

set_option maxHeartbeats 800000 in
theorem order_any (v : Value) (xs : List Ev) (w : World) (h : IsSlice repEv w (all w) v xs) (hm : Mild xs) :
    Calls Try.prog 66 #[v] w (SomeB (OrdP xs) w) := by
  go_enter Try.func66, Try.ntmps66
  go_wp2_with fail
  refine (brought_any _ _ _ h hm).mono ?_
  rintro e w1 ⟨p, s, d, rfl, hp, hs, hd, hx1⟩
  obtain ⟨A, n, c, rfl, hnc, hcm, hrp⟩ := hp
  obtain ⟨B, m, c', rfl, hmc, hcm', hrs⟩ := hs
  obtain ⟨D, q, c'', rfl, hqc, hcm'', hrd⟩ := hd
  have hn := hrp.1
  have hms := hrs.1
  have hqd := hrd.1
  have hmax : n ≤ 9223372036854775807 := by unfold maxLen at hcm; omega
  have HN := hid hn
  have HM := hid hms
  have HQ := hid hqd
  clear hn hms hqd h hm
  obtain ⟨b0, hb0⟩ : ∃ b0, b0 = (retPlaces xs).isSome := ⟨_, rfl⟩
  rw [← hb0]
  have HB := hid hb0
  clear hb0
  go_wp2
  go_loopw [6, 18] (fun o i wr => ∃ (k : Nat) (b : Bool), k ≤ n ∧ i = .int .i64 k ∧ o = .bool b ∧ Says b (b0 = true ∧ OrdTo xs ((retPlaces xs).getD []) k) ∧ Ext w1 wr) (fun _ i _ => n - (intOf i).toNat)
  case atStart => exact ⟨0, b0, Nat.zero_le _, rfl, rfl, (⟨fun h => ⟨h, fun _ _ _ _ h => absurd h (by omega)⟩, fun h => h.1⟩ : _ ↔ _), Below.refl _ _⟩
  case round =>
    obtain ⟨k, b, hk, rfl, rfl, hb, hext⟩ := hrel
    by_cases hlt : k < n
    · obtain ⟨a, s, d, h1, h2, h3, h4, h5⟩ := ord_at (show k < ((retPlaces xs).getD []).length by rw [HN.out]; exact hlt)
      have am : a < m := by rw [← HM.out]; exact h2
      have kq : k < q := by rw [← HQ.out]; exact h4
      obtain ⟨gb, go, a', rfl, ha', hca, _⟩ := hrp.intE hext hlt
      obtain ⟨gb', go', s', rfl, hs', hcs, _⟩ := hrs.intE hext am
      obtain ⟨gb'', go'', d', rfl, hd', hcd, _⟩ := hrd.intE hext kq
      have ea : a' = (a : Int) := by rw [h1] at ha'; injection ha' with e; exact e.symm
      subst ea
      rw [h3] at hs'
      rw [h5] at hd'
      injection hs' with es
      injection hd' with ed
      subst es ed
      have HO := hid (ordTo_step (k := k) h1 (by simpa using h3) h5)
      clear h1 h2 h3 h4 h5 ha'
      cases b
      · go_wp2
        go_quiet (fail)
        go_wp2
        go_roundw
        case rel =>
          refine ⟨k + 1, false, by omega, by go_num, rfl, ?_, below_drewN hext _⟩
          unfold Says
          rw [HO.out]
          have := hb.out
          constructor
          · intro h; cases h
          · rintro ⟨g1, g2, _⟩; exact this.2 ⟨g1, g2⟩
        case measure => simp [intOf]; omega
      · go_wp2
        go_quiet (fail)
        go_wp2
        go_roundw
        case rel =>
          refine ⟨k + 1, decide (s < d), by omega, by go_num, rfl, ?_, below_drewN hext _⟩
          unfold Says
          rw [HO.out, decide_eq_true_iff]
          have := hb.out.1 rfl
          exact ⟨fun h => ⟨this.1, this.2, h⟩, fun h => h.2.2⟩
        case measure => simp [intOf]; omega
    · go_wp2
      go_ret
      refine ⟨b, rfl, ?_, Ext.trans hx1 hext⟩
      rw [hb.out, ordP_iff, HB.out, HN.out]
      have : k = n := by omega
      rw [this]
end
end Go.Proofs.Ytjchobncmogcpaa
