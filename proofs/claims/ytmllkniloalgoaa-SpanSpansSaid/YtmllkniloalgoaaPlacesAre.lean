/- What the places of texts are. -/
import Derived.Test.YtmllkniloalgoaaOutcomes
namespace Go.Proofs.Ytmllkniloalgoaa
open Go.RowKit

section
variable {α : Type} [DecidableEq α]
theorem ix_hit {x : α} : ∀ {l : List α}, ¬ ix x l < 0 → l[(ix x l).toNat]? = some x
  | [], h => absurd (show ix x ([] : List α) < 0 by simp [ix]) h
  | y :: l, h => by
    by_cases h0 : y = x
    · simp [ix, h0]
    · by_cases h1 : ix x l < 0
      · exact absurd (show ix x (y :: l) < 0 by simp [ix, h0, h1]) h
      · have := ix_hit h1
        simp only [ix, h0, if_false, if_neg h1]
        rw [show (ix x l + 1).toNat = (ix x l).toNat + 1 from by omega, List.getElem?_cons_succ, this]
/-- What the places of texts are. -/
structure PlacesAre (a b : List α) (k : Nat) (q : List Int) : Prop where
  len : q.length = a.length
  at_ : ∀ (j : Nat) (x : Int), q[j]? = some x → ∃ m : Nat, x = m ∧ k ≤ m ∧ m < b.length ∧ b[m]? = a[j]?
  up : ∀ (j : Nat) (x y : Int), q[j]? = some x → q[j + 1]? = some y → x < y
theorem pl_are : ∀ (a b : List α) (k : Nat) (acc p : List Int), pl a b k acc = some p → ∃ q, p = acc ++ q ∧ PlacesAre a b k q
  | [], b, k, acc, p, h => by
    simp only [pl, Option.some.injEq] at h
    exact ⟨[], by simp [h], rfl, by simp, by simp⟩
  | x :: a, b, k, acc, p, h => by
    simp only [pl] at h
    by_cases hi : ix x (b.drop k) < 0
    · rw [if_pos hi] at h; cases h
    · rw [if_neg hi] at h
      obtain ⟨q, hp, hq⟩ := pl_are a b _ _ p h
      have hhit := ix_hit hi
      rw [drop_get] at hhit
      refine ⟨((k : Int) + ix x (b.drop k)) :: q, by rw [hp]; simp, by simp [hq.len], fun j y hj => ?_, fun j y z hj hz => ?_⟩
      · rcases j with _ | j
        · simp at hj
          subst hj
          exact ⟨k + (ix x (b.drop k)).toNat, by omega, by omega, lt_of_get hhit, by simpa using hhit⟩
        · obtain ⟨m, h1, h2, h3, h4⟩ := hq.at_ j y (by simpa using hj)
          exact ⟨m, h1, by omega, h3, by simpa using h4⟩
      · rcases j with _ | j
        · simp at hj
          subst hj
          obtain ⟨m, h1, h2, h3, h4⟩ := hq.at_ 0 z (by simpa using hz)
          omega
        · exact hq.up j y z (by simpa using hj) (by simpa using hz)
theorem places_are {a b : List α} {p : List Int} (h : placesOf a b = some p) : PlacesAre a b 0 p := by
  obtain ⟨q, hp, hq⟩ := pl_are a b 0 [] p h
  simp at hp
  subst hp
  exact hq
end
theorem texts_len (l : List Ev) (kind : Int) : (texts l kind).length = (nums l kind).length := by simp [texts]
end Go.Proofs.Ytmllkniloalgoaa
