/- The judge's rules in plain words. -/
import Derived.Test.YtjchobncmogcpaaCrashR3
namespace Go.Proofs.Ytjchobncmogcpaa
open Go.RowKit

theorem drop_get {β : Type} (l : List β) (k j : Nat) : (l.drop k)[j]? = l[k + j]? := by rw [List.getElem?_drop]

section
variable {α : Type} [DecidableEq α]
theorem ix_hit {x : α} : ∀ {l : List α}, ¬ ix x l < 0 → l[(ix x l).toNat]? = some x
  | [], h => absurd (show ix x ([] : List α) < 0 by simp [ix]) h
  | y :: l, h => by
    by_cases h0 : y = x
    · simp [ix, h0]
    · by_cases h1 : ix x l < 0
      · exact absurd (show ix x (y :: l) < 0 by simp [ix, h0, h1]) h
      · have := ix_hit h1
        simp only [ix, h0, if_false, if_neg h1]
        rw [show (ix x l + 1).toNat = (ix x l).toNat + 1 from by omega, List.getElem?_cons_succ, this]
/-- What the places of texts are. -/
structure PlacesAre (a b : List α) (k : Nat) (q : List Int) : Prop where
  len : q.length = a.length
  at_ : ∀ (j : Nat) (x : Int), q[j]? = some x → ∃ m : Nat, x = m ∧ k ≤ m ∧ m < b.length ∧ b[m]? = a[j]?
  up : ∀ (j : Nat) (x y : Int), q[j]? = some x → q[j + 1]? = some y → x < y
theorem pl_are : ∀ (a b : List α) (k : Nat) (acc p : List Int), pl a b k acc = some p → ∃ q, p = acc ++ q ∧ PlacesAre a b k q
  | [], b, k, acc, p, h => by
    simp only [pl, Option.some.injEq] at h
    exact ⟨[], by simp [h], rfl, by simp, by simp⟩
  | x :: a, b, k, acc, p, h => by
    simp only [pl] at h
    by_cases hi : ix x (b.drop k) < 0
    · rw [if_pos hi] at h; cases h
    · rw [if_neg hi] at h
      obtain ⟨q, hp, hq⟩ := pl_are a b _ _ p h
      have hhit := ix_hit hi
      rw [drop_get] at hhit
      refine ⟨((k : Int) + ix x (b.drop k)) :: q, by rw [hp]; simp, by simp [hq.len], fun j y hj => ?_, fun j y z hj hz => ?_⟩
      · rcases j with _ | j
        · simp at hj
          subst hj
          exact ⟨k + (ix x (b.drop k)).toNat, by omega, by omega, lt_of_get hhit, by simpa using hhit⟩
        · obtain ⟨m, h1, h2, h3, h4⟩ := hq.at_ j y (by simpa using hj)
          exact ⟨m, h1, by omega, h3, by simpa using h4⟩
      · rcases j with _ | j
        · simp at hj
          subst hj
          obtain ⟨m, h1, h2, h3, h4⟩ := hq.at_ 0 z (by simpa using hz)
          omega
        · exact hq.up j y z (by simpa using hj) (by simpa using hz)
theorem places_are {a b : List α} {p : List Int} (h : placesOf a b = some p) : PlacesAre a b 0 p := by
  obtain ⟨q, hp, hq⟩ := pl_are a b 0 [] p h
  simp at hp
  subst hp
  exact hq
/-- A beginning has the places 0, 1, 2, .. -/
theorem pl_self (b : List α) (n : Nat) (hn : n ≤ b.length) : ∀ (m k : Nat) (acc : List Int), m + k = n → pl ((b.take n).drop k) b k acc = some (acc ++ (List.range' k m).map Int.ofNat)
  | 0, k, acc, h => by rw [List.drop_of_length_le (by rw [List.length_take]; omega)]; simp [pl]
  | m + 1, k, acc, h => by
    have hk : k < b.length := by omega
    have hx : (b.take n)[k]? = some b[k] := by rw [List.getElem?_take_of_lt (by omega), List.getElem?_eq_getElem hk]
    have hi : ix b[k] (b.drop k) = (0 : Nat) := ix_at (by rw [drop_get]; exact List.getElem?_eq_getElem hk) fun j hj => absurd hj (by omega)
    rw [pl_pos hx (by rw [hi]; omega), hi]
    have := pl_self b n hn m (k + 1) (acc ++ [(k : Int) + ((0 : Nat) : Int)]) (by omega)
    simp only [Int.toNat_natCast, Nat.add_zero] at this ⊢
    rw [this, List.range'_succ]
    simp
theorem places_self {b : List α} {n : Nat} (hn : n ≤ b.length) : placesOf (b.take n) b = some ((List.range n).map Int.ofNat) := by
  have := pl_self b n hn n 0 [] (by omega)
  rw [List.drop_zero, List.nil_append, ← List.range_eq_range'] at this
  exact this
theorem preB_self {b : List α} {n : Nat} (hn : n ≤ b.length) : preB (b.take n) b = true := by
  have hl : (b.take n).length = n := by rw [List.length_take]; omega
  rw [preB_long (by omega), hl]
  exact decide_eq_true rfl
end

theorem nums_mem {l : List Ev} {kind : Int} {x : Int} : x ∈ nums l kind ↔ ∃ (i : Nat) (e : Ev), x = i ∧ l[i]? = some e ∧ e.kind = kind := by
  have key : ∀ (l : List Ev) (k : Nat), x ∈ numsFrom kind k l ↔ ∃ (i : Nat) (e : Ev), x = ((k + i : Nat) : Int) ∧ l[i]? = some e ∧ e.kind = kind := by
    intro l
    induction l with
    | nil => intro k; simp [numsFrom]
    | cons y l ih =>
      intro k
      simp only [numsFrom]
      constructor
      · intro h
        split at h
        · rename_i hy
          rcases List.mem_cons.1 h with rfl | h
          · exact ⟨0, y, by simp, by simp, hy⟩
          · obtain ⟨i, e, h1, h2, h3⟩ := (ih (k + 1)).1 h
            exact ⟨i + 1, e, by rw [h1]; congr 1; omega, by simpa using h2, h3⟩
        · obtain ⟨i, e, h1, h2, h3⟩ := (ih (k + 1)).1 h
          exact ⟨i + 1, e, by rw [h1]; congr 1; omega, by simpa using h2, h3⟩
      · rintro ⟨i, e, h1, h2, h3⟩
        rcases i with _ | i
        · simp at h2
          subst h2
          rw [if_pos h3, h1]
          simp
        · have hm : x ∈ numsFrom kind (k + 1) l := (ih (k + 1)).2 ⟨i, e, by rw [h1]; congr 1; omega, by simpa using h2, h3⟩
          split
          · exact List.mem_cons_of_mem _ hm
          · exact hm
  simpa [nums] using key l 0
theorem nums_ne {l : List Ev} {k k' : Int} {i j : Nat} {x y : Int} (hk : k ≠ k') (hx : (nums l k)[i]? = some x) (hy : (nums l k')[j]? = some y) : x ≠ y := by
  rintro rfl
  obtain ⟨a, e, h1, h2, h3⟩ := nums_mem.1 (List.mem_of_getElem? hx)
  obtain ⟨b, e', h1', h2', h3'⟩ := nums_mem.1 (List.mem_of_getElem? hy)
  obtain rfl : a = b := by omega
  rw [h2] at h2'
  injection h2' with e
  subst e
  exact hk (h3.symm.trans h3')
theorem texts_len (l : List Ev) (kind : Int) : (texts l kind).length = (nums l kind).length := by simp [texts]

/-- Where what was returned was sent. -/
def retPlaces (l : List Ev) : Option (List Int) := placesOf (texts l 2) (texts l 0)
/-- What was returned was sent ahead, in that order. -/
def OrdP (l : List Ev) : Prop := ∃ p, retPlaces l = some p ∧ ∀ (j : Nat) (a s d : Int), p[j]? = some a → (nums l 0)[a.toNat]? = some s → (nums l 2)[j]? = some d → s < d
/-- Wherever something was left out, a station crashed. -/
def SkipP (l : List Ev) : Prop := OrdP l ∧ ∀ p, retPlaces l = some p → ∀ (j : Nat) (a d : Int), p[j]? = some a → (nums l 2)[j]? = some d → ∀ (k : Nat) (s : Int), (j = 0 ∨ ∃ b, p[j - 1]? = some b ∧ b < k) → (k : Int) < a → (nums l 0)[k]? = some s → crB l s d (-1) = true

theorem crB_calm {l : List Ev} (h : nums l 5 = []) (f t who : Int) : crB l f t who = false := crB_no fun j x hx => by
  have : x.kind ≠ 5 := fun hk => by
    have hm : (j : Int) ∈ nums l 5 := nums_mem.2 ⟨j, x, rfl, hx, hk⟩
    rw [h] at hm
    cases hm
  unfold hit
  rw [decide_eq_false (fun hh => this hh.1)]
/-- Where nothing is skipped, and no station crashed, what was returned is a beginning. -/
theorem calm_prefix {l : List Ev} (h : nums l 5 = []) (hs : SkipP l) : preB (texts l 2) (texts l 0) = true := by
  obtain ⟨⟨p, hp, _⟩, hsk⟩ := hs
  have hA := places_are hp
  have hget : ∀ j, j < (texts l 2).length → p[j]? = some (j : Int) := by
    intro j
    induction j with
    | zero =>
      intro hj
      obtain ⟨a, ha⟩ : ∃ a, p[0]? = some a := ⟨_, List.getElem?_eq_getElem (by rw [hA.len]; exact hj)⟩
      obtain ⟨m, h1, _, h3, _⟩ := hA.at_ 0 a ha
      rcases Nat.eq_zero_or_pos m with h0 | h0
      · rw [ha, h1, h0]
      · obtain ⟨s, hs⟩ : ∃ s, (nums l 0)[0]? = some s := ⟨_, List.getElem?_eq_getElem (by rw [texts_len] at h3; omega)⟩
        obtain ⟨d, hd⟩ : ∃ d, (nums l 2)[0]? = some d := ⟨_, List.getElem?_eq_getElem (by rw [texts_len] at hj; omega)⟩
        have := hsk p hp 0 a d ha hd 0 s (.inl rfl) (by omega) hs
        rw [crB_calm h] at this
        cases this
    | succ j ih =>
      intro hj
      have hprev := ih (by omega)
      obtain ⟨a, ha⟩ : ∃ a, p[j + 1]? = some a := ⟨_, List.getElem?_eq_getElem (by rw [hA.len]; exact hj)⟩
      obtain ⟨m, h1, _, h3, _⟩ := hA.at_ (j + 1) a ha
      have hup := hA.up j _ _ hprev ha
      rcases Nat.lt_or_ge (j + 1) m with h0 | h0
      · obtain ⟨s, hs⟩ : ∃ s, (nums l 0)[j + 1]? = some s := ⟨_, List.getElem?_eq_getElem (by rw [texts_len] at h3; omega)⟩
        obtain ⟨d, hd⟩ : ∃ d, (nums l 2)[j + 1]? = some d := ⟨_, List.getElem?_eq_getElem (by rw [texts_len] at hj; omega)⟩
        have := hsk p hp (j + 1) a d ha hd (j + 1) s (.inr ⟨j, by simpa using hprev, by omega⟩) (by omega) hs
        rw [crB_calm h] at this
        cases this
      · rw [ha]; congr 1; omega
  have hle : (texts l 2).length ≤ (texts l 0).length := by
    rcases Nat.eq_zero_or_pos (texts l 2).length with h0 | h0
    · omega
    · obtain ⟨m, h1, _, h3, _⟩ := hA.at_ _ _ (hget ((texts l 2).length - 1) (by omega))
      omega
  rw [preB_long hle, decide_eq_true_iff]
  refine List.ext_getElem? fun j => ?_
  rcases Nat.lt_or_ge j (texts l 2).length with hj | hj
  · obtain ⟨m, h1, _, _, h4⟩ := hA.at_ j _ (hget j hj)
    obtain rfl : j = m := by omega
    rw [List.getElem?_take_of_lt hj, h4]
  · rw [List.getElem?_eq_none hj, List.getElem?_eq_none (by rw [List.length_take]; omega)]
end Go.Proofs.Ytjchobncmogcpaa
