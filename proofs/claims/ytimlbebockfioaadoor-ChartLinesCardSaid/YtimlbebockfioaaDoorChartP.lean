/- Events as text: the plain law. -/
import Derived.Lib.AtoiAllCases
import Derived.Lib.ItoaNum
import Derived.Lib.Split
import Derived.Lib.IndexBytes
import Derived.Lib.Join
namespace Go.Proofs.YtimlbebockfioaaDoor

/-- A line's words: one blank between. -/
def wordsL : List UInt8 → List (List UInt8)
  | [] => [[]]
  | c :: r => if c = 32 then [] :: wordsL r else (match wordsL r with | [] => [[c]] | h :: t => (c :: h) :: t)
theorem wordsL_ne (l : List UInt8) : wordsL l ≠ [] := by
  cases l with
  | nil => simp [wordsL]
  | cons c r =>
    unfold wordsL
    split
    · simp
    · split <;> simp
theorem wordsL_app : ∀ (a r : List UInt8), (32 : UInt8) ∉ a → wordsL (a ++ 32 :: r) = a :: wordsL r
  | [], r, _ => by simp [wordsL]
  | c :: a, r, h => by
    have h1 : ¬ c = 32 := fun e => h (by simp [e])
    have h2 : (32 : UInt8) ∉ a := fun e => h (List.mem_cons_of_mem _ e)
    rw [List.cons_append, wordsL, if_neg h1, wordsL_app a r h2]
theorem wordsL_one : ∀ (a : List UInt8), (32 : UInt8) ∉ a → wordsL a = [a]
  | [], _ => rfl
  | c :: a, h => by
    have h1 : ¬ c = 32 := fun e => h (by simp [e])
    have h2 : (32 : UInt8) ∉ a := fun e => h (List.mem_cons_of_mem _ e)
    rw [wordsL, if_neg h1, wordsL_one a h2]
theorem wordsL_blank : ∀ (l : List UInt8), wordsL (l ++ [32]) = wordsL l ++ [[]]
  | [] => by simp [wordsL]
  | c :: r => by
    rw [List.cons_append]
    by_cases h : c = 32
    · rw [wordsL, if_pos h, wordsL_blank r, wordsL, if_pos h, List.cons_append]
    · rw [wordsL, if_neg h, wordsL_blank r, wordsL, if_neg h]
      cases hw : wordsL r with
      | nil => exact absurd hw (wordsL_ne r)
      | cons a t => rfl
theorem wordsL_snoc : ∀ (l : List UInt8) (c : UInt8), c ≠ 32 → ∀ i z, wordsL l = i ++ [z] → wordsL (l ++ [c]) = i ++ [z ++ [c]]
  | [], c, hc, i, z, h => by
    have h1 : wordsL ([] : List UInt8) = [] ++ [[]] := rfl
    rw [h1] at h
    obtain ⟨rfl, h2⟩ := List.append_inj' h (by simp)
    injection h2 with h2
    subst h2
    simp [wordsL, hc]
  | d :: r, c, hc, i, z, h => by
    rw [List.cons_append]
    by_cases hd : d = 32
    · rw [wordsL, if_pos hd] at h ⊢
      rcases List.eq_nil_or_concat (wordsL r) with he | ⟨i', z', he⟩
      · exact absurd he (wordsL_ne r)
      · have he : wordsL r = i' ++ [z'] := by simpa using he
        rw [he, ← List.cons_append] at h
        obtain ⟨rfl, h2⟩ := List.append_inj' h (by simp)
        injection h2 with h2
        subst h2
        rw [wordsL_snoc r c hc i' z' he]
        rfl
    · rw [wordsL, if_neg hd] at h ⊢
      rcases List.eq_nil_or_concat (wordsL r) with he | ⟨i', z', he⟩
      · exact absurd he (wordsL_ne r)
      · have he : wordsL r = i' ++ [z'] := by simpa using he
        rw [wordsL_snoc r c hc i' z' he]
        rw [he] at h
        cases i' with
        | nil =>
          have h1 : [] ++ [d :: z'] = i ++ [z] := h
          obtain ⟨rfl, h2⟩ := List.append_inj' h1 (by simp)
          injection h2 with h2
          subst h2
          rfl
        | cons a i' =>
          have h1 : ((d :: a) :: i') ++ [z'] = i ++ [z] := h
          obtain ⟨rfl, h2⟩ := List.append_inj' h1 (by simp)
          injection h2 with h2
          subst h2
          rfl
theorem wordsL_clean : ∀ (l : List UInt8) a, a ∈ wordsL l → (32 : UInt8) ∉ a
  | [], a, h => by
    rw [wordsL, List.mem_singleton] at h
    subst h
    simp
  | c :: r, a, h => by
    by_cases hc : c = 32
    · rw [wordsL, if_pos hc] at h
      rcases List.mem_cons.1 h with rfl | h
      · simp
      · exact wordsL_clean r a h
    · rw [wordsL, if_neg hc] at h
      cases hw : wordsL r with
      | nil => exact absurd hw (wordsL_ne r)
      | cons x t =>
        rw [hw] at h
        have hx := wordsL_clean r x (by rw [hw]; simp)
        rcases List.mem_cons.1 h with rfl | h
        · intro e
          rcases List.mem_cons.1 e with e | e
          · exact hc e.symm
          · exact hx e
        · exact wordsL_clean r a (by rw [hw]; exact List.mem_cons_of_mem _ h)
/-- The words, joined. -/
def joinW : List (List UInt8) → List UInt8
  | [] => []
  | [a] => a
  | a :: b :: r => a ++ 32 :: joinW (b :: r)
theorem joinW_words : ∀ (l : List UInt8), joinW (wordsL l) = l
  | [] => rfl
  | c :: r => by
    have ih := joinW_words r
    cases hw : wordsL r with
    | nil => exact absurd hw (wordsL_ne r)
    | cons x t =>
      rw [hw] at ih
      rw [wordsL]
      by_cases hc : c = 32
      · rw [if_pos hc, hw, hc]
        show [] ++ 32 :: joinW (x :: t) = _
        rw [ih]
        rfl
      · rw [if_neg hc, hw]
        show joinW ((c :: x) :: t) = _
        cases t with
        | nil => rw [← ih]; rfl
        | cons y t => rw [← ih]; rfl
theorem joinW_lib : ∀ (l : List (List UInt8)), Lib.join l [32] = joinW l
  | [] => rfl
  | [a] => by simp [Lib.join, joinW]
  | a :: b :: r => by
    have ih := joinW_lib (b :: r)
    unfold Lib.join at ih ⊢
    rw [joinW, ← ih]
    simp
theorem split_fuel : ∀ (n : Nat) (l : List UInt8), l.length < n → Lib.splitK [32] 0 (Lib.countFrom [32] n l) l = wordsL l
  | 0, _, h => absurd h (Nat.not_lt_zero _)
  | n + 1, l, h => by
    rw [Lib.countFrom]
    have hge := Lib.index_ge l [32]
    by_cases hi : Lib.index l [32] = -1
    · rw [if_pos (beq_iff_eq.2 hi)]
      have hn : (32 : UInt8) ∉ l := fun hm => by
        obtain ⟨k, hk⟩ := List.getElem?_of_mem hm
        rw [Lib.index_one] at hi
        exact Lib.indexByte_none hi k hk
      rw [wordsL_one l hn]
      rfl
    · rw [if_neg (by simpa using hi)]
      obtain ⟨i, he⟩ : ∃ i : Nat, Lib.index l [32] = i := ⟨(Lib.index l [32]).toNat, by omega⟩
      have he2 := he
      rw [Lib.index_one] at he2
      obtain ⟨h1, h2⟩ := Lib.indexByte_some he2
      have hil := (List.getElem?_eq_some_iff.1 h1).1
      have hl : l = l.take i ++ 32 :: l.drop (i + 1) := by
        have : l.drop i = 32 :: l.drop (i + 1) := by
          rw [List.drop_eq_getElem_cons hil, (List.getElem?_eq_some_iff.1 h1).2]
        rw [← this, List.take_append_drop]
      have hn : (32 : UInt8) ∉ l.take i := fun hm => by
        obtain ⟨k, hk⟩ := List.getElem?_of_mem hm
        have hki : k < i := by
          have := (List.getElem?_eq_some_iff.1 hk).1
          rw [List.length_take] at this
          omega
        rw [List.getElem?_take_of_lt hki] at hk
        exact h2 k hki hk
      rw [Nat.add_comm 1, Lib.splitK, if_neg (by simpa using hi), he]
      have e1 : ((i : Int).toNat + 0) = i := by omega
      have e2 : ((i : Int).toNat + ([32] : List UInt8).length) = i + 1 := by simp
      rw [e1, e2, split_fuel n (l.drop (i + 1)) (by rw [List.length_drop]; omega)]
      conv => rhs; rw [hl]
      rw [wordsL_app _ _ hn]
theorem split_words (l : List UInt8) : Lib.split l [32] = wordsL l := split_fuel (l.length + 1) l (by omega)

/-! ### Numbers -/
def rangedI (n : Int) : Bool := decide (0 ≤ n) && decide (n ≤ 999999)
/-- The program's number of a word. -/
def numC (l : List UInt8) : Option Int := match Lib.atoiAll l with
  | .ok n => if rangedI n = true ∧ Lib.itoa n = l then some n else none
  | _ => none
def isDig (c : UInt8) : Bool := decide (48 ≤ c.toNat) && decide (c.toNat ≤ 57)
def decV (l : List UInt8) : Nat := l.foldl (fun a c => 10 * a + (c.toNat - 48)) 0
/-- The document's number of a word. -/
def numR (l : List UInt8) : Int := if 1 ≤ l.length ∧ l.length ≤ 6 ∧ l.all isDig = true then (decV l : Int) else -1
theorem decDigits_dig : ∀ (u : Nat), (Lib.decDigits u).all isDig = true := by
  intro u
  induction u using Nat.strongRecOn with
  | _ u ih =>
    rw [Lib.decDigits]
    have hd : ∀ k, k < 10 → isDig (UInt8.ofNat (48 + k)) = true := by decide
    split
    · rename_i h
      rw [List.all_cons, hd u h]
      rfl
    · rename_i h
      rw [List.all_append, ih (u / 10) (by omega), List.all_cons, hd (u % 10) (by omega)]
      rfl
theorem decV_snoc (l : List UInt8) (c : UInt8) : decV (l ++ [c]) = 10 * decV l + (c.toNat - 48) := by
  unfold decV
  rw [List.foldl_append]
  rfl
theorem decV_digits (u : Nat) : decV (Lib.decDigits u) = u := by
  induction u using Nat.strongRecOn with
  | _ u ih =>
    rw [Lib.decDigits]
    have hd : ∀ k, k < 10 → (UInt8.ofNat (48 + k)).toNat - 48 = k := by decide
    split
    · rename_i h
      show 10 * 0 + ((UInt8.ofNat (48 + u)).toNat - 48) = u
      rw [hd u h]; omega
    · rename_i h
      rw [decV_snoc, ih (u / 10) (by omega), hd (u % 10) (by omega)]
      omega
theorem decDigits_len {u : Nat} (h : u ≤ 999999) : 1 ≤ (Lib.decDigits u).length ∧ (Lib.decDigits u).length ≤ 6 := by
  rw [Lib.decDigits_length]
  refine ⟨Lib.nDigits_pos u, Nat.le_of_not_lt fun hn => ?_⟩
  have : ∀ k v, 10 ^ k ≤ v → True := fun _ _ _ => trivial
  have h6 : ∀ (k v : Nat), v < 10 ^ (k + 1) → Lib.nDigits v ≤ k + 1 := by
    intro k
    induction k with
    | zero => intro v hv; rw [Lib.nDigits_small (by simpa using hv)]; exact Nat.le_refl _
    | succ k ih =>
      intro v hv
      by_cases hs : v < 10
      · rw [Lib.nDigits_small hs]; omega
      · rw [Lib.nDigits_big hs]
        have := ih (v / 10) (by rw [Nat.pow_succ] at hv; omega)
        omega
  have := h6 5 u (by omega)
  omega
theorem itoa_pos {n : Int} (h : 0 ≤ n) : Lib.itoa n = Lib.decDigits n.toNat := by unfold Lib.itoa; rw [if_neg (by omega)]
theorem parse_app : ∀ (l : List UInt8) (acc v : Nat) (r : List UInt8), Lib.parseUint10 acc l = .ok v → Lib.parseUint10 acc (l ++ r) = Lib.parseUint10 v r
  | [], acc, v, r, h => by
    rw [Lib.parseUint10] at h
    injection h with h
    subst h
    rfl
  | c :: l, acc, v, r, h => by
    rw [List.cons_append]
    rw [Lib.parseUint10] at h ⊢
    split at h
    · rename_i h1
      rw [if_pos h1]
      split at h
      · cases h
      · rename_i h2
        rw [if_neg h2]
        split at h
        · cases h
        · rename_i h3
          rw [if_neg h3]
          exact parse_app l _ v r h
    · cases h
theorem parse_digits (u : Nat) (hu : u ≤ 999999999) : Lib.parseUint10 0 (Lib.decDigits u) = .ok u := by
  induction u using Nat.strongRecOn with
  | _ u ih =>
    rw [Lib.decDigits]
    have hd : ∀ k, k < 10 → (UInt8.ofNat (48 + k)).toNat = 48 + k := by decide
    have one : ∀ acc k, k < 10 → acc ≤ 999999999 → Lib.parseUint10 acc [UInt8.ofNat (48 + k)] = .ok (acc * 10 + k) := fun acc k hk ha => by
      rw [Lib.parseUint10, hd k hk, if_pos (by omega), if_neg (by omega), if_neg (by omega), Lib.parseUint10]
      congr 1
      omega
    split
    · rename_i h
      rw [one 0 u h (by omega)]
      congr 1
      omega
    · rename_i h
      rw [parse_app _ _ _ _ (ih (u / 10) (by omega) (by omega)), one _ _ (by omega) (by omega)]
      congr 1
      omega
theorem digits_head (u : Nat) : ∃ c r, Lib.decDigits u = c :: r ∧ isDig c = true := by
  have h := decDigits_dig u
  cases hd : Lib.decDigits u with
  | nil =>
    have := Lib.decDigits_length u
    rw [hd] at this
    have := Lib.nDigits_pos u
    simp at *
    omega
  | cons c r =>
    rw [hd, List.all_cons, Bool.and_eq_true] at h
    exact ⟨c, r, rfl, h.1⟩
theorem atoi_digits (u : Nat) (hu : u ≤ 999999) : Lib.atoiAll (Lib.decDigits u) = .ok (u : Int) := by
  obtain ⟨c, r, hc, hd⟩ := digits_head u
  unfold isDig at hd
  rw [Bool.and_eq_true, decide_eq_true_iff, decide_eq_true_iff] at hd
  have hp := parse_digits u (by omega)
  rw [hc] at hp ⊢
  unfold Lib.atoiAll
  simp only
  rw [if_neg (by omega)]
  unfold Lib.parseMag
  rw [if_neg (by simp), hp]
  simp only
  rw [if_neg (by omega), if_neg (by omega), if_neg (by omega)]
theorem numC_itoa {n : Int} (h0 : 0 ≤ n) (h1 : n ≤ 999999) : numC (Lib.itoa n) = some n := by
  unfold numC
  have e : Lib.atoiAll (Lib.itoa n) = .ok n := by
    rw [itoa_pos h0, atoi_digits n.toNat (by omega)]
    congr 1
    omega
  rw [e]
  simp only
  rw [if_pos ⟨by unfold rangedI; rw [decide_eq_true h0, decide_eq_true h1]; rfl, trivial⟩]
theorem numC_some {l : List UInt8} {n : Int} (h : numC l = some n) : 0 ≤ n ∧ n ≤ 999999 ∧ l = Lib.itoa n := by
  unfold numC at h
  split at h
  · split at h
    · rename_i h1
      injection h with h
      subst h
      have h2 := h1.1
      unfold rangedI at h2
      rw [Bool.and_eq_true, decide_eq_true_iff, decide_eq_true_iff] at h2
      exact ⟨h2.1, h2.2, h1.2.symm⟩
    · cases h
  · cases h
theorem numR_itoa {n : Int} (h0 : 0 ≤ n) (h1 : n ≤ 999999) : numR (Lib.itoa n) = n := by
  rw [itoa_pos h0]
  unfold numR
  have hl := decDigits_len (u := n.toNat) (by omega)
  rw [if_pos ⟨hl.1, hl.2, decDigits_dig _⟩, decV_digits]
  omega
theorem numR_ge (l : List UInt8) : -1 ≤ numR l := by
  unfold numR
  split <;> omega
theorem dig_noblank {l : List UInt8} (h : l.all isDig = true) : (32 : UInt8) ∉ l := fun hm => by
  have := List.all_eq_true.1 h _ hm
  exact absurd this (by decide)
theorem itoa_noblank {n : Int} (h0 : 0 ≤ n) : (32 : UInt8) ∉ Lib.itoa n := by
  rw [itoa_pos h0]
  exact dig_noblank (decDigits_dig _)
/-! ### Digits of a byte's halves -/
def hexD (n : Nat) : UInt8 := if n < 10 then UInt8.ofNat (48 + n) else UInt8.ofNat (87 + n)
def hexL : List UInt8 → List UInt8
  | [] => []
  | c :: r => hexD (c.toNat / 16) :: hexD (c.toNat % 16) :: hexL r
def halfD (c : UInt8) : Option Nat := if 48 ≤ c.toNat ∧ c.toNat ≤ 57 then some (c.toNat - 48) else if 97 ≤ c.toNat ∧ c.toNat ≤ 102 then some (c.toNat - 87) else none
def unhexL : List UInt8 → Option (List UInt8)
  | [] => some []
  | [_] => none
  | a :: b :: r => match halfD a, halfD b with
    | some x, some y => (unhexL r).map (UInt8.ofNat (16 * x + y) :: ·)
    | _, _ => none
theorem half_hex : ∀ n, n < 16 → halfD (hexD n) = some n := by decide
theorem hex_half {c : UInt8} {n : Nat} (h : halfD c = some n) : n < 16 ∧ hexD n = c := by
  have h2 : ∀ c : Fin 256, ∀ n : Fin 16, halfD (UInt8.ofNat c.val) = some n.val → hexD n.val = UInt8.ofNat c.val := by decide +kernel
  have hn : n < 16 := by
    unfold halfD at h
    split at h
    · injection h with h; omega
    · split at h
      · injection h with h; omega
      · cases h
  have hc : UInt8.ofNat c.toNat = c := by simp
  have := h2 ⟨c.toNat, c.toNat_lt⟩ ⟨n, hn⟩ (by simp only; rw [hc]; exact h)
  exact ⟨hn, this.trans hc⟩
theorem unhex_hex : ∀ (l : List UInt8), unhexL (hexL l) = some l
  | [] => rfl
  | c :: r => by
    have hc := c.toNat_lt
    rw [hexL, unhexL, half_hex _ (by omega), half_hex _ (by omega)]
    simp only
    rw [unhex_hex r, show 16 * (c.toNat / 16) + c.toNat % 16 = c.toNat from by omega]
    simp
theorem hex_unhex : ∀ (l b : List UInt8), unhexL l = some b → hexL b = l
  | [], b, h => by
    rw [unhexL] at h
    injection h with h
    subst h
    rfl
  | [_], b, h => by rw [unhexL] at h; cases h
  | x :: y :: r, b, h => by
    rw [unhexL] at h
    split at h
    · rename_i u v hu hv
      cases hr : unhexL r with
      | none => rw [hr] at h; cases h
      | some b' =>
        rw [hr] at h
        injection h with h
        subst h
        obtain ⟨a1, a2⟩ := hex_half hu
        obtain ⟨b1, b2⟩ := hex_half hv
        have e : (UInt8.ofNat (16 * u + v)).toNat = 16 * u + v := by
          rw [UInt8.toNat_ofNat']
          omega
        rw [hexL, e, hex_unhex r b' hr, show (16 * u + v) / 16 = u from by omega, show (16 * u + v) % 16 = v from by omega, a2, b2]
    · cases h
theorem hexL_noblank : ∀ (l : List UInt8), (32 : UInt8) ∉ hexL l
  | [] => by simp [hexL]
  | c :: r => by
    have hn : ∀ n, n < 16 → hexD n ≠ 32 := by decide
    have hc := c.toNat_lt
    rw [hexL]
    intro h
    rcases List.mem_cons.1 h with h | h
    · exact hn _ (by omega) h.symm
    · rcases List.mem_cons.1 h with h | h
      · exact hn _ (by omega) h.symm
      · exact hexL_noblank r h
theorem hexL_len : ∀ (l : List UInt8), (hexL l).length = 2 * l.length
  | [] => rfl
  | c :: r => by rw [hexL, List.length_cons, List.length_cons, List.length_cons, hexL_len r]; omega
end Go.Proofs.YtimlbebockfioaaDoor
