/- Events as text: both readings of a line are one. -/
import Derived.Test.YtimlbebockfioaaDoorChartP
import Derived.Test.YtimlbebockfioaaDoorApi
namespace Go.Proofs.YtimlbebockfioaaDoor

def wordsAll : List (List UInt8) := [[115, 101, 110, 116], [101, 110, 116, 101, 114, 101, 100], [114, 101, 116, 117, 114, 110, 101, 100], [99, 111, 110, 102, 105, 114, 109, 101, 100], [117, 110, 107, 110, 111, 119, 110], [99, 114, 97, 115, 104, 101, 100], [102, 111, 114, 103, 101, 100], [102, 105, 114, 115, 116]]
def knownI (k : Int) : Bool := decide (0 ≤ k) && decide (k < 8)
def wordK (k : Int) : List UInt8 := if knownI k = true then wordsAll.getD k.toNat [] else []
/-- The kind of a word: the first one from 'i' on. -/
def kindFrom (s : List UInt8) : Nat → List (List UInt8) → Option Int
  | _, [] => none
  | i, x :: r => if x = s then some (i : Int) else kindFrom s (i + 1) r
def kindG (s : List UInt8) : Option Int := kindFrom s 0 wordsAll
def dataG (d : List UInt8) : List UInt8 := if d = [] then [45] else hexL d
def showable (e : Ev) : Bool := knownI e.kind && (rangedI e.step && rangedI e.place)
def showG (e : Ev) : List UInt8 := if showable e = true then joinW [Lib.itoa e.step, wordK e.kind, Lib.itoa e.place, dataG e.data] else []
def msgG (l : List UInt8) : Option (List UInt8) := if l = [45] then some [] else (match unhexL l with | some b => if b = [] then none else some b | none => none)
def evOf : Option Int → Option Int → Option Int → Option (List UInt8) → Option Ev
  | some n, some k, some p, some m => some ⟨n, k, p, m⟩
  | _, _, _, _ => none
/-- The event of a line: the program's reading. -/
def parseG (l : List UInt8) : Option Ev := match wordsL l with
  | [a, b, c, d] => evOf (numC a) (kindG b) (numC c) (msgG d)
  | _ => none
def refE (a b c d : List UInt8) : Ev := ⟨numR a, (kindG b).getD (-1), numR c, if d = [45] then [] else (unhexL d).getD []⟩
/-- The document's reading. -/
def parseR (l : List UInt8) : Option Ev := match wordsL l with
  | [a, b, c, d] => if showG (refE a b c d) = l ∧ l ≠ [] then some (refE a b c d) else none
  | _ => none
theorem kindG_word : ∀ k, knownI k = true → kindG (wordK k) = some k := by
  intro k hk
  have hk2 := hk
  unfold knownI at hk
  rw [Bool.and_eq_true, decide_eq_true_iff, decide_eq_true_iff] at hk
  have h8 : ∀ n, n < 8 → kindG (wordsAll.getD n []) = some (n : Int) := by decide
  have := h8 k.toNat (by omega)
  unfold wordK
  rw [if_pos hk2, this]
  congr 1
  omega
theorem kindFrom_spec : ∀ (s : List UInt8) (i : Nat) (l : List (List UInt8)) (k : Int), kindFrom s i l = some k → (i : Int) ≤ k ∧ k < (i : Int) + l.length ∧ l.getD (k - i).toNat [] = s
  | _, _, [], _, h => by cases h
  | s, i, x :: r, k, h => by
    unfold kindFrom at h
    split at h
    · rename_i hx
      injection h with h
      subst h
      refine ⟨Int.le_refl _, by simp only [List.length_cons]; omega, ?_⟩
      rw [show ((i : Int) - i).toNat = 0 from by omega]
      exact hx
    · obtain ⟨h1, h2, h3⟩ := kindFrom_spec s (i + 1) r k h
      refine ⟨by omega, by simp only [List.length_cons]; omega, ?_⟩
      rw [show (k - i).toNat = (k - ((i + 1 : Nat) : Int)).toNat + 1 from by omega]
      exact h3
theorem word_kindG {b : List UInt8} {k : Int} (h : kindG b = some k) : knownI k = true ∧ wordK k = b := by
  obtain ⟨h1, h2, h3⟩ := kindFrom_spec b 0 wordsAll k h
  have hk : knownI k = true := by
    unfold knownI
    have : wordsAll.length = 8 := rfl
    rw [decide_eq_true (by omega), decide_eq_true (by omega)]
    rfl
  refine ⟨hk, ?_⟩
  unfold wordK
  rw [if_pos hk]
  simpa using h3
theorem ranged_iff {n : Int} : rangedI n = true ↔ 0 ≤ n ∧ n ≤ 999999 := by
  unfold rangedI
  rw [Bool.and_eq_true, decide_eq_true_iff, decide_eq_true_iff]
theorem word_noblank : ∀ k, knownI k = true → (32 : UInt8) ∉ wordK k := by
  intro k hk
  have hk2 := hk
  unfold knownI at hk
  rw [Bool.and_eq_true, decide_eq_true_iff, decide_eq_true_iff] at hk
  have h8 : ∀ n, n < 8 → (32 : UInt8) ∉ wordsAll.getD n [] := by decide
  unfold wordK
  rw [if_pos hk2]
  exact h8 k.toNat (by omega)
theorem data_noblank (d : List UInt8) : (32 : UInt8) ∉ dataG d := by
  unfold dataG
  split
  · decide
  · exact hexL_noblank d
theorem join4 (a b c d : List UInt8) : joinW [a, b, c, d] = a ++ 32 :: (b ++ 32 :: (c ++ 32 :: d)) := rfl
theorem words_show {e : Ev} (h : showable e = true) : wordsL (showG e) = [Lib.itoa e.step, wordK e.kind, Lib.itoa e.place, dataG e.data] := by
  have h2 := h
  unfold showable at h
  rw [Bool.and_eq_true, Bool.and_eq_true, ranged_iff, ranged_iff] at h
  unfold showG
  rw [if_pos h2, join4, wordsL_app _ _ (itoa_noblank h.2.1.1), wordsL_app _ _ (word_noblank _ h.1), wordsL_app _ _ (itoa_noblank h.2.2.1), wordsL_one _ (data_noblank _)]
theorem show_ne {e : Ev} (h : showable e = true) : showG e ≠ [] := by
  unfold showG
  rw [if_pos h, join4]
  intro hn
  cases hi : Lib.itoa e.step with
  | nil => rw [hi] at hn; cases hn
  | cons a r => rw [hi] at hn; cases hn
theorem hexL_two : ∀ (l : List UInt8), hexL l ≠ [45] := fun l h => by
  have := hexL_len l
  rw [h] at this
  simp at this
  omega
theorem msg_data (d : List UInt8) : msgG (dataG d) = some d := by
  unfold dataG
  by_cases h : d = []
  · rw [if_pos h, h]
    rfl
  · rw [if_neg h]
    unfold msgG
    rw [if_neg (hexL_two d), unhex_hex]
    simp only
    rw [if_neg h]
/-- What is shown is read. -/
theorem parse_show {e : Ev} (h : showable e = true) : parseG (showG e) = some e := by
  have h2 := h
  unfold showable at h
  rw [Bool.and_eq_true, Bool.and_eq_true, ranged_iff, ranged_iff] at h
  unfold parseG
  rw [words_show h2]
  simp only
  rw [numC_itoa h.2.1.1 h.2.1.2, kindG_word _ h.1, numC_itoa h.2.2.1 h.2.2.2, msg_data]
  rfl
theorem msg_some {l m : List UInt8} (h : msgG l = some m) : dataG m = l ∧ (if l = [45] then [] else (unhexL l).getD []) = m := by
  unfold msgG at h
  by_cases h1 : l = [45]
  · rw [if_pos h1] at h ⊢
    injection h with h
    subst h
    exact ⟨h1 ▸ rfl, rfl⟩
  · rw [if_neg h1] at h ⊢
    cases hu : unhexL l with
    | none => rw [hu] at h; cases h
    | some b =>
      rw [hu] at h
      simp only at h
      by_cases hb : b = []
      · rw [if_pos hb] at h; cases h
      · rw [if_neg hb] at h
        injection h with h
        subst h
        refine ⟨?_, rfl⟩
        unfold dataG
        rw [if_neg hb, hex_unhex l b hu]
theorem evOf_some {a b c : Option Int} {d : Option (List UInt8)} {e : Ev} (h : evOf a b c d = some e) : a = some e.step ∧ b = some e.kind ∧ c = some e.place ∧ d = some e.data := by
  unfold evOf at h
  split at h
  · injection h with h
    subst h
    exact ⟨rfl, rfl, rfl, rfl⟩
  · cases h
/-- What is read is shown. -/
theorem show_parse {l a b c d : List UInt8} {e : Ev} (hw : wordsL l = [a, b, c, d]) (h : evOf (numC a) (kindG b) (numC c) (msgG d) = some e) : showable e = true ∧ showG e = l ∧ refE a b c d = e := by
  obtain ⟨h1, h2, h3, h4⟩ := evOf_some h
  obtain ⟨a1, a2, a3⟩ := numC_some h1
  obtain ⟨b1, b2⟩ := word_kindG h2
  obtain ⟨c1, c2, c3⟩ := numC_some h3
  obtain ⟨d1, d2⟩ := msg_some h4
  have hs : showable e = true := by
    unfold showable
    rw [b1, ranged_iff.2 ⟨a1, a2⟩, ranged_iff.2 ⟨c1, c2⟩]
    rfl
  refine ⟨hs, ?_, ?_⟩
  · unfold showG
    rw [if_pos hs, ← a3, b2, ← c3, d1, ← hw]
    exact joinW_words l
  · unfold refE
    rw [a3, numR_itoa a1 a2, h2, c3, numR_itoa c1 c2, d2]
    rfl
theorem parse_same (l : List UInt8) : parseR l = parseG l := by
  unfold parseR parseG
  split
  · rename_i a b c d hw
    cases h : evOf (numC a) (kindG b) (numC c) (msgG d) with
    | some e =>
      obtain ⟨h1, h2, h3⟩ := show_parse hw h
      rw [h3, if_pos ⟨h2, h2 ▸ show_ne h1⟩]
    | none =>
      rw [if_neg]
      rintro ⟨h1, h2⟩
      by_cases hs : showable (refE a b c d) = true
      · have h3 := words_show hs
        rw [h1, hw] at h3
        injection h3 with e1 h3
        injection h3 with e2 h3
        injection h3 with e3 h3
        injection h3 with e4 _
        have h4 := parse_show hs
        rw [h1] at h4
        unfold parseG at h4
        rw [hw] at h4
        simp only at h4
        rw [h] at h4
        cases h4
      · unfold showG at h1
        rw [if_neg hs] at h1
        exact h2 h1.symm
  · rfl
theorem parse_showable {l : List UInt8} {e : Ev} (h : parseG l = some e) : showable e = true ∧ showG e = l := by
  unfold parseG at h
  split at h
  · rename_i a b c d hw
    obtain ⟨h1, h2, _⟩ := show_parse hw h
    exact ⟨h1, h2⟩
  · cases h
theorem dataG_len (d : List UInt8) : (dataG d).length ≤ 2 * d.length + 1 := by
  unfold dataG
  split
  · simp
  · rw [hexL_len]; omega
end Go.Proofs.YtimlbebockfioaaDoor
