/- What a reader of runs reads, in plain words: bytes that are left, or nothing any more. -/
import Derived.Test.YtjchobncmogcpaaKeepP
namespace Go.Proofs.Ytjchobncmogcpaa
open Go.RowKit

abbrev St := Option (List UInt8)
def tkS (n : Nat) : St → List UInt8 × St
  | none => ([], none)
  | some b => if n ≤ b.length then (b.take n, some (b.drop n)) else ([], none)
def wideS (s : St) : Nat × St := (numB (tkS 8 s).1, (tkS 8 s).2)
def cntS (most : Nat) (s : St) : Nat × St := if most < (wideS s).1 then (0, none) else wideS s
def plainS (s : St) : Int × St := (wrap64 ((wideS s).1 : Int), (wideS s).2)
def edS (s : St) : Ed × St :=
  (⟨(plainS s).1, (plainS (plainS s).2).1, UInt8.ofNat (cntS 255 (plainS (plainS s).2).2).1⟩, (cntS 255 (plainS (plainS s).2).2).2)
def edsS : Nat → List Ed → St → List Ed × St
  | 0, acc, s => (acc, s)
  | _ + 1, acc, none => (acc, none)
  | k + 1, acc, some b => edsS k (acc ++ [(edS (some b)).1]) (edS (some b)).2
/-- The three numbers of a choice, its bytes, how many edits. -/
def hdS (s : St) : (Int × Int × Int) × St := (((plainS s).1, (plainS (plainS s).2).1, (plainS (plainS (plainS s).2).2).1), (plainS (plainS (plainS s).2).2).2)
def dataS (s : St) : List UInt8 × St := tkS (cntS 255 s).1 (cntS 255 s).2
def chS (s : St) : Ch × St :=
  let h := hdS s
  let d := dataS h.2
  let m := cntS 255 d.2
  let e := edsS m.1 [] m.2
  (⟨h.1.1, h.1.2.1, h.1.2.2, d.1, e.1⟩, e.2)
def drawsS : Nat → List Int → St → List Int × St
  | 0, acc, s => (acc, s)
  | _ + 1, acc, none => (acc, none)
  | k + 1, acc, some b => drawsS k (acc ++ [((wideS (some b)).1 : Int)]) (wideS (some b)).2
def chsS : Nat → List Ch → St → List Ch × St
  | 0, acc, s => (acc, s)
  | _ + 1, acc, none => (acc, none)
  | k + 1, acc, some b => chsS k (acc ++ [(chS (some b)).1]) (chS (some b)).2
theorem tkS_y {n : Nat} {b : List UInt8} (h : n ≤ b.length) : tkS n (some b) = (b.take n, some (b.drop n)) := if_pos h
theorem tkS_n {n : Nat} {b : List UInt8} (h : ¬ n ≤ b.length) : tkS n (some b) = ([], none) := if_neg h
theorem tkS_none (n : Nat) : tkS n none = ([], none) := rfl
theorem wideS_none : wideS none = (0, none) := rfl
theorem cntS_none (m : Nat) : cntS m none = (0, none) := by unfold cntS; rw [wideS_none]; simp
theorem plainS_none : (plainS none).2 = none := rfl
theorem edS_none : (edS none).2 = none := by unfold edS; simp only [plainS_none, cntS_none]
theorem edsS_none : ∀ (k : Nat) (acc : List Ed), edsS k acc none = (acc, none)
  | 0, _ => rfl
  | _ + 1, _ => rfl
theorem drawsS_none : ∀ (k : Nat) (acc : List Int), drawsS k acc none = (acc, none)
  | 0, _ => rfl
  | _ + 1, _ => rfl
theorem chsS_none : ∀ (k : Nat) (acc : List Ch), chsS k acc none = (acc, none)
  | 0, _ => rfl
  | _ + 1, _ => rfl
theorem hdS_none : (hdS none).2 = none := rfl
theorem dataS_none : (dataS none).2 = none := by unfold dataS; rw [cntS_none]; rfl
theorem chS_none : (chS none).2 = none := by
  unfold chS
  simp only [hdS_none, dataS_none, cntS_none, edsS_none]
theorem tkS_ok {n : Nat} {b b' : List UInt8} (h : (tkS n (some b)).2 = some b') : n ≤ b.length ∧ b' = b.drop n ∧ (tkS n (some b)).1 = b.take n := by
  by_cases hn : n ≤ b.length
  · have e : tkS n (some b) = (b.take n, some (b.drop n)) := if_pos hn
    rw [e] at h ⊢
    injection h with h
    exact ⟨hn, h.symm, rfl⟩
  · have e : tkS n (some b) = ([], none) := if_neg hn
    rw [e] at h; cases h
theorem tkS_no {n : Nat} {b : List UInt8} (h : (tkS n (some b)).2 = none) : b.length < n := by
  by_cases hn : n ≤ b.length
  · have e : tkS n (some b) = (b.take n, some (b.drop n)) := if_pos hn
    rw [e] at h; cases h
  · omega
theorem tkS_len {n : Nat} {b b' : List UInt8} (h : (tkS n (some b)).2 = some b') : b'.length ≤ b.length := by
  rw [(tkS_ok h).2.1, List.length_drop]; omega
theorem tkS_1len (n : Nat) (s : St) : (tkS n s).1.length ≤ n := by
  cases s with
  | none => simp [tkS]
  | some b =>
    by_cases hn : n ≤ b.length
    · have e : tkS n (some b) = (b.take n, some (b.drop n)) := if_pos hn
      rw [e, List.length_take]; omega
    · have e : tkS n (some b) = ([], none) := if_neg hn
      rw [e]; simp
theorem wideS_lt (s : St) : (wideS s).1 < 18446744073709551616 := by
  have h1 := numB_lt (tkS 8 s).1
  have h2 := tkS_1len 8 s
  have h3 : 256 ^ (tkS 8 s).1.length ≤ 256 ^ 8 := Nat.pow_le_pow_right (by decide) h2
  have h4 : (256 : Nat) ^ 8 = 18446744073709551616 := by decide
  have h5 : (wideS s).1 = numB (tkS 8 s).1 := rfl
  omega
theorem cntS_le (m : Nat) (s : St) : (cntS m s).1 ≤ m := by
  unfold cntS
  split
  · omega
  · omega
end Go.Proofs.Ytjchobncmogcpaa
