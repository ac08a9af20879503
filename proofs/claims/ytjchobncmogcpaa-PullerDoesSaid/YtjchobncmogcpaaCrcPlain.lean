/- Check sums, and numbers as bytes, in plain words. -/
import Derived.WalkKit
namespace Go.Proofs.Ytjchobncmogcpaa

def poly32 : Nat := 3988292384
def stepN (x : Nat) : Nat := if x % 2 = 1 then (x / 2) ^^^ poly32 else x / 2
def stepsN : Nat → Nat → Nat
  | 0, x => x
  | k + 1, x => stepN (stepsN k x)
theorem xor_half (a b : Nat) : (a ^^^ b) / 2 = a / 2 ^^^ b / 2 := by
  apply Nat.eq_of_testBit_eq
  intro i
  simp [Nat.testBit_div_two, Nat.testBit_xor]
theorem xor_odd (a b : Nat) : (a ^^^ b) % 2 = (a + b) % 2 := by
  have h : ∀ n : Nat, n % 2 = (n.testBit 0).toNat := fun n => by
    rw [Nat.testBit_zero]
    rcases Nat.mod_two_eq_zero_or_one n with h | h <;> simp [h]
  rw [h (a ^^^ b), Nat.testBit_xor, Nat.add_mod, h a, h b]
  cases a.testBit 0 <;> cases b.testBit 0 <;> rfl
theorem xor_swap (a b p : Nat) : (a ^^^ b) ^^^ p = (a ^^^ p) ^^^ b := by rw [Nat.xor_assoc, Nat.xor_comm b p, ← Nat.xor_assoc]
theorem stepN_xor (a b : Nat) : stepN (a ^^^ b) = stepN a ^^^ stepN b := by
  unfold stepN
  rw [xor_half, xor_odd]
  rcases Nat.mod_two_eq_zero_or_one a with ha | ha <;> rcases Nat.mod_two_eq_zero_or_one b with hb | hb
  · rw [if_neg (by omega), if_neg (by omega), if_neg (by omega)]
  · rw [if_pos (by omega), if_neg (by omega), if_pos (by omega), Nat.xor_assoc]
  · rw [if_pos (by omega), if_pos (by omega), if_neg (by omega), xor_swap]
  · rw [if_neg (by omega), if_pos (by omega), if_pos (by omega), ← Nat.xor_assoc, xor_swap (a / 2) poly32 (b / 2), Nat.xor_assoc (a / 2 ^^^ b / 2), Nat.xor_self, Nat.xor_zero]
theorem stepsN_xor : ∀ (k a b : Nat), stepsN k (a ^^^ b) = stepsN k a ^^^ stepsN k b
  | 0, _, _ => rfl
  | k + 1, a, b => by simp only [stepsN]; rw [stepsN_xor k a b, stepN_xor]
theorem stepN_even (x : Nat) : stepN (2 * x) = x := by unfold stepN; rw [if_neg (by omega)]; omega
theorem stepsN_add (j : Nat) : ∀ (k x : Nat), stepsN (j + k) x = stepsN j (stepsN k x)
  | k, x => by
    induction j with
    | zero => simp [stepsN]
    | succ j ih => rw [show j + 1 + k = (j + k) + 1 from by omega]; simp only [stepsN]; rw [ih]
theorem stepsN_shift : ∀ (k x : Nat), stepsN k (2 ^ k * x) = x
  | 0, x => by simp [stepsN]
  | k + 1, x => by
    rw [show (2 : Nat) ^ (k + 1) * x = 2 ^ k * (2 * x) from by rw [Nat.pow_succ]; simp [Nat.mul_assoc]]
    simp only [stepsN]
    rw [stepsN_shift k (2 * x), stepN_even]
theorem stepN_lt {x : Nat} (h : x < 4294967296) : stepN x < 4294967296 := by
  unfold stepN
  split
  · exact Nat.xor_lt_two_pow (n := 32) (by omega) (by decide)
  · omega
theorem stepsN_lt : ∀ (k : Nat) {x : Nat}, x < 4294967296 → stepsN k x < 4294967296
  | 0, _, h => h
  | k + 1, _, h => stepN_lt (stepsN_lt k h)
theorem xor_zero_iff {a b : Nat} : a ^^^ b = 0 ↔ a = b := ⟨fun h => by
  have h1 : (a ^^^ b) ^^^ b = b := by rw [h, Nat.zero_xor]
  rwa [Nat.xor_assoc, Nat.xor_self, Nat.xor_zero] at h1, fun h => by rw [h, Nat.xor_self]⟩
theorem stepN_zero {d : Nat} (h : d < 4294967296) (hz : stepN d = 0) : d = 0 := by
  unfold stepN at hz
  split at hz
  · have : d / 2 = poly32 := xor_zero_iff.1 hz
    unfold poly32 at this
    omega
  · omega
theorem stepsN_zero : ∀ (k : Nat) {d : Nat}, d < 4294967296 → stepsN k d = 0 → d = 0
  | 0, _, _, h => h
  | k + 1, d, hd, h => stepsN_zero k hd (stepN_zero (stepsN_lt k hd) h)
theorem stepsN_inj (k : Nat) {a b : Nat} (ha : a < 4294967296) (hb : b < 4294967296) (h : stepsN k a = stepsN k b) : a = b := by
  have h1 : stepsN k (a ^^^ b) = 0 := by rw [stepsN_xor]; exact xor_zero_iff.2 h
  exact xor_zero_iff.1 (stepsN_zero k (Nat.xor_lt_two_pow (n := 32) ha hb) h1)

/-- A byte is taken in. -/
def feedB (x : Nat) (c : UInt8) : Nat := stepsN 8 (x ^^^ c.toNat)
def feed (x : Nat) (b : List UInt8) : Nat := b.foldl feedB x
theorem c_lt (c : UInt8) : c.toNat < 256 := c.toNat_lt
theorem feedB_lt {x : Nat} (h : x < 4294967296) (c : UInt8) : feedB x c < 4294967296 := stepsN_lt 8 (Nat.xor_lt_two_pow (n := 32) h (by have := c_lt c; omega))
theorem feed_lt : ∀ (b : List UInt8) {x : Nat}, x < 4294967296 → feed x b < 4294967296
  | [], _, h => h
  | c :: b, x, h => feed_lt b (feedB_lt h c)
theorem feed_append (x : Nat) (a b : List UInt8) : feed x (a ++ b) = feed (feed x a) b := by simp [feed]
theorem split_low (x : Nat) : x = (x % 256) ^^^ (256 * (x / 256)) := by
  apply Nat.eq_of_testBit_eq
  intro i
  rw [Nat.testBit_xor, show (256 : Nat) = 2 ^ 8 from rfl, Nat.testBit_mod_two_pow, Nat.testBit_two_pow_mul]
  by_cases h : i < 8
  · have h8 : ¬ 8 ≤ i := by omega
    simp [h, h8]
  · have h8 : 8 ≤ i := by omega
    simp only [h, h8, decide_false, decide_true, Bool.false_and, Bool.true_and, Bool.false_xor]
    rw [show x / 256 = x / 2 ^ 8 from rfl, Nat.testBit_div_two_pow]
    congr 1
    omega
/-- By the table. -/
theorem feedB_table (x : Nat) (c : UInt8) : feedB x c = stepsN 8 ((x % 256) ^^^ c.toNat) ^^^ (x / 256) := by
  unfold feedB
  conv => lhs; rw [split_low x]
  rw [xor_swap, stepsN_xor]
  congr 1
  exact stepsN_shift 8 (x / 256)
theorem low_lt (x : Nat) (c : UInt8) : (x % 256) ^^^ c.toNat < 256 := Nat.xor_lt_two_pow (n := 8) (Nat.mod_lt _ (by decide)) (c_lt c)
def ones : Nat := 4294967295
def crcOf (b : List UInt8) : Nat := feed ones b ^^^ ones
theorem crcOf_lt (b : List UInt8) : crcOf b < 4294967296 := Nat.xor_lt_two_pow (n := 32) (feed_lt b (by decide)) (by decide)

/-- The lowest bytes of a number, the highest first. -/
def putB : Nat → Nat → List UInt8
  | _, 0 => []
  | n, k + 1 => putB (n / 256) k ++ [UInt8.ofNat (n % 256)]
theorem putB_len : ∀ (k n : Nat), (putB n k).length = k
  | 0, _ => rfl
  | k + 1, n => by simp [putB, putB_len k]
theorem putB_first : ∀ (k n : Nat), putB n (k + 1) = UInt8.ofNat (n / 256 ^ k % 256) :: putB n k
  | 0, n => by simp [putB]
  | k + 1, n => by
    rw [putB, putB_first k (n / 256), putB]
    simp only [List.cons_append]
    congr 3
    rw [Nat.div_div_eq_div_mul, Nat.pow_succ, Nat.mul_comm]
def numB (b : List UInt8) : Nat := b.foldl (fun n c => n * 256 + c.toNat) 0
theorem numB_snoc (b : List UInt8) (c : UInt8) : numB (b ++ [c]) = numB b * 256 + c.toNat := by simp [numB]
theorem u8_of (n : Nat) (h : n < 256) : (UInt8.ofNat n).toNat = n := by simp [UInt8.toNat_ofNat']; omega
theorem numB_put : ∀ (k n : Nat), numB (putB n k) = n % 256 ^ k
  | 0, n => by simp [putB, numB]; omega
  | k + 1, n => by
    rw [putB, numB_snoc, numB_put k (n / 256), u8_of _ (Nat.mod_lt _ (by decide)), Nat.pow_succ, Nat.mul_comm (256 ^ k) 256, Nat.mod_mul]
    omega
theorem numB_from : ∀ (b : List UInt8) (n : Nat), b.foldl (fun n c => n * 256 + c.toNat) n < (n + 1) * 256 ^ b.length
  | [], n => by simp
  | c :: b, n => by
    have h := numB_from b (n * 256 + c.toNat)
    have hc := c_lt c
    simp only [List.foldl_cons, List.length_cons]
    refine Nat.lt_of_lt_of_le h ?_
    rw [Nat.pow_succ, Nat.mul_comm (256 ^ b.length) 256, ← Nat.mul_assoc]
    exact Nat.mul_le_mul_right _ (by omega)
theorem numB_lt (b : List UInt8) : numB b < 256 ^ b.length := by
  have := numB_from b 0
  simpa [numB] using this
/-- A sum's bytes, the lowest first. -/
def layB (s : Nat) : List UInt8 := (putB s 4).reverse
theorem layB_eq (s : Nat) : layB s = [UInt8.ofNat (s % 256), UInt8.ofNat (s / 256 % 256), UInt8.ofNat (s / 256 / 256 % 256), UInt8.ofNat (s / 256 / 256 / 256 % 256)] := by
  simp [layB, putB]
theorem layB_len (s : Nat) : (layB s).length = 4 := by simp [layB, putB_len]
end Go.Proofs.Ytjchobncmogcpaa
