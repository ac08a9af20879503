/- Of draws: plain numbers and lists. No program in sight. -/
import Derived.Test.YtheopadakjojkaaKit
namespace Go.Proofs.Ytheopadakjojkaa

def P2 (k : Nat) : Int := ((2 ^ k : Nat) : Int)
/-- p (p - 1) (p - 2) .., n factors; no factor is below 0. -/
def ff (p : Nat) : Nat → Nat
  | 0 => 1
  | n + 1 => ff p n * (p - n)
def FF (b i : Nat) : Int := ((ff (2 ^ b) i : Nat) : Int)
def LL (b i : Nat) : Int := ((2 ^ b - i : Nat) : Int)

structure Rt (b n : Nat) : Prop where
  b1 : 1 ≤ b
  b2 : b ≤ 16
  n2 : n ≤ 16
  m : n * b ≤ 48

theorem P2_pos (k : Nat) : 1 ≤ P2 k := by
  unfold P2
  have := Nat.two_pow_pos k
  omega
theorem P2_le {k m : Nat} (h : k ≤ m) : P2 k ≤ P2 m := by
  unfold P2
  exact_mod_cast Nat.pow_le_pow_right (by omega) h
theorem P2_48 : P2 48 = 281474976710656 := by unfold P2; rfl
theorem P2_bd {k : Nat} (h : k ≤ 48) : P2 k ≤ 281474976710656 := by have := P2_le h; rw [P2_48] at this; exact this
theorem P2_succ (k : Nat) : P2 (k + 1) = 2 * P2 k := by unfold P2; rw [Nat.pow_succ]; simp; omega

theorem ff_le (p : Nat) : ∀ n, ff p n ≤ p ^ n
  | 0 => by simp [ff]
  | n + 1 => by
    rw [ff, Nat.pow_succ]
    exact Nat.mul_le_mul (ff_le p n) (Nat.sub_le _ _)
theorem pow_bd {b n : Nat} (h : Rt b n) {i : Nat} (hi : i ≤ n) : (2 ^ b) ^ i ≤ 281474976710656 := by
  rw [← Nat.pow_mul]
  have : b * i ≤ 48 := Nat.le_trans (Nat.mul_le_mul_left b hi) (by rw [Nat.mul_comm]; exact h.m)
  exact Nat.le_trans (Nat.pow_le_pow_right (by omega) this) (by decide)
theorem FF_bd {b n : Nat} (h : Rt b n) {i : Nat} (hi : i ≤ n) : 0 ≤ FF b i ∧ FF b i ≤ 281474976710656 := by
  unfold FF
  have := Nat.le_trans (ff_le (2 ^ b) i) (pow_bd h hi)
  omega
theorem FF_step (b i : Nat) : FF b (i + 1) = FF b i * LL b i := by unfold FF LL; rw [ff]; exact Int.natCast_mul _ _
theorem FL_bd {b n : Nat} (h : Rt b n) {i : Nat} (hi : i < n) : 0 ≤ FF b i * LL b i ∧ FF b i * LL b i ≤ 281474976710656 := by
  rw [← FF_step]; exact FF_bd h hi
theorem LL_bd {b n : Nat} (h : Rt b n) (i : Nat) : 0 ≤ LL b i ∧ LL b i ≤ 65536 := by
  unfold LL
  have : 2 ^ b ≤ 2 ^ 16 := Nat.pow_le_pow_right (by omega) h.b2
  omega
theorem LL_zero (b : Nat) : LL b 0 = P2 b := by unfold LL P2; simp
theorem LL_step {b i : Nat} (h : 0 < LL b i) : LL b (i + 1) = LL b i - 1 := by unfold LL at *; omega
theorem LL_stop {b i : Nat} (h : ¬ 0 < LL b i) : LL b (i + 1) = LL b i := by unfold LL at *; omega
theorem LL_at {b i : Nat} (h : (i : Int) < P2 b) : LL b i = P2 b - i := by unfold LL P2 at *; omega
theorem ff_zero (p : Nat) : ∀ n, p < n → ff p n = 0
  | 0, h => by omega
  | n + 1, h => by
    rw [ff]
    rcases Nat.lt_or_ge p n with h' | h'
    · rw [ff_zero p n h', Nat.zero_mul]
    · rw [show p - n = 0 from by omega, Nat.mul_zero]
theorem FF_zero {b i n : Nat} (h : P2 b ≤ i) (hi : i < n) : FF b n = 0 := by
  unfold FF P2 at *
  rw [ff_zero _ _ (by omega)]; rfl
theorem FF_0 (b : Nat) : FF b 0 = 1 := rfl
theorem FF_le_P2 {b n : Nat} : FF b n ≤ P2 (n * b) := by
  unfold FF P2
  have := ff_le (2 ^ b) n
  rw [← Nat.pow_mul, Nat.mul_comm] at this
  omega

/-- n (n - 1) / 2 -/
def tri (n : Nat) : Nat := n * (n - 1) / 2
theorem tri_succ (n : Nat) : tri (n + 1) = tri n + n := by
  unfold tri
  rcases n with _ | n
  · rfl
  · show (n + 2) * (n + 1) / 2 = (n + 1) * n / 2 + (n + 1)
    have : (n + 2) * (n + 1) = (n + 1) * n + (n + 1) * 2 := by rw [← Nat.mul_add, Nat.mul_comm]
    rw [this]
    omega
theorem tri_le {n : Nat} (h : n ≤ 16) : tri n ≤ 120 := by
  unfold tri
  have : n * (n - 1) ≤ 16 * 15 := Nat.mul_le_mul h (by omega)
  omega
/-- Of all ways those in which two are the same are no more than these. -/
theorem ff_bound (p : Nat) : ∀ n, p ^ n ≤ ff p n + tri n * p ^ (n - 1)
  | 0 => by simp [ff]
  | 1 => by simp [ff]
  | n + 2 => by
    have ih := ff_bound p (n + 1)
    rw [tri_succ]
    simp only [Nat.add_sub_cancel, show n + 2 - 1 = n + 1 from rfl] at *
    rw [ff]
    have h1 : p ^ (n + 1 + 1) = p ^ (n + 1) * p := rfl
    have h2 : p ^ (n + 1) = p ^ n * p := rfl
    have h3 : (ff p (n + 1) + tri (n + 1) * p ^ n) * p = ff p (n + 1) * p + tri (n + 1) * p ^ (n + 1) := by rw [Nat.add_mul, Nat.mul_assoc, ← h2]
    have h4 := Nat.mul_le_mul_right p ih
    rw [h3] at h4
    have h5 := ff_le p (n + 1)
    have h6 : ff p (n + 1) * p ≤ ff p (n + 1) * (p - (n + 1)) + (n + 1) * p ^ (n + 1) := by
      rcases Nat.lt_or_ge p (n + 1) with h | h
      · rw [ff_zero p (n + 1) h]; simp
      · have : p = (p - (n + 1)) + (n + 1) := by omega
        have e : ff p (n + 1) * p = ff p (n + 1) * (p - (n + 1)) + ff p (n + 1) * (n + 1) := by rw [← Nat.mul_add, ← this]
        rw [e, Nat.mul_comm (n + 1)]
        exact Nat.add_le_add_left (Nat.mul_le_mul_right _ h5) _
    rw [show n + 2 = n + 1 + 1 from rfl, h1, Nat.add_mul]
    omega

def TB (b n : Nat) : Int := if n = 0 then 0 else (tri n : Int) * P2 (b * (n - 1))
theorem bad_le {b n : Nat} : P2 (n * b) - FF b n ≤ TB b n := by
  unfold TB
  rcases n with _ | n
  · simp [FF, ff, P2]
  · rw [if_neg (by omega)]
    have := ff_bound (2 ^ b) (n + 1)
    simp only [Nat.add_sub_cancel] at *
    rw [← Nat.pow_mul, ← Nat.pow_mul, Nat.mul_comm b (n + 1)] at this
    unfold P2 FF
    rw [← Int.natCast_mul]
    omega

/-- The digits of x to the base p, the highest first, n of them, ahead of acc. -/
def digs (p : Nat) : Nat → Nat → List Nat → List Nat
  | 0, _, acc => acc
  | n + 1, x, acc => digs p n (x / p) (x % p :: acc)
def hasDup : List Int → Bool
  | [] => false
  | x :: l => l.contains x || hasDup l
theorem hasDup_iff : ∀ (l : List Int), hasDup l = true ↔ ∃ (k i : Nat) (x : Int), k < i ∧ l[k]? = some x ∧ l[i]? = some x
  | [] => by simp [hasDup]
  | y :: l => by
    simp only [hasDup, Bool.or_eq_true, hasDup_iff l]
    constructor
    · rintro (h | ⟨k, i, x, h1, h2, h3⟩)
      · have hm : y ∈ l := by simpa using h
        obtain ⟨i, hi, e⟩ := List.getElem_of_mem hm
        exact ⟨0, i + 1, y, by omega, by simp, by simp [List.getElem?_eq_getElem hi, e]⟩
      · exact ⟨k + 1, i + 1, x, by omega, by simpa using h2, by simpa using h3⟩
    · rintro ⟨k, i, x, h1, h2, h3⟩
      obtain ⟨i, rfl⟩ : ∃ i', i = i' + 1 := ⟨i - 1, by omega⟩
      rcases k with _ | k
      · left
        simp at h2 h3
        subst h2
        simpa using List.mem_of_getElem? h3
      · exact .inr ⟨k, i, x, by omega, by simpa using h2, by simpa using h3⟩
def cnt (p n : Nat) : Nat → Nat
  | 0 => 0
  | k + 1 => cnt p n k + if hasDup ((digs p n k []).map Int.ofNat) then 1 else 0
def cntOK (b n : Nat) : Bool := cnt (2 ^ b) n (2 ^ (n * b)) == 2 ^ (n * b) - ff (2 ^ b) n
theorem cnt_all : ((List.range 17).all fun b => (List.range 17).all fun n => b == 0 || 8 < n * b || cntOK b n) = true := by decide +kernel
theorem cnt_eq {b n : Nat} (h : Rt b n) (h8 : n * b ≤ 8) : cnt (2 ^ b) n (2 ^ (n * b)) = 2 ^ (n * b) - ff (2 ^ b) n := by
  have h0 := cnt_all
  rw [List.all_eq_true] at h0
  have h1 := h0 b (by have := h.b2; simp; omega)
  rw [List.all_eq_true] at h1
  have h2 := h1 n (by have := h.n2; simp; omega)
  have := h.b1
  simp only [Bool.or_eq_true, beq_iff_eq, decide_eq_true_eq, cntOK] at h2
  rcases h2 with (h2 | h2) | h2
  · omega
  · omega
  · exact h2
end Go.Proofs.Ytheopadakjojkaa
