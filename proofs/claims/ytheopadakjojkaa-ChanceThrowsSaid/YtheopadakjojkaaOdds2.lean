/- The walks of the layer odds and of its reference: bounds. -/
import Derived.Test.YtheopadakjojkaaOdds
namespace Go.Proofs.Ytheopadakjojkaa
open Go.RowKit

/-- What odds.Bad answers. -/
def BadZ (b n : Nat) : Int := P2 (n * b) - FF b n
theorem tri_mul (n : Nat) : ((n : Int) * ((n : Int) - 1)) / 2 = (tri n : Int) ∧ 0 ≤ (n : Int) * ((n : Int) - 1) := by
  rcases n with _ | n
  · simp [tri]
  · have e : ((n + 1 : Nat) : Int) * (((n + 1 : Nat) : Int) - 1) = ((n + 1) * n : Nat) := by
      rw [show (((n + 1 : Nat) : Int) - 1) = (n : Int) from by omega, ← Int.natCast_mul]
    rw [e]
    refine ⟨?_, by omega⟩
    unfold tri
    simp
theorem tri_bd {n : Nat} (h : n ≤ 16) : (n : Int) * ((n : Int) - 1) ≤ 240 := by
  rcases n with _ | n
  · simp
  · have : (n + 1) * n ≤ 16 * 15 := Nat.mul_le_mul h (by omega)
    rw [show (((n + 1 : Nat) : Int) - 1) = (n : Int) from by omega, ← Int.natCast_mul]
    omega
theorem TB_yes {b n : Nat} (hn : n ≠ 0) : TB b n = (tri n : Int) * P2 (b * (n - 1)) := by unfold TB; rw [if_neg hn]
theorem TB_bd {b n : Nat} (h : Rt b n) : 0 ≤ (tri n : Int) * P2 (b * (n - 1)) ∧ (tri n : Int) * P2 (b * (n - 1)) ≤ 120 * 281474976710656 := by
  have h1 := tri_le h.n2
  have h2 : b * (n - 1) ≤ 48 := Nat.le_trans (Nat.mul_le_mul_left b (Nat.sub_le n 1)) (by rw [Nat.mul_comm]; exact h.m)
  have h3 := P2_pos (b * (n - 1))
  have h4 := P2_bd h2
  exact ⟨Int.mul_nonneg (by omega) (by omega), Int.le_trans (Int.mul_le_mul_of_nonneg_left h4 (by omega)) (Int.mul_le_mul_of_nonneg_right (by omega) (by omega))⟩

set_option maxRecDepth 100000
section
theorem bad_yes (b n : Nat) (h : Rt b n) (w : World) :
    Calls Try.prog 15 #[.int .i64 b, .int .i64 n] w fun e w' => e = .returned (.tuple #[.int .u64 (BadZ b n), .int .i64 0]) ∧ w = w' := by
  have h1 := FF_le_P2 (b := b) (n := n)
  have h2 := P2_bd h.m
  have h3 := (FF_bd h (Nat.le_refl n)).1
  go_enter Try.func15, Try.ntmps15
  go_wp2_with (first | (go_at_call 14; refine (apart_yes b n h _).mono ?_; rintro e w' ⟨rfl, rfl⟩) | (go_at_call 78; refine (ways_any _ _ (n * b) (by simp) h.m _).mono ?_; rintro e w' ⟨rfl, rfl⟩))
  go_ret2
  exact ⟨rfl, rfl⟩
theorem bad_no (i j : Int) (h : rightB i j = false) (w : World) :
    Calls Try.prog 15 #[.int .i64 i, .int .i64 j] w fun e w' => e = .returned (.tuple #[.int .u64 0, .int .i64 1]) ∧ w = w' := by
  go_enter Try.func15, Try.ntmps15
  go_wp2_with (go_at_call 14; refine (apart_no _ _ h _).mono ?_; rintro e w' ⟨rfl, rfl⟩)
  go_ret2
  exact ⟨rfl, rfl⟩

theorem bound_no (i j : Int) (h : rightB i j = false) (w : World) :
    Calls Try.prog 16 #[.int .i64 i, .int .i64 j] w fun e w' => e = .returned (.tuple #[.int .u64 0, .int .i64 1]) ∧ w = w' := by
  go_enter Try.func16, Try.ntmps16
  go_wp2_with (go_at_call 77; refine (right_any _ _ _).mono ?_; rintro e w' ⟨rfl, rfl⟩)
  go_ret2
  exact ⟨rfl, rfl⟩
theorem boundR_no (i j : Int) (h : rightB i j = false) (w : World) :
    Calls Try.prog 18 #[.int .i64 i, .int .i64 j] w fun e w' => e = .returned (.tuple #[.int .u64 0, .int .i64 1]) ∧ w = w' := by
  go_enter Try.func18, Try.ntmps18
  go_wp2_with (go_at_call 79; refine (rightR_any _ _ _).mono ?_; rintro e w' ⟨rfl, rfl⟩)
  go_ret2
  exact ⟨rfl, rfl⟩
theorem mul_pred (b n : Nat) (hn : n ≠ 0) : ((n : Int) - 1) * (b : Int) = ((b * (n - 1) : Nat) : Int) ∧ (b : Int) * ((n : Int) - 1) = ((b * (n - 1) : Nat) : Int) := by
  have e : ((n : Int) - 1) = ((n - 1 : Nat) : Int) := by omega
  rw [e, Int.natCast_mul, Int.mul_comm]
  exact ⟨rfl, rfl⟩
theorem pred_le {b n : Nat} (h : Rt b n) : b * (n - 1) ≤ 48 := Nat.le_trans (Nat.mul_le_mul_left b (Nat.sub_le n 1)) (by rw [Nat.mul_comm]; exact h.m)

theorem bound_yes (b n : Nat) (h : Rt b n) (w : World) :
    Calls Try.prog 16 #[.int .i64 b, .int .i64 n] w fun e w' => e = .returned (.tuple #[.int .u64 (TB b n), .int .i64 0]) ∧ w = w' := by
  have hr := rightB_of h
  by_cases hn : n = 0
  · subst hn
    have hr : rightB b 0 = true := hr
    go_enter Try.func16, Try.ntmps16
    go_wp2_with (go_at_call 77; refine (right_any _ _ _).mono ?_; rintro e w' ⟨rfl, rfl⟩)
    go_ret2
    exact ⟨rfl, rfl⟩
  · have HT := hid (TB_yes (b := b) hn)
    obtain ⟨t1, t2⟩ := TB_bd h
    obtain ⟨q1, q2⟩ := tri_mul n
    have q3 := tri_bd h.n2
    have q4 := tri_le h.n2
    have h16 := h.n2
    have hn0 : ((n : Int) == 0) = false := by simp [hn]
    have p1 := (mul_pred b n hn).1
    go_enter Try.func16, Try.ntmps16
    go_wp2_with (first | (go_at_call 77; refine (right_any _ _ _).mono ?_; rintro e w' ⟨rfl, rfl⟩) | (go_at_call 78; refine (ways_any _ _ (b * (n - 1)) (by simpa using p1) (pred_le h) _).mono ?_; rintro e w' ⟨rfl, rfl⟩))
    go_ret2
    exact ⟨by rw [HT.out]; rfl, rfl⟩
theorem boundR_yes (b n : Nat) (h : Rt b n) (w : World) :
    Calls Try.prog 18 #[.int .i64 b, .int .i64 n] w fun e w' => e = .returned (.tuple #[.int .u64 (TB b n), .int .i64 0]) ∧ w = w' := by
  have hr := rightB_of h
  by_cases hn : n = 0
  · subst hn
    have hr : rightB b 0 = true := hr
    go_enter Try.func18, Try.ntmps18
    go_wp2_with (go_at_call 79; refine (rightR_any _ _ _).mono ?_; rintro e w' ⟨rfl, rfl⟩)
    go_ret2
    exact ⟨rfl, rfl⟩
  · have HT := hid (TB_yes (b := b) hn)
    obtain ⟨t1, t2⟩ := TB_bd h
    obtain ⟨q1, q2⟩ := tri_mul n
    have q3 := tri_bd h.n2
    have q4 := tri_le h.n2
    have h16 := h.n2
    have hn0 : ((n : Int) == 0) = false := by simp [hn]
    have p2 := (mul_pred b n hn).2
    have p3 := pred_le h
    go_enter Try.func18, Try.ntmps18
    go_wp2_with (first | (go_at_call 79; refine (rightR_any _ _ _).mono ?_; rintro e w' ⟨rfl, rfl⟩) | (go_at_call 21; refine (power_any (b * (n - 1)) (pred_le h) _ (by first | rfl | (simp; done) | (simp [Int.natCast_mul]; omega)) _).mono ?_; rintro e w' ⟨rfl, rfl⟩))
    go_ret2
    exact ⟨by rw [HT.out]; rfl, rfl⟩
end
end Go.Proofs.Ytheopadakjojkaa
