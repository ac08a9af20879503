/- The walks of the layer odds and of its reference: counts. -/
import Derived.Test.YtheopadakjojkaaRows
import Derived.Test.YtheopadakjojkaaOddsPlain
namespace Go.Proofs.Ytheopadakjojkaa
open Go.RowKit

def rightB (bits n : Int) : Bool := decide (1 ≤ bits ∧ bits ≤ 16 ∧ 0 ≤ n ∧ n ≤ 16 ∧ n * bits ≤ 48)
theorem mul_bd {a b : Int} (h1 : 0 ≤ a) (h2 : a ≤ 16) (h3 : 0 ≤ b) (h4 : b ≤ 16) : 0 ≤ a * b ∧ a * b ≤ 256 :=
  ⟨Int.mul_nonneg h1 h3, Int.le_trans (Int.mul_le_mul_of_nonneg_left h4 h1) (by omega)⟩
theorem rightB_nat {bits n : Int} (h : rightB bits n = true) : ∃ b m : Nat, bits = b ∧ n = m ∧ Rt b m := by
  simp only [rightB, decide_eq_true_eq] at h
  obtain ⟨h1, h2, h3, h4, h5⟩ := h
  refine ⟨bits.toNat, n.toNat, by omega, by omega, by omega, by omega, by omega, ?_⟩
  have e1 : ((n.toNat : Nat) : Int) = n := by omega
  have e2 : ((bits.toNat : Nat) : Int) = bits := by omega
  have : ((n.toNat * bits.toNat : Nat) : Int) = n * bits := by rw [Int.natCast_mul, e1, e2]
  omega
theorem rightB_of {b n : Nat} (h : Rt b n) : rightB b n = true := by
  simp only [rightB, decide_eq_true_eq]
  have := h.m
  refine ⟨by have := h.b1; omega, by have := h.b2; omega, by omega, by have := h.n2; omega, ?_⟩
  rw [← Int.natCast_mul]; omega

theorem rightB_no {bits n : Int} (h : ¬(1 ≤ bits ∧ bits ≤ 16 ∧ 0 ≤ n ∧ n ≤ 16)) : rightB bits n = false := by
  simp only [rightB, decide_eq_false_iff_not]
  omega

theorem shl_P2 {k : Nat} (h : k ≤ 48) : IntKind.u64.wrap ((2 : Int) ^ k) = P2 k := by
  have h1 := P2_pos k
  have h2 := P2_bd h
  have e : (2 : Int) ^ k = P2 k := by unfold P2; simp
  rw [e, IntWalk.u64_in _ (by omega)]

set_option maxRecDepth 100000
section
theorem right_any (bits n : Int) (w : World) :
    Calls Try.prog 77 #[.int .i64 bits, .int .i64 n] w fun e w' => e = .returned (.bool (rightB bits n)) ∧ w = w' := by
  by_cases h1 : 1 ≤ bits ∧ bits ≤ 16 ∧ 0 ≤ n ∧ n ≤ 16
  · obtain ⟨h1, h2, h3, h4⟩ := h1
    obtain ⟨m1, m2⟩ := mul_bd h3 h4 (show 0 ≤ bits by omega) h2
    go_enter Try.func77, Try.ntmps77
    go_wp2
    go_ret
    refine ⟨?_, rfl⟩
    simp [rightB, *]
  · go_enter Try.func77, Try.ntmps77
    go_wp2
    all_goals
      go_ret
      exact ⟨ret_bool (rightB_no h1).symm, rfl⟩

theorem rightR_any (bits n : Int) (w : World) :
    Calls Try.prog 79 #[.int .i64 bits, .int .i64 n] w fun e w' => e = .returned (.bool (rightB bits n)) ∧ w = w' := by
  by_cases h1 : 1 ≤ bits ∧ bits ≤ 16 ∧ 0 ≤ n ∧ n ≤ 16
  · obtain ⟨h1, h2, h3, h4⟩ := h1
    obtain ⟨m1, m2⟩ := mul_bd h3 h4 (show 0 ≤ bits by omega) h2
    go_enter Try.func79, Try.ntmps79
    go_wp2
    go_ret
    refine ⟨?_, rfl⟩
    simp [rightB, *]
  · go_enter Try.func79, Try.ntmps79
    go_wp2
    all_goals
      go_ret
      exact ⟨ret_bool (rightB_no h1).symm, rfl⟩

theorem num_any (x : Int) (w : World) :
    Calls Try.prog 19 #[.int .i64 x] w fun e w' => e = .returned (.int .i64 x) ∧ w = w' := by
  go_enter Try.func19, Try.ntmps19
  go_wp2
  go_ret
  exact ⟨rfl, rfl⟩

theorem ways_any (i j : Int) (k : Nat) (hk : j * i = k) (h : k ≤ 48) (w : World) :
    Calls Try.prog 78 #[.int .i64 i, .int .i64 j] w fun e w' => e = .returned (.int .u64 (P2 k)) ∧ w = w' := by
  have h0 : 0 ≤ (k : Int) := by omega
  go_enter Try.func78, Try.ntmps78
  go_wp2
  go_ret
  exact ⟨ret_int (shl_P2 h), rfl⟩

theorem power_any (k : Nat) (h : k ≤ 48) (i : Int) (hi : i = k) (w : World) :
    Calls Try.prog 21 #[.int .i64 i] w fun e w' => e = .returned (.int .u64 (P2 k)) ∧ w = w' := by
  subst hi
  go_enter Try.func21, Try.ntmps21
  go_wp2
  go_loop [3, 4] (fun p i => ∃ j : Nat, j ≤ k ∧ i = .int .i64 j ∧ p = .int .u64 (P2 j)) (fun _ i => k - (intOf i).toNat)
  case atStart => exact ⟨0, Nat.zero_le _, rfl, rfl⟩
  case round =>
    obtain ⟨j, hj, rfl, rfl⟩ := hrel
    have b1 := P2_pos j
    by_cases hlt : j < k
    · have b2 := P2_bd (show j ≤ 47 + 1 by omega)
      have HS := hid (P2_succ j)
      go_wp2
      go_round
      case rel => exact ⟨j + 1, by omega, by go_num, by rw [HS.out]⟩
      case measure => simp [intOf]; omega
    · obtain rfl : j = k := by omega
      go_wp2
      go_ret
      exact ⟨rfl, rfl⟩

set_option maxHeartbeats 400000 in
theorem apart_yes (b n : Nat) (h : Rt b n) (w : World) :
    Calls Try.prog 14 #[.int .i64 b, .int .i64 n] w fun e w' => e = .returned (.tuple #[.int .u64 (FF b n), .int .i64 0]) ∧ w = w' := by
  have hr := rightB_of h
  have h16 := h.n2
  go_enter Try.func14, Try.ntmps14
  go_wp2_with (first | (go_at_call 77; refine (right_any _ _ _).mono ?_; rintro e w' ⟨rfl, rfl⟩) | (go_at_call 78; refine (ways_any _ _ b (by simp) (Nat.le_trans h.b2 (by omega)) _).mono ?_; rintro e w' ⟨rfl, rfl⟩))
  go_loop [6, 7, 15] (fun p l i => ∃ j : Nat, j ≤ n ∧ i = .int .i64 j ∧ p = .int .u64 (FF b j) ∧ l = .int .u64 (LL b j)) (fun _ _ i => n - (intOf i).toNat)
  case atStart => exact ⟨0, Nat.zero_le _, rfl, rfl, by rw [LL_zero]⟩
  case round =>
    obtain ⟨j, hj, rfl, rfl, rfl⟩ := hrel
    by_cases hlt : j < n
    · obtain ⟨m1, m2⟩ := FL_bd h hlt
      obtain ⟨l1, l2⟩ := LL_bd h j
      have HF := hid (FF_step b j)
      by_cases hp : 0 < LL b j
      · have HS := hid (LL_step hp)
        go_wp2
        go_round
        case rel => exact ⟨j + 1, by omega, by go_num, by rw [HF.out], by rw [HS.out]⟩
        case measure => simp [intOf]; omega
      · have HS := hid (LL_stop hp)
        go_wp2
        go_round
        case rel => exact ⟨j + 1, by omega, by go_num, by rw [HF.out], by rw [HS.out]⟩
        case measure => simp [intOf]; omega
    · obtain rfl : j = n := by omega
      go_wp2
      go_ret2
      exact ⟨rfl, rfl⟩

theorem apart_no (i j : Int) (h : rightB i j = false) (w : World) :
    Calls Try.prog 14 #[.int .i64 i, .int .i64 j] w fun e w' => e = .returned (.tuple #[.int .u64 0, .int .i64 1]) ∧ w = w' := by
  go_enter Try.func14, Try.ntmps14
  go_wp2_with (go_at_call 77; refine (right_any _ _ _).mono ?_; rintro e w' ⟨rfl, rfl⟩)
  go_ret2
  exact ⟨rfl, rfl⟩

set_option maxHeartbeats 400000 in
theorem apartR_yes (b n : Nat) (h : Rt b n) (w : World) :
    Calls Try.prog 17 #[.int .i64 b, .int .i64 n] w fun e w' => e = .returned (.tuple #[.int .u64 (FF b n), .int .i64 0]) ∧ w = w' := by
  have hr := rightB_of h
  have h16 := h.n2
  have hb := P2_bd (Nat.le_trans h.b2 (show 16 ≤ 48 by omega))
  have hb0 := P2_pos b
  go_enter Try.func17, Try.ntmps17
  go_wp2_with (first | (go_at_call 79; refine (rightR_any _ _ _).mono ?_; rintro e w' ⟨rfl, rfl⟩) | (go_at_call 21; refine (power_any b (Nat.le_trans h.b2 (by omega)) _ rfl _).mono ?_; rintro e w' ⟨rfl, rfl⟩))
  go_loop [6, 8] (fun p i => ∃ j : Nat, j ≤ n ∧ i = .int .i64 j ∧ p = .int .u64 (FF b j)) (fun _ i => n - (intOf i).toNat)
  case atStart => exact ⟨0, Nat.zero_le _, rfl, rfl⟩
  case round =>
    obtain ⟨j, hj, rfl, rfl⟩ := hrel
    by_cases hlt : j < n
    · by_cases hp : (j : Int) < P2 b
      · have HF := hid (FF_step b j)
        have HL := hid (LL_at hp)
        obtain ⟨m1, m2⟩ := FL_bd h hlt
        rw [HL.out] at m1 m2
        go_wp2
        go_round
        case rel => exact ⟨j + 1, by omega, by go_num, by rw [HF.out, HL.out]⟩
        case measure => simp [intOf]; omega
      · have HZ := hid (FF_zero (Int.not_lt.1 hp) hlt)
        go_wp2
        go_ret2
        exact ⟨by rw [HZ.out]; rfl, rfl⟩
    · obtain rfl : j = n := by omega
      go_wp2
      go_ret2
      exact ⟨rfl, rfl⟩

theorem apartR_no (i j : Int) (h : rightB i j = false) (w : World) :
    Calls Try.prog 17 #[.int .i64 i, .int .i64 j] w fun e w' => e = .returned (.tuple #[.int .u64 0, .int .i64 1]) ∧ w = w' := by
  go_enter Try.func17, Try.ntmps17
  go_wp2_with (go_at_call 79; refine (rightR_any _ _ _).mono ?_; rintro e w' ⟨rfl, rfl⟩)
  go_ret2
  exact ⟨rfl, rfl⟩
end
end Go.Proofs.Ytheopadakjojkaa
