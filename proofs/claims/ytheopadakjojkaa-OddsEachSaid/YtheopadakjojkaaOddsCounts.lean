/- The statement OddsCounts: the walk of the law. -/
import Derived.Test.YtheopadakjojkaaCount
namespace Go.Proofs.Ytheopadakjojkaa
open Go.RowKit

set_option maxRecDepth 100000
section
theorem oddsLive_any (w : World) : Calls Try.prog 20 #[] w fun e w' => e = .returned (.bool true) ∧ w = w' := by
  have h : Rt 1 2 := ⟨by omega, by omega, by omega, by omega⟩
  have e1 : FF 1 2 = 2 := by decide +kernel
  have e2 : BadZ 1 2 = 2 := by decide +kernel
  have e3 : TB 1 2 = 2 := by decide +kernel
  go_enter Try.func20, Try.ntmps20
  go_wp2_with (first | (go_at_call 14; refine (apart_yes 1 2 h _).mono ?_; rintro e w' ⟨rfl, rfl⟩) | (go_at_call 15; refine (bad_yes 1 2 h _).mono ?_; rintro e w' ⟨rfl, rfl⟩) | (go_at_call 16; refine (bound_yes 1 2 h _).mono ?_; rintro e w' ⟨rfl, rfl⟩) | (go_at_call 19; refine (num_any _ _).mono ?_; rintro e w' ⟨rfl, rfl⟩))
  go_ret
  exact ⟨rfl, rfl⟩

theorem counts_no (i j : Int) (h : rightB i j = false) (w : World) : Calls Try.prog 3 #[.int .i64 i, .int .i64 j] w fun e w' => e = .returned (.bool true) ∧ Ext w w' := by
  go_enter Try.func3, Try.ntmps3
  go_wp2_with (first | (go_at_call 14; refine (apart_no _ _ h _).mono ?_; rintro e w' ⟨rfl, rfl⟩) | (go_at_call 15; refine (bad_no _ _ h _).mono ?_; rintro e w' ⟨rfl, rfl⟩) | (go_at_call 16; refine (bound_no _ _ h _).mono ?_; rintro e w' ⟨rfl, rfl⟩) | (go_at_call 17; refine (apartR_no _ _ h _).mono ?_; rintro e w' ⟨rfl, rfl⟩) | (go_at_call 18; refine (boundR_no _ _ h _).mono ?_; rintro e w' ⟨rfl, rfl⟩) | (go_at_call 19; refine (num_any _ _).mono ?_; rintro e w' ⟨rfl, rfl⟩) | (go_at_call 20; refine (oddsLive_any _).mono ?_; rintro e w' ⟨rfl, rfl⟩))
  go_ret
  exact ⟨rfl, Below.refl _ _⟩

theorem counts_yes (b n : Nat) (h : Rt b n) (w : World) : Calls Try.prog 3 #[.int .i64 b, .int .i64 n] w fun e w' => e = .returned (.bool true) ∧ Ext w w' := by
  obtain ⟨q1, q2⟩ := nb_bd h
  have f1 : ¬ BadZ b n > TB b n := by have := bad_le (b := b) (n := n); unfold BadZ; omega
  have f2 : ¬ TB b n < BadZ b n := f1
  have f3 := FF_bd h (Nat.le_refl n)
  have f4 := P2_bd h.m
  have f5 := P2_pos (n * b)
  have f6 := FF_le_P2 (b := b) (n := n)
  have HB : Hid (FF b n + BadZ b n = P2 (n * b)) := by unfold BadZ; show _ = _; omega
  have f7 : 0 ≤ FF b n + BadZ b n := by rw [HB.out]; omega
  have f8 : FF b n + BadZ b n ≤ 281474976710656 := by rw [HB.out]; omega
  have f9 : (FF b n + BadZ b n != P2 (n * b)) = false := by rw [HB.out]; simp
  by_cases h8 : n * b ≤ 8
  · have g : ¬ ((8 : Int) < (n : Int) * (b : Int)) := by rw [← Int.natCast_mul]; omega
    go_enter Try.func3, Try.ntmps3
    go_wp2_with (first | (go_at_call 14; refine (apart_yes b n h _).mono ?_; rintro e w' ⟨rfl, rfl⟩) | (go_at_call 15; refine (bad_yes b n h _).mono ?_; rintro e w' ⟨rfl, rfl⟩) | (go_at_call 16; refine (bound_yes b n h _).mono ?_; rintro e w' ⟨rfl, rfl⟩) | (go_at_call 17; refine (apartR_yes b n h _).mono ?_; rintro e w' ⟨rfl, rfl⟩) | (go_at_call 18; refine (boundR_yes b n h _).mono ?_; rintro e w' ⟨rfl, rfl⟩) | (go_at_call 19; refine (num_any _ _).mono ?_; rintro e w' ⟨rfl, rfl⟩) | (go_at_call 21; refine (power_any (n * b) h.m _ (by simp) _).mono ?_; rintro e w' ⟨rfl, rfl⟩) | (go_at_call 22; refine (countR_yes b n h h8 _).mono ?_; rintro e w1 ⟨rfl, hext⟩) | (go_at_call 20; refine (oddsLive_any _).mono ?_; rintro e w' ⟨rfl, rfl⟩))
    go_ret
    exact ⟨rfl, hext⟩
  · have g : (8 : Int) < (n : Int) * (b : Int) := by rw [← Int.natCast_mul]; omega
    go_enter Try.func3, Try.ntmps3
    go_wp2_with (first | (go_at_call 14; refine (apart_yes b n h _).mono ?_; rintro e w' ⟨rfl, rfl⟩) | (go_at_call 15; refine (bad_yes b n h _).mono ?_; rintro e w' ⟨rfl, rfl⟩) | (go_at_call 16; refine (bound_yes b n h _).mono ?_; rintro e w' ⟨rfl, rfl⟩) | (go_at_call 17; refine (apartR_yes b n h _).mono ?_; rintro e w' ⟨rfl, rfl⟩) | (go_at_call 18; refine (boundR_yes b n h _).mono ?_; rintro e w' ⟨rfl, rfl⟩) | (go_at_call 19; refine (num_any _ _).mono ?_; rintro e w' ⟨rfl, rfl⟩) | (go_at_call 21; refine (power_any (n * b) h.m _ (by simp) _).mono ?_; rintro e w' ⟨rfl, rfl⟩) | (go_at_call 20; refine (oddsLive_any _).mono ?_; rintro e w' ⟨rfl, rfl⟩))
    go_ret
    exact ⟨rfl, Below.refl _ _⟩

theorem counts_any (i j : Int) (w : World) : Calls Try.prog 3 #[.int .i64 i, .int .i64 j] w fun e w' => e = .returned (.bool true) ∧ Ext w w' := by
  cases h : rightB i j
  · exact counts_no i j h w
  · obtain ⟨b, n, rfl, rfl, hr⟩ := rightB_nat h
    exact counts_yes b n hr w
end
end Go.Proofs.Ytheopadakjojkaa
