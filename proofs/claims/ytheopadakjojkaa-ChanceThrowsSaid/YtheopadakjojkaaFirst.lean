/- The walk of the reference's First: are two numbers of a list the same? -/
import Derived.Test.YtheopadakjojkaaOdds
namespace Go.Proofs.Ytheopadakjojkaa
open Go.RowKit

def SomeFirst (w : World) (xs : List Int) (e : Ending) (w' : World) : Prop := ∃ a b : Int, e = .returned (.tuple #[.int .i64 a, .int .i64 b, .bool (hasDup xs)]) ∧ Ext w w'
theorem dup_of {l : List Int} {k i : Nat} {x : Int} (h : k < i) (h1 : l[k]? = some x) (h2 : l[i]? = some x) : hasDup l = true := (hasDup_iff l).2 ⟨k, i, x, h, h1, h2⟩
/-- No two of the first i are the same. -/
def Apart (l : List Int) (i : Nat) : Prop := ∀ k j x, k < j → j < i → l[k]? = some x → l[j]? = some x → False
theorem apart_end {l : List Int} (h : Apart l l.length) : hasDup l = false := by
  rw [Bool.eq_false_iff]
  intro hd
  obtain ⟨k, i, x, h1, h2, h3⟩ := (hasDup_iff l).1 hd
  exact h k i x h1 (List.getElem?_eq_some_iff.1 h3).1 h2 h3
theorem ret_3 {a b : Value} {x y : Bool} (h : x = y) : Ending.returned (.tuple #[a, b, .bool x]) = .returned (.tuple #[a, b, .bool y]) := by rw [h]

set_option maxRecDepth 100000
section
set_option maxHeartbeats 400000 in
theorem first_any (v : Value) (xs : List Int) (w : World) (h : IsSlice (repInt .u64) w (all w) v xs) :
    Calls Try.prog 80 #[v] w (SomeFirst w xs) := by
  obtain ⟨A, n, c, rfl, hnc, hcm, hrow⟩ := h
  have hn := hrow.1
  have hmax : n ≤ 9223372036854775807 := by unfold maxLen at hcm; omega
  have HN := hid hn
  clear hn
  go_enter Try.func80, Try.ntmps80
  go_wp2
  go_loopw [5, 6] (fun i _ wr => ∃ j : Nat, j ≤ n ∧ i = .int .i64 j ∧ Apart xs j ∧ Ext w wr) (fun i _ _ => n - (intOf i).toNat)
  case atStart => exact ⟨0, Nat.zero_le _, rfl, fun _ _ _ _ h => absurd h (by omega), Below.refl _ _⟩
  case round =>
    obtain ⟨i, hi, rfl, hap, hext⟩ := hrel
    by_cases hlt : i < n
    · go_wp2
      obtain ⟨wo, rfl⟩ : ∃ wo : World, wo = wr := ⟨_, rfl⟩
      go_loopw [6] (fun k wr => ∃ j : Nat, j ≤ i ∧ k = .int .i64 j ∧ (∀ k' x, k' < j → xs[k']? = some x → xs[i]? = some x → False) ∧ Ext w wr) (fun k _ => i - (intOf k).toNat)
      case atStart => exact ⟨0, Nat.zero_le _, rfl, fun _ _ h => absurd h (by omega), hext⟩
      case round =>
        obtain ⟨k, hk, rfl, hne, hext2⟩ := hrel
        by_cases hkt : k < i
        · obtain ⟨b, off, x, rfl, hb, hx, hcx, _⟩ := (hrow.ext hext2).int (show k < n by omega)
          obtain ⟨b', off', y, hA, _, hy, hcy, _⟩ := (hrow.ext hext2).int hlt
          simp only [Option.some.injEq, Addr.mk.injEq, and_true] at hA
          obtain ⟨rfl, rfl⟩ := hA
          have HNE := hid hne
          have HAP := hid hap
          have HX := hid hx
          have HY := hid hy
          clear hne hap hx hy
          by_cases hxy : (x == y) = true
          · go_wp2
            go_quiet (fail)
            go_wp2
            go_ret3
            exact ⟨_, _, ret_3 (dup_of hkt HX.out (by rw [HY.out, eq_of_beq hxy])).symm, below_drewN hext2 _⟩
          · have hxy : (x == y) = false := by simpa using hxy
            go_wp2
            go_quiet (fail)
            go_wp2
            go_roundw
            case rel =>
              refine ⟨k + 1, by omega, by go_num, fun k' z hk' h1 h2 => ?_, below_drewN hext2 _⟩
              rcases Nat.lt_or_ge k' k with h3 | h3
              · exact HNE.out k' z h3 h1 h2
              · obtain rfl : k' = k := by omega
                rw [HX.out] at h1
                rw [HY.out] at h2
                have e1 : x = z := by injection h1
                have e2 : y = z := by injection h2
                rw [e1, e2, beq_self_eq_true] at hxy
                cases hxy
            case measure => simp [intOf]; omega
        · obtain rfl : k = i := by omega
          have HNE := hid hne
          have HAP := hid hap
          clear hne hap
          go_wp2
          go_roundw
          case rel =>
            refine ⟨k + 1, by omega, by go_num, fun k' j z h0 h1 h2 h3 => ?_, hext2⟩
            rcases Nat.lt_or_ge j k with h4 | h4
            · exact HAP.out k' j z h0 h4 h2 h3
            · obtain rfl : j = k := by omega
              exact HNE.out k' z h0 h2 h3
          case measure => simp [intOf]; omega
    · obtain rfl : i = n := by omega
      have HAP := hid hap
      clear hap
      go_wp2
      go_ret3
      exact ⟨_, _, ret_3 (apart_end (by rw [HN.out]; exact HAP.out)).symm, hext⟩
end
end Go.Proofs.Ytheopadakjojkaa
