/- The walk of the reference's Alone. -/
import Derived.Test.YtjchobncmogcpaaMap
import Derived.Test.YtjchobncmogcpaaOfR3
namespace Go.Proofs.Ytjchobncmogcpaa
open Go.RowKit

/-- No two of the first i are the same. -/
def ApartL {α : Type} (l : List α) (i : Nat) : Prop := ∀ (k j : Nat) (x : α), k < j → j < i → l[k]? = some x → l[j]? = some x → False
/-- Are no two the same? -/
def aloneB {α : Type} [DecidableEq α] : List α → Bool
  | [] => true
  | x :: l => !(l.contains x) && aloneB l
theorem aloneB_iff {α : Type} [DecidableEq α] : ∀ (l : List α), aloneB l = true ↔ ApartL l l.length
  | [] => by simp [aloneB, ApartL]
  | y :: l => by
    simp only [aloneB, Bool.and_eq_true, aloneB_iff l, ApartL]
    constructor
    · rintro ⟨h1, h2⟩ k j x h3 h4 h5 h6
      obtain ⟨j, rfl⟩ : ∃ j', j = j' + 1 := ⟨j - 1, by omega⟩
      rcases k with _ | k
      · simp at h5 h6
        subst h5
        have := List.mem_of_getElem? h6
        simp [this] at h1
      · exact h2 k j x (by omega) (by simpa using h4) (by simpa using h5) (by simpa using h6)
    · intro h
      refine ⟨?_, fun k j x h3 h4 h5 h6 => h (k + 1) (j + 1) x (by omega) (by simp; omega) (by simpa using h5) (by simpa using h6)⟩
      rw [Bool.not_eq_true', ← Bool.not_eq_true]
      intro hc
      have hm : y ∈ l := by simpa using hc
      obtain ⟨i, hi, e⟩ := List.getElem_of_mem hm
      exact h 0 (i + 1) y (by omega) (by simp; omega) (by simp) (by simp [List.getElem?_eq_getElem hi, e])
theorem aloneB_no {α : Type} [DecidableEq α] {l : List α} {k j : Nat} {x : α} (h1 : k < j) (h2 : l[k]? = some x) (h3 : l[j]? = some x) : aloneB l = false := by
  rw [Bool.eq_false_iff]
  intro h
  exact (aloneB_iff l).1 h k j x h1 (lt_of_get h3) h2 h3

set_option maxRecDepth 100000
section
set_option maxHeartbeats 400000 in
theorem aloneR_any (v : Value) (xs : List (List UInt8)) (w : World) (h : IsSlice (repSlice repByte) w (all w) v xs) :
    Calls Try.prog 65 #[v] w fun e w' => e = .returned (.bool (aloneB xs)) ∧ Ext w w' := by
  obtain ⟨A, n, c, rfl, hnc, hcm, hrow⟩ := h
  have hn := hrow.1
  have hmax : n ≤ 9223372036854775807 := by unfold maxLen at hcm; omega
  have HN := hid hn
  clear hn
  go_enter Try.func65, Try.ntmps65
  go_wp2
  go_loopw [3, 4] (fun i _ wr => ∃ j : Nat, j ≤ n ∧ i = .int .i64 j ∧ ApartL xs j ∧ Ext w wr) (fun i _ _ => n - (intOf i).toNat)
  case atStart => exact ⟨0, Nat.zero_le _, rfl, fun _ _ _ _ h => absurd h (by omega), Below.refl _ _⟩
  case round =>
    obtain ⟨i, hi, rfl, hap, hext⟩ := hrel
    have HAP := hid hap
    clear hap
    by_cases hlt : i < n
    · go_wp2
      obtain ⟨wo, rfl⟩ : ∃ wo : World, wo = wr := ⟨_, rfl⟩
      go_loopw [4] (fun k wr => ∃ j : Nat, j ≤ i ∧ k = .int .i64 j ∧ (∀ k' x, k' < j → xs[k']? = some x → xs[i]? = some x → False) ∧ Ext w wr) (fun k _ => i - (intOf k).toNat)
      case atStart => exact ⟨0, Nat.zero_le _, rfl, fun _ _ h => absurd h (by omega), hext⟩
      case round =>
        obtain ⟨k, hk, rfl, hne, hext2⟩ := hrel
        have HNE := hid hne
        clear hne
        by_cases hkt : k < i
        · obtain ⟨b, off, A1, m1, c1, x, rfl, hx, hs1, hm1, hcx⟩ := hrow.sliceE hext2 (show k < n by omega)
          obtain ⟨b', off', A2, m2, c2, y, hA, hy, hs2, hm2, hcy⟩ := hrow.sliceE hext2 hlt
          simp only [Option.some.injEq, Addr.mk.injEq, and_true] at hA
          obtain ⟨rfl, rfl⟩ := hA
          have HX := hid hx
          have HY := hid hy
          clear hx hy hm1 hm2
          have sq : ∀ k, Calls Try.prog 27 #[.slice A2 m2 c2, .slice A1 m1 c1] (wr.drewN k) fun e w' => e = .returned (.bool (decide (y = x))) ∧ ∃ m, w' = (wr.drewN k).drewN m := fun k =>
            sameB_any _ _ _ _ (wr.drewN k) (hs2.ext (Ext.trans hext2 (ext_drewN _ k))) (hs1.ext (Ext.trans hext2 (ext_drewN _ k)))
          by_cases hxy : y = x
          · rw [decide_eq_true hxy] at sq
            have SQ := hid sq
            clear sq
            go_wp2
            go_quiet ((go_at_call 27; exact Calls.quiet_of (SQ.out _)))
            go_wp2
            go_ret
            exact ⟨ret_bool (aloneB_no hkt HX.out (by rw [HY.out, hxy])).symm, below_drewN hext2 _⟩
          · rw [decide_eq_false hxy] at sq
            have SQ := hid sq
            clear sq
            go_wp2
            go_quiet ((go_at_call 27; exact Calls.quiet_of (SQ.out _)))
            go_wp2
            go_roundw
            case rel =>
              refine ⟨k + 1, by omega, by go_num, fun k' z hk' h1 h2 => ?_, below_drewN hext2 _⟩
              rcases Nat.lt_or_ge k' k with h3 | h3
              · exact HNE.out k' z h3 h1 h2
              · obtain rfl : k' = k := by omega
                rw [HX.out] at h1
                rw [HY.out] at h2
                injection h1 with h1
                injection h2 with h2
                exact hxy (h2.trans h1.symm)
            case measure => simp [intOf]; omega
        · obtain rfl : k = i := by omega
          go_wp2
          go_roundw
          case rel =>
            refine ⟨k + 1, by omega, by go_num, fun k' j z h0 h1 h2 h3 => ?_, hext2⟩
            rcases Nat.lt_or_ge j k with h4 | h4
            · exact HAP.out k' j z h0 h4 h2 h3
            · obtain rfl : j = k := by omega
              exact HNE.out k' z h0 h2 h3
          case measure => simp [intOf]; omega
    · obtain rfl : i = n := by omega
      go_wp2
      go_ret
      exact ⟨ret_bool ((aloneB_iff xs).2 (by rw [HN.out]; exact HAP.out)).symm, hext⟩
end
end Go.Proofs.Ytjchobncmogcpaa
