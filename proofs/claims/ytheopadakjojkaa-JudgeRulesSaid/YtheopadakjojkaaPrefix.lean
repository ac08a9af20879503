/- The walks of judge.Prefix and of its reference; of the law's sameInts, few, live. -/
import Derived.Test.YtheopadakjojkaaAlone
namespace Go.Proofs.Ytheopadakjojkaa
open Go.RowKit

/-- Are texts the first ones of others? -/
def preB {α : Type} [DecidableEq α] (xs ys : List α) : Bool := decide (xs.length ≤ ys.length) && decide (xs = ys.take xs.length)
theorem preB_short {α : Type} [DecidableEq α] {xs ys : List α} (h : ys.length < xs.length) : preB xs ys = false := by
  unfold preB; rw [decide_eq_false (by omega)]; rfl
theorem preB_long {α : Type} [DecidableEq α] {xs ys : List α} (h : xs.length ≤ ys.length) : preB xs ys = decide (xs = ys.take xs.length) := by
  unfold preB; rw [decide_eq_true h]; rfl

set_option maxRecDepth 100000
section
set_option maxHeartbeats 400000 in
theorem sameInts_any (v u : Value) (xs ys : List Int) (w : World) (h : IsSlice (repInt .i64) w (all w) v xs) (h' : IsSlice (repInt .i64) w (all w) u ys) :
    Calls Try.prog 30 #[v, u] w fun e w' => e = .returned (.bool (decide (xs = ys))) ∧ ∃ k, w' = w.drewN k := by
  obtain ⟨A, n, c, rfl, hnc, hcm, hrow⟩ := h
  obtain ⟨A', n', c', rfl, hnc', hcm', hrow'⟩ := h'
  have hn := hrow.1
  have hn' := hrow'.1
  have hmax : n ≤ 9223372036854775807 := by unfold maxLen at hcm; omega
  have hmax' : n' ≤ 9223372036854775807 := by unfold maxLen at hcm'; omega
  by_cases hne : n = n'
  · subst hne
    have HN := hid hn
    have HN' := hid hn'
    clear hn hn'
    go_enter Try.func30, Try.ntmps30
    go_wp2
    go_loopw [5] (fun i wr => ∃ j : Nat, j ≤ n ∧ i = .int .i64 j ∧ xs.take j = ys.take j ∧ ∃ k, wr = w.drewN k) (fun i _ => n - (intOf i).toNat)
    case atStart => exact ⟨0, Nat.zero_le _, rfl, by simp, 0, rfl⟩
    case round =>
      obtain ⟨j, hj, rfl, heq, nd, rfl⟩ := hrel
      have HEQ := hid heq
      clear heq
      by_cases hlt : j < n
      · obtain ⟨b, off, x, rfl, hb, hx, hcx, _⟩ := hrow.int hlt
        obtain ⟨b', off', y, rfl, hb', hy, hcy, _⟩ := hrow'.int hlt
        have HX := hid hx
        have HY := hid hy
        clear hx hy
        by_cases hxy : (x != y) = true
        · go_wp2
          go_quiet (fail)
          go_wp2
          go_ret
          refine ⟨ret_bool ?_, _, World.drewN_drewN _ _ _⟩
          symm
          rw [decide_eq_false_iff_not]
          intro he
          subst he
          have h1 := HX.out
          rw [HY.out] at h1
          injection h1 with h1
          simp [h1] at hxy
        · have hxy : (x != y) = false := by simpa using hxy
          go_wp2
          go_quiet (fail)
          go_wp2
          go_roundw
          case rel =>
            refine ⟨j + 1, by omega, by go_num, ?_, _, rfl⟩
            rw [take_succ_of HX.out, take_succ_of HY.out, HEQ.out]
            have : x = y := by simpa using hxy
            rw [this]
          case measure => simp [intOf]; omega
      · obtain rfl : j = n := by omega
        go_wp2
        go_ret
        refine ⟨ret_bool ?_, _, rfl⟩
        symm
        rw [decide_eq_true_iff]
        have := HEQ.out
        rwa [List.take_of_length_le (by rw [HN.out]; exact Nat.le_refl _), List.take_of_length_le (by rw [HN'.out]; exact Nat.le_refl _)] at this
  · have hb : ((n : Int) != (n' : Int)) = true := by rw [bne_iff_ne]; omega
    have hf : decide (xs = ys) = false := by
      rw [decide_eq_false_iff_not]
      intro he
      subst he
      omega
    clear hn hn' hrow hrow'
    go_enter Try.func30, Try.ntmps30
    go_wp2
    go_ret
    exact ⟨ret_bool hf.symm, 0, rfl⟩


set_option maxHeartbeats 400000 in
theorem equalFn_any (u v : Value) (xs ys : List (List UInt8)) (w : World) (h : IsSlice (repSlice repByte) w (all w) u xs) (h' : IsSlice (repSlice repByte) w (all w) v ys) (hl : xs.length = ys.length) :
    Calls Try.prog 84 #[u, v, .func (.func 83) #[] #[]] w fun e w' => e = .returned (.bool (decide (xs = ys))) ∧ w = w' := by
  obtain ⟨A, n, c, rfl, hnc, hcm, hrow⟩ := h
  obtain ⟨A', n', c', rfl, hnc', hcm', hrow'⟩ := h'
  have hn := hrow.1
  have hn' := hrow'.1
  have hmax : n ≤ 9223372036854775807 := by unfold maxLen at hcm; omega
  obtain rfl : n = n' := by omega
  have HN := hid hn
  have HN' := hid hn'
  clear hn hn' hl
  go_enter Try.func84, Try.ntmps84
  go_wp2
  go_loop [17] (fun i => ∃ j : Nat, j ≤ n ∧ i = .int .i64 j ∧ xs.take j = ys.take j) (fun i => n - (intOf i).toNat)
  case atStart => exact ⟨0, Nat.zero_le _, rfl, by simp⟩
  case round =>
    obtain ⟨j, hj, rfl, heq⟩ := hrel
    have HEQ := hid heq
    clear heq
    by_cases hlt : j < n
    · obtain ⟨b, off, A1, m1, c1, x, rfl, hx, hs1, hm1, hcx⟩ := hrow.sliceE (Below.refl _ _) hlt
      obtain ⟨b', off', A2, m2, c2, y, rfl, hy, hs2, hm2, hcy⟩ := hrow'.sliceE (Below.refl _ _) hlt
      have HX := hid hx
      have HY := hid hy
      clear hx hy hm1 hm2
      have sq := same_any _ _ _ _ w hs1 hs2
      by_cases hxy : x = y
      · rw [decide_eq_true hxy] at sq
        have SQ := hid sq
        clear sq
        go_wp2_with (go_at_call 83; refine SQ.out.mono ?_; rintro e w' ⟨rfl, rfl⟩)
        go_round
        case rel => exact ⟨j + 1, by omega, by go_num, by rw [take_succ_of HX.out, take_succ_of HY.out, HEQ.out, hxy]⟩
        case measure => simp [intOf]; omega
      · rw [decide_eq_false hxy] at sq
        have SQ := hid sq
        clear sq
        go_wp2_with (go_at_call 83; refine SQ.out.mono ?_; rintro e w' ⟨rfl, rfl⟩)
        go_ret
        exact ⟨ret_bool (decide_eq_false (list_apart HX.out HY.out hxy)).symm, rfl⟩
    · obtain rfl : j = n := by omega
      go_wp2
      go_ret
      refine ⟨ret_bool ?_, rfl⟩
      symm
      rw [decide_eq_true_iff]
      have := HEQ.out
      rwa [List.take_of_length_le (by rw [HN.out]; exact Nat.le_refl _), List.take_of_length_le (by rw [HN'.out]; exact Nat.le_refl _)] at this

theorem prefix_any (u v : Value) (xs ys : List (List UInt8)) (w : World) (h : IsSlice (repSlice repByte) w (all w) u xs) (h' : IsSlice (repSlice repByte) w (all w) v ys) :
    Calls Try.prog 31 #[u, v] w fun e w' => e = .returned (.bool (preB xs ys)) ∧ w = w' := by
  obtain ⟨A, n, c, rfl, hnc, hcm, hrow⟩ := h
  obtain ⟨B, m, d, rfl, hmd, hdm, hrow'⟩ := h'
  have hn := hrow.1
  have hm := hrow'.1
  have hmax : n ≤ 9223372036854775807 := by unfold maxLen at hcm; omega
  have hmax' : m ≤ 9223372036854775807 := by unfold maxLen at hdm; omega
  by_cases hle : n ≤ m
  · obtain ⟨B', hrun, hcut⟩ := cut_to (P := Try.prog) Try.underlying42 info_bytes (hrow'.isSlice hmd hdm) hle
    have hq := equalFn_any _ _ xs (ys.take n) w (hrow.isSlice hnc hcm) hcut (by rw [List.length_take]; omega)
    have HQ := hid hq
    have hP : preB xs ys = decide (xs = ys.take n) := by rw [preB_long (by omega), hn]
    have HP := hid hP
    have hd : decide ((n : Int) ≤ (m : Int)) = true := by simp; omega
    clear hq hP hn hm hrow hrow' hcut
    go_enter Try.func31, Try.ntmps31
    go_wp2_with (go_at_call 84; refine HQ.out.mono ?_; rintro e w' ⟨rfl, rfl⟩)
    go_ret
    exact ⟨ret_bool HP.out.symm, rfl⟩
  · have hP : preB xs ys = false := preB_short (by omega)
    have HP := hid hP
    have hd : decide ((n : Int) ≤ (m : Int)) = false := by simp; omega
    clear hP hn hm hrow hrow'
    go_enter Try.func31, Try.ntmps31
    go_wp2
    go_ret
    exact ⟨ret_bool HP.out.symm, rfl⟩
theorem prefixR_any (u v : Value) (xs ys : List (List UInt8)) (w : World) (h : IsSlice (repSlice repByte) w (all w) u xs) (h' : IsSlice (repSlice repByte) w (all w) v ys) :
    Calls Try.prog 32 #[u, v] w fun e w' => e = .returned (.bool (preB xs ys)) ∧ ∃ k, w' = w.drewN k := by
  obtain ⟨A, n, c, rfl, hnc, hcm, hrow⟩ := h
  obtain ⟨B, m, d, rfl, hmd, hdm, hrow'⟩ := h'
  have hn := hrow.1
  have hm := hrow'.1
  have hmax : n ≤ 9223372036854775807 := by unfold maxLen at hcm; omega
  have hmax' : m ≤ 9223372036854775807 := by unfold maxLen at hdm; omega
  by_cases hle : n ≤ m
  · obtain ⟨B', hrun, hcut⟩ := cut_to (P := Try.prog) Try.underlying42 info_bytes (hrow'.isSlice hmd hdm) hle
    have hq := sameAllB_any _ _ xs (ys.take n) w (hrow.isSlice hnc hcm) hcut
    have HQ := hid hq
    have hP : preB xs ys = decide (xs = ys.take n) := by rw [preB_long (by omega), hn]
    have HP := hid hP
    clear hq hP hn hm hrow hrow' hcut
    go_enter Try.func32, Try.ntmps32
    go_wp2_with (go_at_call 40; refine HQ.out.mono ?_; rintro e w' ⟨rfl, k, rfl⟩)
    go_ret
    exact ⟨ret_bool HP.out.symm, k, rfl⟩
  · have hP : preB xs ys = false := preB_short (by omega)
    have HP := hid hP
    clear hP hn hm hrow hrow'
    go_enter Try.func32, Try.ntmps32
    go_wp2
    go_ret
    exact ⟨ret_bool HP.out.symm, 0, rfl⟩
end
end Go.Proofs.Ytheopadakjojkaa
