/- The walks of span's Rank and Bars on numbers, and of the law's own words. -/
import Derived.Laws.CopyOwn
import Derived.Test.YtmllkniloalgoaaSpan
import Derived.Test.YtmllkniloalgoaaSortBlk
namespace Go.Proofs.Ytmllkniloalgoaa
open Go.RowKit


set_option maxRecDepth 100000
section
set_option maxHeartbeats 400000 in
theorem sameInts_any (v u : Value) (xs ys : List Int) (w : World) (h : IsSlice (repInt .i64) w (all w) v xs) (h' : IsSlice (repInt .i64) w (all w) u ys) :
    Calls Try.prog 10 #[v, u] w fun e w' => e = .returned (.bool (decide (xs = ys))) ∧ ∃ k, w' = w.drewN k := by
  obtain ⟨A, n, c, rfl, hnc, hcm, hrow⟩ := h
  obtain ⟨A', n', c', rfl, hnc', hcm', hrow'⟩ := h'
  have hn := hrow.1
  have hn' := hrow'.1
  have hmax : n ≤ 9223372036854775807 := by unfold maxLen at hcm; omega
  have hmax' : n' ≤ 9223372036854775807 := by unfold maxLen at hcm'; omega
  by_cases hne : n = n'
  · subst hne
    have HN := hid hn
    have HN' := hid hn'
    clear hn hn'
    go_enter Try.func10, Try.ntmps10
    go_wp2
    go_loopw [5] (fun i wr => ∃ j : Nat, j ≤ n ∧ i = .int .i64 j ∧ xs.take j = ys.take j ∧ ∃ k, wr = w.drewN k) (fun i _ => n - (intOf i).toNat)
    case atStart => exact ⟨0, Nat.zero_le _, rfl, by simp, 0, rfl⟩
    case round =>
      obtain ⟨j, hj, rfl, heq, nd, rfl⟩ := hrel
      have HEQ := hid heq
      clear heq
      by_cases hlt : j < n
      · obtain ⟨b, off, x, rfl, hb, hx, hcx, _⟩ := hrow.int hlt
        obtain ⟨b', off', y, rfl, hb', hy, hcy, _⟩ := hrow'.int hlt
        have HX := hid hx
        have HY := hid hy
        clear hx hy
        by_cases hxy : (x != y) = true
        · go_wp2
          go_quiet (fail)
          go_wp2
          go_ret
          refine ⟨ret_bool ?_, _, World.drewN_drewN _ _ _⟩
          symm
          rw [decide_eq_false_iff_not]
          intro he
          subst he
          have h1 := HX.out
          rw [HY.out] at h1
          injection h1 with h1
          simp [h1] at hxy
        · have hxy : (x != y) = false := by simpa using hxy
          go_wp2
          go_quiet (fail)
          go_wp2
          go_roundw
          case rel =>
            refine ⟨j + 1, by omega, by go_num, ?_, _, rfl⟩
            rw [take_succ_of HX.out, take_succ_of HY.out, HEQ.out]
            have : x = y := by simpa using hxy
            rw [this]
          case measure => simp [intOf]; omega
      · obtain rfl : j = n := by omega
        go_wp2
        go_ret
        refine ⟨ret_bool ?_, _, rfl⟩
        symm
        rw [decide_eq_true_iff]
        have := HEQ.out
        rwa [List.take_of_length_le (by rw [HN.out]; exact Nat.le_refl _), List.take_of_length_le (by rw [HN'.out]; exact Nat.le_refl _)] at this
  · have hb : ((n : Int) != (n' : Int)) = true := by rw [bne_iff_ne]; omega
    have hf : decide (xs = ys) = false := by
      rw [decide_eq_false_iff_not]
      intro he
      subst he
      omega
    clear hn hn' hrow hrow'
    go_enter Try.func10, Try.ntmps10
    go_wp2
    go_ret
    exact ⟨ret_bool hf.symm, 0, rfl⟩



/-- The number at a part of the way. -/
def rankBad (n : Nat) (num den : Int) : Prop := n = 0 ∨ den < 1 ∨ 1000 < den ∨ num < 0 ∨ den < num
set_option maxHeartbeats 800000 in
theorem rank_any (v : Value) (xs : List Int) (num den : Int) (w : World) (h : IsSlice (repInt .i64) w (all w) v xs) (hl : xs.length ≤ 200) (hr : ¬ rankBad xs.length num den) (J : Nat) (x : Int)
    (hJ : (((xs.length : Int) - 1) * num) / den = (J : Int)) (hx : (sortI xs)[J]? = some x) :
    Calls Try.prog 7 #[v, .int .i64 num, .int .i64 den] w fun e w' => e = .returned (.tuple #[.int .i64 x, .bool true]) ∧ Ext w w' := by
  obtain ⟨A, n, c, rfl, hnc, hcm, hrow⟩ := h
  have hn := hrow.1
  unfold rankBad at hr
  have hmax : n ≤ 200 := by omega
  have hn1 : 1 ≤ n := by omega
  have hd1 : 1 ≤ den := by omega
  have hd2 : den ≤ 1000 := by omega
  have hm1 : 0 ≤ num := by omega
  have hm2 : num ≤ den := by omega
  rw [hn] at hJ
  have hp0 : 0 ≤ ((n : Int) - 1) * num := Int.mul_nonneg (by omega) hm1
  have hp1 : ((n : Int) - 1) * num ≤ 200 * 1000 := Int.mul_le_mul (by omega) (by omega) hm1 (by omega)
  have hJn : J < n := by have := lt_of_get hx; rw [sortI_len, hn] at this; exact this
  have hzb : ((n : Int) == 0) = false := by simp; omega
  have HN := hid hn
  have HX := hid hx
  obtain ⟨p, hp⟩ : ∃ p, p = ((n : Int) - 1) * num := ⟨_, rfl⟩
  rw [← hp] at hp0 hp1 hJ
  have hmul : IntKind.i64.wrap (((n : Int) - 1) * num) = p := by rw [← hp, IntKind.wrap_i64]; omega
  have hdiv : p.tdiv den = (J : Int) := by rw [Int.tdiv_eq_ediv_of_nonneg hp0, hJ]
  have hmul2 : wrap64 (((n : Int) - 1) * num) = p := by rw [← hp]; unfold wrap64; omega
  obtain ⟨C, hC⟩ : ∃ C : List Value, C = xs.map (Value.int .i64) := ⟨_, rfl⟩
  have hCl : C.length = n := by rw [hC, List.length_map, hn]
  obtain ⟨b, off, rfl, hbl, _⟩ := hrow.2 (by omega)
  have hCat : ∀ w1, Ext w w1 → ∀ j v, C[j]? = some v → w1.cell? ((⟨b, off, none⟩ : Addr).add j) = some v := by
    intro w1 he j v hv
    have hj : j < n := by have := lt_of_get hv; omega
    obtain ⟨b', off', y, hA, hy, hc, _⟩ := hrow.intE he hj
    simp only [Option.some.injEq, Addr.mk.injEq, and_true] at hA
    obtain ⟨rfl, rfl⟩ := hA
    rw [add_eq]
    rw [hC, List.getElem?_map, hy] at hv
    injection hv with hv
    rw [hc, hv]
  have hC1 : ∀ u ∈ C, u.oneCell' = true := by
    intro u hu
    rw [hC] at hu
    obtain ⟨y, _, rfl⟩ := List.mem_map.1 hu
    rfl
  have hsp : ∀ Z : List Value, Z.length = n → splice Z 0 C = C := by
    intro Z hZ
    unfold splice
    rw [List.take_zero, List.nil_append, Nat.zero_add, List.drop_of_length_le (by omega), List.append_nil]
  obtain ⟨Z, hZ⟩ : ∃ Z : List Value, Z = (List.replicate n (0 : Int)).map (Value.int .i64) := ⟨_, rfl⟩
  have hZl : Z.length = n := by rw [hZ]; simp
  have HZ := hid hZ
  have HSP := hid (hsp Z hZl)
  have HC1 := hid hC1
  have HZL := hid hZl
  have HC := hid hC
  have HCL := hid hCl
  have HCAT := hid hCat
  clear hn hx hC hCl hCat hr hp hJ hC1 hsp hZ hZl
  go_enter Try.func7, Try.ntmps7
  go_upto_region 4 with (at_make; refine wpl_make_ints (ki := .i64) (bytes := 8) _ _ n rfl rfl Try.underlying22 (by kernel_rfl) rfl rfl rfl rfl (by omega) (by simp only [maxLen]; omega) ?_; intro w2 hb2 hx2)
  rw [← HZ.out] at hb2
  have hb2 : w2.heap[w.heap.size]? = some (.cells Z.toArray 3 (0, 0)) := hb2
  go_wp2_with (with_reducible show wpList _ _ _ ((⟨some 34, _, _, _, _, _⟩ : Oper) :: _) _ _; go_loud (refine wpList_copy_splice rfl _ _ _ _ rfl 3 Try.underlying22 (by kernel_rfl) _ _ _ _ _ _ rfl rfl w.heap.size 0 Z 3 hb2 C (by rw [HCL.out]; simp) (fun _ => ⟨rfl, _, rfl, HCAT.out _ hx2⟩) (by rw [HCL.out, HZL.out]; omega) HC1.out w.heap.size w hx2 (Nat.le_refl _) ?_); intro w3 hrow3 hb3)
  have hblk3 : Blk w3 w.heap.size 3 (xs.map (Value.int .i64)).toArray := by
    have := hrow3.out
    rw [HSP.out, HC.out] at this
    exact this
  have hx3 : Ext w w3 := hb3
  have hs := sort_any w3 w.heap.size 3 xs n hblk3 (by omega)
  rw [HN.out] at hs
  have HS := hid hs
  clear hs hrow3 hblk3
  refine HS.out.mono ?_
  rintro r w4 ⟨rfl, hb4, ho4⟩
  have hx4 := Only.ext_new ho4 hx3 (Nat.le_refl _)
  have hc4 := hb4.intAt HX.out
  clear hb4
  go_wp2
  go_ret2
  exact ⟨rfl, hx4⟩
end
end Go.Proofs.Ytmllkniloalgoaa
