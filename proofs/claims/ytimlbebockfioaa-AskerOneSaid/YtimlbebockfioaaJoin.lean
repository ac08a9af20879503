/- The walks of octet.Join and of its reference's Copy. -/
import Derived.Test.YtimlbebockfioaaBytes
namespace Go.Proofs.Ytimlbebockfioaa
open Go.RowKit

theorem flat_step {α : Type} {l : List (List α)} {k : Nat} {x : List α} (h : l[k]? = some x) : (l.take (k + 1)).flatten = (l.take k).flatten ++ x := by
  rw [take_succ_of h, List.flatten_append]; simp
theorem flat_le {α : Type} (l : List (List α)) (k : Nat) : (l.take k).flatten.length ≤ l.flatten.length := by
  conv => rhs; rw [← List.take_append_drop k l, List.flatten_append, List.length_append]
  omega
theorem flat_one {α : Type} {l : List (List α)} {k : Nat} {x : List α} (h : l[k]? = some x) : (l.take k).flatten.length + x.length ≤ l.flatten.length := by
  have := flat_le l (k + 1)
  rwa [flat_step h, List.length_append] at this

set_option maxRecDepth 100000
section
theorem copyB_any (v : Value) (xs : List UInt8) (w : World) (h : IsSlice repByte w (all w) v xs) (hl : xs.length ≤ 16777216) :
    Calls Try.prog 58 #[v] w fun e w' => ∃ u, e = .returned u ∧ IsSlice repByte w' (fresh w w') u xs ∧ Ext w w' := by
  go_enter Try.func58, Try.ntmps58
  go_wp2_with (at_builtin; refine wpl_app (r := repByte) (base := w.heap.size) (v := .slice (some ⟨w.heap.size, 0, none⟩) 0 0) (xs := []) _ _ rfl rfl Try.underlying39 info_byte (by decide) (own_lit (xs := []) (Nat.le_refl _) (by simp [maxLen]) (by simp) (by simp)) ((h.off (ext_alloc w _) (by simp [Value.ownBlock])).flat flat_byte) rfl rfl (by simp; omega) (by simp [maxLen]; omega) (by simp) ?_; intro v' w1 hown1 hg1 _)
  go_ret
  exact ⟨_, rfl, by simpa using hown1.fresh, Below.grown (ext_alloc _ _) hg1 (by simp) (by simp [Value.ownBlock])⟩

set_option maxHeartbeats 400000 in
theorem join_any (v : Value) (xss : List (List UInt8)) (w : World) (h : IsSlice (repSlice repByte) w (all w) v xss) (hl : xss.flatten.length ≤ 16777216) :
    Calls Try.prog 39 #[v] w fun e w' => ∃ u, e = .returned u ∧ IsSlice repByte w' (fresh w w') u xss.flatten ∧ Ext w w' := by
  obtain ⟨A, n, c, rfl, hnc, hcm, hrow⟩ := h
  have hn := hrow.1
  have hmax : n ≤ 9223372036854775807 := by unfold maxLen at hcm; omega
  have HN := hid hn
  clear hn
  go_enter Try.func39, Try.ntmps39
  go_wp2
  go_loop [3, 11] (fun s i => ∃ k : Nat, k ≤ n ∧ i = .int .i64 k ∧ s = .int .i64 ((xss.take k).flatten.length : Nat)) (fun _ i => n - (intOf i).toNat)
  case atStart => exact ⟨0, Nat.zero_le _, rfl, rfl⟩
  case round =>
    obtain ⟨k, hk, rfl, rfl⟩ := hrel
    by_cases hlt : k < n
    · obtain ⟨b, off, A1, m1, c1, x, rfl, hb, hx, hl1, hl2, hr1, hcx⟩ := hrow.slice hlt
      have hb1 := flat_one hx
      have HS := hid (flat_step hx)
      have hm1 := hr1.1
      have HM := hid hm1
      have hm1' : (xss.take k).flatten.length + m1 ≤ 16777216 := by omega
      clear hx hm1 hr1 hb1
      generalize hq : (xss.take k).flatten.length = q at *
      have HQ := hid hq
      clear hq
      go_wp2
      go_round
      case rel => exact ⟨k + 1, by omega, by go_num, by rw [HS.out, List.length_append, HQ.out, HM.out]; go_num⟩
      case measure => simp [intOf]; omega
    · obtain rfl : k = n := by omega
      have e : (xss.take k).flatten = xss.flatten := by rw [List.take_of_length_le (by rw [HN.out]; exact Nat.le_refl _)]
      rw [e]
      obtain ⟨T, hT⟩ : ∃ T, T = xss.flatten.length := ⟨_, rfl⟩
      rw [← hT] at hl ⊢
      have HT := hid hT
      clear hT e
      go_wp2_with (at_make; refine wpl_make0 (r := repByte) (base := w.heap.size) (z := .int .u8 0) (bytes := 1) _ _ T rfl rfl Try.underlying39 (by kernel_rfl) rfl rfl rfl (by omega) (by simp only [maxLen]; omega) (Nat.le_refl _) ?_; intro v1 w1 hown1 hext1)
      go_loopw [6, 24] (fun u i wr => ∃ j : Nat, j ≤ k ∧ i = .int .i64 j ∧ Own repByte 5 w.heap.size wr u (xss.take j).flatten ∧ Ext w wr) (fun _ i _ => k - (intOf i).toNat)
      case atStart => exact ⟨0, Nat.zero_le _, rfl, hown1, hext1⟩
      case round =>
        obtain ⟨j, hj, rfl, hown, hext⟩ := hrel
        by_cases hlt : j < k
        · obtain ⟨b, off, A1, m1, c1, x, rfl, hx, hs1, hm1, hcx⟩ := hrow.sliceE hext hlt
          have hb1 := flat_one hx
          rw [← HT.out] at hb1
          have HS := hid (flat_step hx)
          have hu := (hs1.off hext (fun k hk => (hown.lt k hk).1)).flat (T := el w.heap.size wr u6) flat_byte
          have HM := hid hm1
          clear hx hm1
          go_wp2_with (at_builtin; refine wpl_app (r := repByte) (base := w.heap.size) _ _ rfl rfl Try.underlying39 info_byte (by decide) hown hu rfl rfl (by omega) (by simp only [maxLen]; omega) hext.size ?_; intro v2 w2 hown2 hg2 _)
          go_roundw
          case rel => exact ⟨j + 1, by omega, by go_num, by rw [HS.out]; exact hown2, Below.grown hext hg2 hext.size (fun k hk => (hown.lt k hk).1)⟩
          case measure => simp [intOf]; omega
        · obtain rfl : j = k := by omega
          go_wp2
          go_ret
          rw [List.take_of_length_le (by rw [HN.out]; exact Nat.le_refl _)] at hown
          exact ⟨_, rfl, hown.fresh, hext⟩
end
end Go.Proofs.Ytimlbebockfioaa
