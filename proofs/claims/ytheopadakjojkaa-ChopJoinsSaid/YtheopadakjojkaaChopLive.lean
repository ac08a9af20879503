/- The walks of chop's page examples. -/
import Derived.Test.YtheopadakjojkaaJoin
import Derived.Test.YtheopadakjojkaaObj
namespace Go.Proofs.Ytheopadakjojkaa
open Go.RowKit

theorem lit_two (w W1 W2 : World) (x : UInt8) (z : Int) (hz : z = (x.toNat : Int)) (v : Value) (l : List UInt8) (g : Nat) (e1 : W1 = w.alloc (.cells #[.int .u8 z] 5)) (e2 : W2 = W1.alloc (.cells #[.slice (some ⟨w.heap.size, 0, none⟩) 1 1, v] 49)) (hg : g = W1.heap.size) (hv : IsSlice repByte w (all w) v l) :
    IsSlice (repSlice repByte) W2 (all W2) (.slice (some ⟨g, 0, none⟩) 2 2) [[x], l] ∧ Ext w W2 := by
  have x1 : Ext w W1 := by rw [e1]; exact ext_alloc _ _
  have x2 : Ext W1 W2 := by rw [e2]; exact ext_alloc _ _
  have l1 : IsSlice repByte W1 (all W1) (.slice (some ⟨w.heap.size, 0, none⟩) 1 1) [x] := by
    rw [e1, hz]
    exact isSlice_lits (r := repByte) (xs := [x]) (us := [_]) rfl ⟨rfl, trivial⟩ (by simp [maxLen]) rfl rfl
  refine ⟨?_, Ext.trans x1 x2⟩
  rw [e2]
  exact isSlice_lits (r := repSlice repByte) (xs := [[x], l]) (us := [_, _]) rfl ⟨isSlice_single l1, isSlice_single (hv.ext x1), trivial⟩ (by simp [maxLen]) rfl hg
theorem lit_one (w W1 W2 : World) (x : UInt8) (z : Int) (hz : z = (x.toNat : Int)) (g : Nat) (e1 : W1 = w.alloc (.cells #[.int .u8 z] 5)) (e2 : W2 = W1.alloc (.cells #[.slice (some ⟨w.heap.size, 0, none⟩) 1 1] 49)) (hg : g = W1.heap.size) :
    IsSlice (repSlice repByte) W2 (all W2) (.slice (some ⟨g, 0, none⟩) 1 1) [[x]] ∧ Ext w W2 := by
  have x1 : Ext w W1 := by rw [e1]; exact ext_alloc _ _
  have x2 : Ext W1 W2 := by rw [e2]; exact ext_alloc _ _
  have l1 : IsSlice repByte W1 (all W1) (.slice (some ⟨w.heap.size, 0, none⟩) 1 1) [x] := by
    rw [e1, hz]
    exact isSlice_lits (r := repByte) (xs := [x]) (us := [_]) rfl ⟨rfl, trivial⟩ (by simp [maxLen]) rfl rfl
  refine ⟨?_, Ext.trans x1 x2⟩
  rw [e2]
  exact isSlice_lits (r := repSlice repByte) (xs := [[x]]) (us := [_]) rfl ⟨isSlice_single l1, trivial⟩ (by simp [maxLen]) rfl hg

set_option maxRecDepth 100000
section
theorem chopNum_any (x : Int) (w : World) :
    Calls Try.prog 36 #[.int .i64 x] w fun e w' => e = .returned (.int .i64 x) ∧ w = w' := by
  go_enter Try.func36, Try.ntmps36
  go_wp2
  go_ret
  exact ⟨rfl, rfl⟩
theorem count0_any (w : World) : Calls Try.prog 90 #[.int .i64 0] w fun e w' => e = .returned (.int .i64 1) ∧ w = w' := by
  go_enter Try.func90, Try.ntmps90
  go_wp2
  go_ret
  exact ⟨rfl, rfl⟩
theorem count64_any (w : World) : Calls Try.prog 90 #[.int .i64 64] w fun e w' => e = .returned (.int .i64 2) ∧ w = w' := by
  go_enter Try.func90, Try.ntmps90
  go_wp2
  go_ret
  exact ⟨rfl, rfl⟩
theorem piece0_any (w : World) : Calls Try.prog 107 #[.int .i64 0, .bool true, .slice none 0 0] w fun e w' => ∃ u, e = .returned u ∧ IsSlice repByte w' (fresh w w') u [128] ∧ Ext w w' := by
  go_enter Try.func107, Try.ntmps107
  go_wp2_with fail
  obtain ⟨h1, hx⟩ := lit_two w _ _ 128 128 rfl _ [] _ rfl rfl (show w.heap.size + 1 = _ by simp) (isSlice_nil repByte w (all w))
  refine (join_any _ [[128], []] _ h1 (by simp)).mono ?_
  rintro e w1 ⟨u, rfl, hu, hext⟩
  go_wp2
  go_ret
  exact ⟨_, rfl, hu.since hx, Ext.trans hx hext⟩
theorem chop0_any (w : World) : Calls Try.prog 89 #[.slice none 0 0] w fun e w' => ∃ u, e = .returned (.tuple #[u, .int .i64 0]) ∧ IsSlice (repSlice repByte) w' (fresh w w') u [[128]] ∧ Ext w w' := by
  go_enter Try.func89, Try.ntmps89
  go_wp2_with (first | (go_at_call 90; refine (count0_any _).mono ?_; rintro e w1 ⟨rfl, rfl⟩) | (at_make; refine wpl_make0 (r := repSlice repByte) (base := w.heap.size) (z := .slice none 0 0) (bytes := 24) _ _ 1 rfl rfl Try.underlying42 (by kernel_rfl) rfl rfl rfl (by omega) (by simp only [maxLen]; omega) (Nat.le_refl _) ?_; intro v1 w1 hown1 hext1))
  go_loopw [5, 17] (fun u i wr => ∃ j : Nat, j ≤ 1 ∧ i = .int .i64 j ∧ Own (repSlice repByte) 49 w.heap.size wr u (if j = 0 then [] else [[128]]) ∧ Ext w wr) (fun _ i _ => 1 - (intOf i).toNat)
  case atStart => exact ⟨0, Nat.zero_le _, rfl, hown1, hext1⟩
  case round =>
    obtain ⟨j, hj, rfl, hown, hext⟩ := hrel
    rcases Nat.lt_or_ge j 1 with h | h
    · obtain rfl : j = 0 := by omega
      rw [if_pos rfl] at hown
      go_wp2_with fail
      refine (piece0_any _).mono ?_
      rintro e w2 ⟨u, rfl, hu, hext2⟩
      have hown' := hown.ext hext2
      have hlt := hown.lt
      have hx3 := Ext.trans hext hext2
      have hu' := hu.newer hlt hext.size
      obtain ⟨B, c, rfl⟩ := hu.shape
      go_wp2_with (at_builtin; refine wpl_app1 (r := repSlice repByte) (base := w.heap.size) _ _ rfl rfl Try.underlying42 info_bytes (by decide) hown' rfl rfl rfl (isSlice_single hu') (by simp) (by simp [maxLen]) hx3.size ?_; intro v3 w3 hown3 hg3)
      go_roundw
      case rel => exact ⟨1, by omega, by go_num, by simpa using hown3, Below.grown hx3 hg3 hx3.size (fun k hk => (hown'.lt k hk).1)⟩
      case measure => simp [intOf]
    · obtain rfl : j = 1 := by omega
      rw [if_neg (by decide)] at hown
      go_wp2
      go_ret2
      exact ⟨_, rfl, hown.fresh, hext⟩
theorem chopLive_any (w : World) : Calls Try.prog 38 #[] w fun e w' => e = .returned (.bool true) ∧ Ext w w' := by
  go_enter Try.func38, Try.ntmps38
  go_wp2_with fail
  refine (chop0_any _).mono ?_
  rintro e w1 ⟨u, rfl, hu, hext⟩
  obtain ⟨B, c, rfl⟩ := hu.shape
  have hua := hu.any
  clear hu
  go_wp2_with (go_at_call 36; refine (chopNum_any _ _).mono ?_; rintro e w1 ⟨rfl, rfl⟩)
  obtain ⟨h1, hx⟩ := lit_one w1 _ _ 128 128 rfl _ rfl rfl (show w1.heap.size + 1 = _ by simp)
  refine (sameAllB_any _ _ _ _ _ (hua.ext hx) h1).mono ?_
  rw [decide_eq_true rfl]
  rintro e w2 ⟨rfl, k, rfl⟩
  go_wp2_with (go_at_call 90; refine (count64_any _).mono ?_; rintro e w1 ⟨rfl, rfl⟩)
  go_ret
  exact ⟨rfl, Ext.trans hext (below_drewN hx k)⟩
end
end Go.Proofs.Ytheopadakjojkaa
