/- bytes.Clone. -/
import Derived.WalkSpells
import Derived.Test.YtimlbebockfioaaJoin
import Derived.Test.YtimlbebockfioaaRows
namespace Go.Proofs.Ytimlbebockfioaa
open Go.RowKit
set_option maxRecDepth 100000
section
theorem cloneB_any (v : Value) (xs : List UInt8) (w : World) (h : IsSlice repByte w (all w) v xs) (hl : xs.length ≤ 16777216) :
    Calls Try.prog 77 #[v] w fun e w' => ∃ u, e = .returned u ∧ IsSlice repByte w' (fresh w w') u xs ∧ Ext w w' := by
  obtain ⟨A, n, c, rfl, hnc, hcm, hrow⟩ := h
  have hs : IsSlice repByte w (all w) (.slice A n c) xs := ⟨A, n, c, rfl, hnc, hcm, hrow⟩
  rcases A with _ | ad
  · have hn0 : n = 0 := by
      rcases Nat.eq_zero_or_pos n with h | h
      · exact h
      · obtain ⟨b, off, x, hA, _⟩ := hrow.byte h; cases hA
    subst hn0
    have hx : xs = [] := List.eq_nil_of_length_eq_zero hrow.1
    have hnil : ∀ W, (binOp .eql 39 (.slice none 0 c) (.slice none 0 0)).run Try.prog W = .ok (.bool true) W := fun W => Lib.run_eql_slice_nil W _ _ none 0 c 0 0 Try.underlying39
    subst hx
    clear hrow hs
    go_enter Try.func77, Try.ntmps77
    go_wp2
    go_ret
    exact ⟨_, rfl, isSlice_nil _ _ _, Below.refl _ _⟩
  · have hnil : ∀ W, (binOp .eql 39 (.slice (some ad) n c) (.slice none 0 0)).run Try.prog W = .ok (.bool false) W := fun W => Lib.run_eql_slice_nil W _ _ (some ad) n c 0 0 Try.underlying39
    go_enter Try.func77, Try.ntmps77
    go_wp2_with (at_builtin; refine wpl_app (r := repByte) (base := w.heap.size) (v := .slice (some ⟨w.heap.size, 0, none⟩) 0 0) (xs := []) _ _ rfl rfl Try.underlying39 info_byte (by decide) (own_lit (xs := []) (Nat.le_refl _) (by simp [maxLen]) (by simp) (by simp)) ((hs.off (ext_alloc w _) (by simp [Value.ownBlock])).flat flat_byte) rfl rfl (by simp; omega) (by simp [maxLen]; omega) (by simp) ?_; intro v' w1 hown1 hg1 _)
    go_ret
    exact ⟨_, rfl, by simpa using hown1.fresh, Below.grown (ext_alloc _ _) hg1 (by simp) (by simp [Value.ownBlock])⟩
end
end Go.Proofs.Ytimlbebockfioaa
