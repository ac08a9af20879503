/- The page's examples of the judge; are texts few and short? -/
import Derived.Lib.SlBytesConst
import Derived.Test.YtheopadakjojkaaPrefix
namespace Go.Proofs.Ytheopadakjojkaa
open Go.RowKit

set_option maxRecDepth 100000
section
theorem none_any (v : Value) (xs : List Ev) (kind : Int) (w : World) (h : IsSlice repEv w (all w) v xs) (hl : xs.length ≤ 1000) :
    Calls Try.prog 93 #[v, .int .i64 kind] w fun e w' => e = .returned (.bool (nums xs kind).isEmpty) ∧ Ext w w' := by
  go_enter Try.func93, Try.ntmps93
  go_wp2_with fail
  refine (numbers_any _ _ _ _ h hl).mono ?_
  rintro e w1 ⟨u, rfl, hu, hext⟩
  obtain ⟨A, c, rfl⟩ := hu.shape
  go_wp2
  go_ret
  refine ⟨ret_bool ?_, hext⟩
  cases nums xs kind <;> rfl
theorem clean_any (v : Value) (xs : List Ev) (w : World) (h : IsSlice repEv w (all w) v xs) (hl : xs.length ≤ 1000) :
    Calls Try.prog 45 #[v] w fun e w' => e = .returned (.bool (nums xs 6).isEmpty) ∧ Ext w w' := by
  go_enter Try.func45, Try.ntmps45
  go_wp2_with (go_at_call 93; refine (none_any _ _ _ _ h hl).mono ?_; rintro e w1 ⟨rfl, hext⟩)
  go_ret
  exact ⟨rfl, hext⟩
theorem calm_any (v : Value) (xs : List Ev) (w : World) (h : IsSlice repEv w (all w) v xs) (hl : xs.length ≤ 1000) :
    Calls Try.prog 47 #[v] w fun e w' => e = .returned (.bool (nums xs 5).isEmpty) ∧ Ext w w' := by
  go_enter Try.func47, Try.ntmps47
  go_wp2_with (go_at_call 93; refine (none_any _ _ _ _ h hl).mono ?_; rintro e w1 ⟨rfl, hext⟩)
  go_ret
  exact ⟨rfl, hext⟩

theorem conv_const (W : World) (C : Array Value) (n c g : Nat) (hg : g = W.heap.size) : (convert 49 49 (.slice (some ⟨g, 0, none⟩) n c)).run Try.prog (W.alloc (.cells C 5)) = .ok (.slice (some ⟨g, 0, none⟩) n c) (W.alloc (.cells C 5 (C.size, C.size + 1))) := by
  subst hg
  exact Lib.run_convert_bytes_const (P := Try.prog) W 49 5 C n c Try.underlying49 Try.underlying5
theorem lit_byte (W W' : World) (c : UInt8) (g : Nat) (hg : g = W.heap.size) (hW : W' = W.alloc (.cells #[.int .u8 (c.toNat : Int)] 5 (1, 2))) : IsSlice repByte W' (all W') (.slice (some ⟨g, 0, none⟩) 1 1) [c] := by
  subst hW
  exact isSlice_lits (r := repByte) (xs := [c]) (us := [.int .u8 (c.toNat : Int)]) rfl ⟨rfl, trivial⟩ (by simp [maxLen]) rfl hg
theorem live_args (w W1 W2 W3 W4 W5 : World) (g1 g2 g3 g4 : Nat) (e1 : W1 = w.alloc (.cells #[.int .u8 97] 5 (1, 2))) (e2 : W2 = W1.alloc (.cells #[.int .u8 98] 5 (1, 2))) (e3 : W3 = W2.alloc (.cells #[.int .u8 99] 5 (1, 2)))
    (k1 : g1 = W1.heap.size) (k2 : g2 = W2.heap.size) (k3 : g3 = W3.heap.size) (k4 : g4 = W4.heap.size)
    (e4 : W4 = W3.alloc (.cells #[.slice (some ⟨g1, 0, none⟩) 1 1, .slice (some ⟨g2, 0, none⟩) 1 1] 49))
    (e5 : W5 = W4.alloc (.cells #[.slice (some ⟨w.heap.size, 0, none⟩) 1 1, .slice (some ⟨g1, 0, none⟩) 1 1, .slice (some ⟨w.heap.size, 0, none⟩) 1 1, .slice (some ⟨g2, 0, none⟩) 1 1] 49)) :
    IsSlice (repSlice repByte) W5 (all W5) (.slice (some ⟨g3, 0, none⟩) 2 2) [[98], [99]] ∧ IsSlice (repSlice repByte) W5 (all W5) (.slice (some ⟨g4, 0, none⟩) 4 4) [[97], [98], [97], [99]] ∧
      IsSlice repByte W5 (all W5) (.slice (some ⟨w.heap.size, 0, none⟩) 1 1) [97] ∧ IsSlice repByte W5 (all W5) (.slice (some ⟨g1, 0, none⟩) 1 1) [98] ∧ Ext w W5 := by
  have x1 : Ext w W1 := by rw [e1]; exact ext_alloc _ _
  have x2 : Ext W1 W2 := by rw [e2]; exact ext_alloc _ _
  have x3 : Ext W2 W3 := by rw [e3]; exact ext_alloc _ _
  have x4 : Ext W3 W4 := by rw [e4]; exact ext_alloc _ _
  have x5 : Ext W4 W5 := by rw [e5]; exact ext_alloc _ _
  have sa := ((lit_byte w W1 97 _ rfl e1).ext x2).ext x3
  have sb := (lit_byte W1 W2 98 _ k1 e2).ext x3
  have sc := lit_byte W2 W3 99 _ k2 e3
  have l1 : IsSlice (repSlice repByte) W4 (all W4) (.slice (some ⟨g3, 0, none⟩) 2 2) [[98], [99]] := by
    rw [e4]
    exact isSlice_lits (r := repSlice repByte) (xs := [[98], [99]]) (us := [_, _]) rfl ⟨isSlice_single sb, isSlice_single sc, trivial⟩ (by simp [maxLen]) rfl k3
  have l2 : IsSlice (repSlice repByte) W5 (all W5) (.slice (some ⟨g4, 0, none⟩) 4 4) [[97], [98], [97], [99]] := by
    rw [e5]
    exact isSlice_lits (r := repSlice repByte) (xs := [[97], [98], [97], [99]]) (us := [_, _, _, _]) rfl ⟨isSlice_single (sa.ext x4), isSlice_single (sb.ext x4), isSlice_single (sa.ext x4), isSlice_single (sc.ext x4), trivial⟩ (by simp [maxLen]) rfl k4
  exact ⟨l1.ext x5, l2, (sa.ext x4).ext x5, (sb.ext x4).ext x5, Ext.trans (Ext.trans (Ext.trans (Ext.trans x1 x2) x3) x4) x5⟩
theorem live_args2 (w W1 W2 : World) (u v : Value) (g1 : Nat) (e1 : W1 = w.alloc (.cells #[u] 49)) (e2 : W2 = W1.alloc (.cells #[u, v] 49)) (k1 : g1 = W1.heap.size) (hu : IsSlice repByte w (all w) u [97]) (hv : IsSlice repByte w (all w) v [98]) :
    IsSlice (repSlice repByte) W2 (all W2) (.slice (some ⟨w.heap.size, 0, none⟩) 1 1) [[97]] ∧ IsSlice (repSlice repByte) W2 (all W2) (.slice (some ⟨g1, 0, none⟩) 2 2) [[97], [98]] ∧ Ext w W2 := by
  have x1 : Ext w W1 := by rw [e1]; exact ext_alloc _ _
  have x2 : Ext W1 W2 := by rw [e2]; exact ext_alloc _ _
  have l1 : IsSlice (repSlice repByte) W1 (all W1) (.slice (some ⟨w.heap.size, 0, none⟩) 1 1) [[97]] := by
    rw [e1]
    exact isSlice_lits (r := repSlice repByte) (xs := [[97]]) (us := [_]) rfl ⟨isSlice_single hu, trivial⟩ (by simp [maxLen]) rfl rfl
  have l2 : IsSlice (repSlice repByte) W2 (all W2) (.slice (some ⟨g1, 0, none⟩) 2 2) [[97], [98]] := by
    rw [e2]
    exact isSlice_lits (r := repSlice repByte) (xs := [[97], [98]]) (us := [_, _]) rfl ⟨isSlice_single (hu.ext x1), isSlice_single (hv.ext x1), trivial⟩ (by simp [maxLen]) rfl k1
  exact ⟨l1.ext x2, l2, Ext.trans x1 x2⟩
set_option maxHeartbeats 800000 in
theorem judgeLive_any (w : World) : Calls Try.prog 27 #[] w fun e w' => e = .returned (.bool true) ∧ Ext w w' := by
  have hcv := conv_const
  go_enter Try.func27, Try.ntmps27
  go_wp2_with fail
  obtain ⟨q1, q2, q3, q4, hx⟩ := live_args w _ _ _ _ _ _ _ _ _ rfl rfl rfl (show w.heap.size + 1 = _ by simp) (show w.heap.size + 1 + 1 = _ by simp) (show w.heap.size + 1 + 1 + 1 = _ by simp) (show w.heap.size + 1 + 1 + 1 + 1 = _ by simp) rfl rfl
  have hp : placesOf [[(98 : UInt8)], [99]] [[97], [98], [97], [99]] = some [1, 3] := by decide +kernel
  have hv : placesV [[(98 : UInt8)], [99]] [[97], [98], [97], [99]] = [1, 3] := by unfold placesV; rw [hp]; rfl
  have HP := hid hp
  have HV := hid hv
  clear hp hv
  refine (places_any _ _ _ _ _ q1 q2 (by simp) (by simp)).mono ?_
  rintro e w1 ⟨u, rfl, hu, hext1⟩
  rw [HP.out]
  rw [HV.out] at hu
  obtain ⟨B, d, rfl⟩ := hu.shape
  have h97 := q3.ext hext1
  have h98 := q4.ext hext1
  have hx1 := Ext.trans hx hext1
  clear q1 q2 q3 q4 hx
  clear hext1
  go_wp2_with fail
  have l1 : IsSlice (repInt .i64) (w1.alloc (.cells #[.int .i64 1, .int .i64 3] 3)) (all _) (.slice (some ⟨w1.heap.size, 0, none⟩) 2 2) [1, 3] :=
    isSlice_lits (r := repInt .i64) (xs := [1, 3]) (us := [.int .i64 1, .int .i64 3]) rfl ⟨⟨rfl, by decide⟩, ⟨rfl, by decide⟩, trivial⟩ (by simp [maxLen]) rfl rfl
  refine (sameInts_any _ _ _ _ _ (hu.any.ext (ext_alloc _ _)) l1).mono ?_
  rw [decide_eq_true rfl]
  rintro e w2 ⟨rfl, kd, rfl⟩
  have x12 : Ext w1 ((w1.alloc (.cells #[.int .i64 1, .int .i64 3] 3)).drewN kd) := Ext.trans (ext_alloc _ _) (ext_drewN _ _)
  generalize (w1.alloc (.cells #[.int .i64 1, .int .i64 3] 3)).drewN kd = w2 at *
  have h97' := h97.ext x12
  have h98' := h98.ext x12
  have hx2 := Ext.trans hx1 x12
  clear l1 hu h97 h98 x12 hx1
  go_wp2_with fail
  obtain ⟨p1, p2, x23⟩ := live_args2 w2 _ _ _ _ _ rfl rfl (show w2.heap.size + 1 = _ by simp) h97' h98'
  refine (prefix_any _ _ _ _ _ p1 p2).mono ?_
  rw [show preB [[(97 : UInt8)]] [[97], [98]] = true from by decide +kernel]
  rintro e w3 ⟨rfl, rfl⟩
  clear p1 p2
  go_wp2_with fail
  refine (clean_any _ [] _ (isSlice_nil _ _ _) (by simp)).mono ?_
  rintro e w4 ⟨rfl, hx4⟩
  go_wp2
  go_ret
  exact ⟨rfl, Ext.trans (Ext.trans hx2 x23) hx4⟩
end
end Go.Proofs.Ytheopadakjojkaa
