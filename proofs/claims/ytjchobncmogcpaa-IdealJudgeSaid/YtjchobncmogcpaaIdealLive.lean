/- The walk of ideal's law's live. -/
import Derived.Lib.SlBytesConst
import Derived.Test.YtjchobncmogcpaaIdeal4
namespace Go.Proofs.Ytjchobncmogcpaa
open Go.RowKit

def liveE : List Ev := [⟨0, 0, 0, [97]⟩, ⟨0, 0, 0, [98]⟩, ⟨0, 2, 0, [98]⟩]
def liveF : List Ev := [⟨0, 0, 0, [97]⟩, ⟨0, 0, 0, [98]⟩, ⟨0, 5, 0, []⟩, ⟨0, 2, 0, [98]⟩]
theorem liveE_acc : accI (iq0 true) liveE 0 = (2, false) := by decide +kernel
theorem liveF_acc : accI (iq0 true) liveF 0 = (4, true) := by decide +kernel

set_option maxRecDepth 100000
section
theorem conv_const (W : World) (C : Array Value) (n c g : Nat) (hg : g = W.heap.size) : (convert 33 33 (.slice (some ⟨g, 0, none⟩) n c)).run Try.prog (W.alloc (.cells C 5)) = .ok (.slice (some ⟨g, 0, none⟩) n c) (W.alloc (.cells C 5 (C.size, C.size + 1))) := by
  subst hg
  exact Lib.run_convert_bytes_const (P := Try.prog) W 33 5 C n c Try.underlying33 Try.underlying5
theorem lit_byte (W W' : World) (c : UInt8) (g : Nat) (hg : g = W.heap.size) (hW : W' = W.alloc (.cells #[.int .u8 (c.toNat : Int)] 5 (1, 2))) : IsSlice repByte W' (all W') (.slice (some ⟨g, 0, none⟩) 1 1) [c] := by
  subst hW
  exact isSlice_lits (r := repByte) (xs := [c]) (us := [.int .u8 (c.toNat : Int)]) rfl ⟨rfl, trivial⟩ (by simp [maxLen]) rfl hg
theorem lit_ev3 (W : World) (v1 v2 v3 : Value) (k1 k2 k3 : Int) (d1 d2 d3 : List UInt8) (h1 : IsSlice repByte W (all W) v1 d1) (h2 : IsSlice repByte W (all W) v2 d2) (h3 : IsSlice repByte W (all W) v3 d3) :
    IsSlice repEv (W.alloc (.cells #[.int .i64 0, .int .i64 k1, .int .i64 0, v1, .int .i64 0, .int .i64 k2, .int .i64 0, v2, .int .i64 0, .int .i64 k3, .int .i64 0, v3] 119)) (all (W.alloc (.cells #[.int .i64 0, .int .i64 k1, .int .i64 0, v1, .int .i64 0, .int .i64 k2, .int .i64 0, v2, .int .i64 0, .int .i64 k3, .int .i64 0, v3] 119))) (.slice (some ⟨W.heap.size, 0, none⟩) 3 3) [⟨0, k1, 0, d1⟩, ⟨0, k2, 0, d2⟩, ⟨0, k3, 0, d3⟩] := by
  refine (own_lit (r := repEv) (base := 0) (w := W) (xs := [⟨0, k1, 0, d1⟩, ⟨0, k2, 0, d2⟩, ⟨0, k3, 0, d3⟩]) (Nat.zero_le _) (by simp [maxLen]) rfl fun j hj => ?_).slice
  have hk : ∀ {v : Value} {d : List UInt8}, IsSlice repByte W (all W) v d → IsSlice repByte W (fun b => 0 ≤ b ∧ b < W.heap.size) v d := fun h => h.keep fun b hb => ⟨⟨Nat.zero_le _, hb⟩, fun _ => rfl⟩
  match j, hj with
  | 0, _ => exact ⟨v1, rfl, hk h1⟩
  | 1, _ => exact ⟨v2, rfl, hk h2⟩
  | 2, _ => exact ⟨v3, rfl, hk h3⟩
theorem lit_ev4 (W : World) (v1 v2 v3 v4 : Value) (k1 k2 k3 k4 : Int) (d1 d2 d3 d4 : List UInt8) (h1 : IsSlice repByte W (all W) v1 d1) (h2 : IsSlice repByte W (all W) v2 d2) (h3 : IsSlice repByte W (all W) v3 d3) (h4 : IsSlice repByte W (all W) v4 d4) :
    IsSlice repEv (W.alloc (.cells #[.int .i64 0, .int .i64 k1, .int .i64 0, v1, .int .i64 0, .int .i64 k2, .int .i64 0, v2, .int .i64 0, .int .i64 k3, .int .i64 0, v3, .int .i64 0, .int .i64 k4, .int .i64 0, v4] 119)) (all (W.alloc (.cells #[.int .i64 0, .int .i64 k1, .int .i64 0, v1, .int .i64 0, .int .i64 k2, .int .i64 0, v2, .int .i64 0, .int .i64 k3, .int .i64 0, v3, .int .i64 0, .int .i64 k4, .int .i64 0, v4] 119))) (.slice (some ⟨W.heap.size, 0, none⟩) 4 4) [⟨0, k1, 0, d1⟩, ⟨0, k2, 0, d2⟩, ⟨0, k3, 0, d3⟩, ⟨0, k4, 0, d4⟩] := by
  refine (own_lit (r := repEv) (base := 0) (w := W) (xs := [⟨0, k1, 0, d1⟩, ⟨0, k2, 0, d2⟩, ⟨0, k3, 0, d3⟩, ⟨0, k4, 0, d4⟩]) (Nat.zero_le _) (by simp [maxLen]) rfl fun j hj => ?_).slice
  have hk : ∀ {v : Value} {d : List UInt8}, IsSlice repByte W (all W) v d → IsSlice repByte W (fun b => 0 ≤ b ∧ b < W.heap.size) v d := fun h => h.keep fun b hb => ⟨⟨Nat.zero_le _, hb⟩, fun _ => rfl⟩
  match j, hj with
  | 0, _ => exact ⟨v1, rfl, hk h1⟩
  | 1, _ => exact ⟨v2, rfl, hk h2⟩
  | 2, _ => exact ⟨v3, rfl, hk h3⟩
  | 3, _ => exact ⟨v4, rfl, hk h4⟩
theorem live_args (w W1 W2 W3 W4 : World) (e1 : W1 = w.alloc (.cells #[.int .u8 97] 5 (1, 2))) (e2 : W2 = W1.alloc (.cells #[.int .u8 98] 5 (1, 2))) (e3 : W3 = W2.alloc (.cells #[.int .u8 98] 5 (1, 2)))
    (e4 : W4 = W3.alloc (.cells #[.int .i64 0, .int .i64 0, .int .i64 0, .slice (some ⟨w.heap.size, 0, none⟩) 1 1, .int .i64 0, .int .i64 0, .int .i64 0, .slice (some ⟨w.heap.size + 1, 0, none⟩) 1 1, .int .i64 0, .int .i64 2, .int .i64 0, .slice (some ⟨w.heap.size + 1 + 1, 0, none⟩) 1 1] 119)) :
    IsSlice repEv W4 (all W4) (.slice (some ⟨w.heap.size + 1 + 1 + 1, 0, none⟩) 3 3) liveE ∧ Blk W4 (w.heap.size + 1 + 1 + 1) 119 #[.int .i64 0, .int .i64 0, .int .i64 0, .slice (some ⟨w.heap.size, 0, none⟩) 1 1, .int .i64 0, .int .i64 0, .int .i64 0, .slice (some ⟨w.heap.size + 1, 0, none⟩) 1 1, .int .i64 0, .int .i64 2, .int .i64 0, .slice (some ⟨w.heap.size + 1 + 1, 0, none⟩) 1 1] ∧
      IsSlice repByte W4 (all W4) (.slice (some ⟨w.heap.size, 0, none⟩) 1 1) [97] ∧ IsSlice repByte W4 (all W4) (.slice (some ⟨w.heap.size + 1, 0, none⟩) 1 1) [98] ∧ IsSlice repByte W4 (all W4) (.slice (some ⟨w.heap.size + 1 + 1, 0, none⟩) 1 1) [98] ∧ Ext w W4 := by
  have x1 : Ext w W1 := by rw [e1]; exact ext_alloc _ _
  have x2 : Ext W1 W2 := by rw [e2]; exact ext_alloc _ _
  have x3 : Ext W2 W3 := by rw [e3]; exact ext_alloc _ _
  have x4 : Ext W3 W4 := by rw [e4]; exact ext_alloc _ _
  have n1 : W1.heap.size = w.heap.size + 1 := by rw [e1]; simp
  have n2 : W2.heap.size = w.heap.size + 1 + 1 := by rw [e2]; simp [n1]
  have n3 : W3.heap.size = w.heap.size + 1 + 1 + 1 := by rw [e3]; simp [n2]
  have sa := ((lit_byte w W1 97 _ rfl e1).ext x2).ext x3
  have sb := (lit_byte W1 W2 98 _ n1.symm e2).ext x3
  have sc := lit_byte W2 W3 98 _ n2.symm e3
  have l1 := lit_ev3 W3 _ _ _ 0 0 2 _ _ _ sa sb sc
  rw [← e4, n3] at l1
  have hb : Blk W4 (w.heap.size + 1 + 1 + 1) 119 #[.int .i64 0, .int .i64 0, .int .i64 0, .slice (some ⟨w.heap.size, 0, none⟩) 1 1, .int .i64 0, .int .i64 0, .int .i64 0, .slice (some ⟨w.heap.size + 1, 0, none⟩) 1 1, .int .i64 0, .int .i64 2, .int .i64 0, .slice (some ⟨w.heap.size + 1 + 1, 0, none⟩) 1 1] := by rw [e4, ← n3]; exact Blk.new W3 _ _
  exact ⟨l1, hb, sa.ext x4, sb.ext x4, sc.ext x4, Ext.trans (Ext.trans (Ext.trans x1 x2) x3) x4⟩
set_option maxHeartbeats 1000000 in
theorem idealLive_any (w : World) : Calls Try.prog 55 #[] w fun e w' => e = .returned (.bool true) ∧ Ext w w' := by
  have hcv := conv_const
  go_enter Try.func55, Try.ntmps55
  go_wp2_with fail
  obtain ⟨l1, hb, sa, sb, sc, hx⟩ := live_args w _ _ _ _ rfl rfl rfl rfl
  generalize ((((w.alloc (.cells #[.int .u8 97] 5 (1, 2))).alloc (.cells #[.int .u8 98] 5 (1, 2))).alloc (.cells #[.int .u8 98] 5 (1, 2))).alloc (.cells #[.int .i64 0, .int .i64 0, .int .i64 0, .slice (some ⟨w.heap.size, 0, none⟩) 1 1, .int .i64 0, .int .i64 0, .int .i64 0, .slice (some ⟨w.heap.size + 1, 0, none⟩) 1 1, .int .i64 0, .int .i64 2, .int .i64 0, .slice (some ⟨w.heap.size + 1 + 1, 0, none⟩) 1 1] 119)) = W4 at *
  have HA := hid (accepts_any _ liveE true W4 l1 (by decide) (by decide))
  rw [liveE_acc] at HA
  refine HA.out.mono ?_
  rintro e w5 ⟨rfl, hx5⟩
  generalize w.heap.size = g0 at *
  have hb5 := hb.ext hx5
  have c0 := hb5.cell 0
  have c1 := hb5.cell 1
  have c2 := hb5.cell 2
  have c3 := hb5.cell 3
  have c4 := hb5.cell 4
  have c5 := hb5.cell 5
  have c6 := hb5.cell 6
  have c7 := hb5.cell 7
  have c8 := hb5.cell 8
  have c9 := hb5.cell 9
  have c10 := hb5.cell 10
  have c11 := hb5.cell 11
  have HR := hid (fun (w' : World) (he : Ext w5 w') => (⟨(hb5.ext he).cell 0, (hb5.ext he).cell 1, (hb5.ext he).cell 2, (hb5.ext he).cell 3, (hb5.ext he).cell 4, (hb5.ext he).cell 5, (hb5.ext he).cell 6, (hb5.ext he).cell 7, (hb5.ext he).cell 8, (hb5.ext he).cell 9, (hb5.ext he).cell 10, (hb5.ext he).cell 11, he⟩ : w'.cell? ⟨g0 + 1 + 1 + 1, 0, none⟩ = some (.int .i64 0) ∧ w'.cell? ⟨g0 + 1 + 1 + 1, 1, none⟩ = some (.int .i64 0) ∧ w'.cell? ⟨g0 + 1 + 1 + 1, 2, none⟩ = some (.int .i64 0) ∧ w'.cell? ⟨g0 + 1 + 1 + 1, 3, none⟩ = some (.slice (some ⟨g0, 0, none⟩) 1 1) ∧ w'.cell? ⟨g0 + 1 + 1 + 1, 4, none⟩ = some (.int .i64 0) ∧ w'.cell? ⟨g0 + 1 + 1 + 1, 5, none⟩ = some (.int .i64 0) ∧ w'.cell? ⟨g0 + 1 + 1 + 1, 6, none⟩ = some (.int .i64 0) ∧ w'.cell? ⟨g0 + 1 + 1 + 1, 7, none⟩ = some (.slice (some ⟨g0 + 1, 0, none⟩) 1 1) ∧ w'.cell? ⟨g0 + 1 + 1 + 1, 8, none⟩ = some (.int .i64 0) ∧ w'.cell? ⟨g0 + 1 + 1 + 1, 9, none⟩ = some (.int .i64 2) ∧ w'.cell? ⟨g0 + 1 + 1 + 1, 10, none⟩ = some (.int .i64 0) ∧ w'.cell? ⟨g0 + 1 + 1 + 1, 11, none⟩ = some (.slice (some ⟨g0 + 1 + 1, 0, none⟩) 1 1) ∧ Ext w5 w'))
  have xd : Ext w5 w5.drew := Below.drew (Below.refl _ _)
  have xa := Ext.trans xd (ext_alloc w5.drew (.cells #[.int .i64 0, .int .i64 0, .int .i64 0, .slice (some ⟨g0, 0, none⟩) 1 1, .int .i64 0, .int .i64 0, .int .i64 0, .slice (some ⟨g0 + 1, 0, none⟩) 1 1, .int .i64 0, .int .i64 5, .int .i64 0, .slice none 0 0, .int .i64 0, .int .i64 2, .int .i64 0, .slice (some ⟨g0 + 1 + 1, 0, none⟩) 1 1] 119))
  have l4 := lit_ev4 w5.drew _ _ _ _ 0 0 5 2 _ _ _ _ ((sa.ext hx5).ext xd) ((sb.ext hx5).ext xd) (isSlice_nil repByte _ _) ((sc.ext hx5).ext xd)
  have HA2 := hid (accepts_any _ liveF true _ l4 (by decide) (by decide))
  rw [liveF_acc] at HA2
  clear l4 sa sb sc hb hb5
  go_wp2_with fail
  go_region_held3 (fun w' => w'.cell? ⟨g0 + 1 + 1 + 1, 0, none⟩ = some (.int .i64 0) ∧ w'.cell? ⟨g0 + 1 + 1 + 1, 1, none⟩ = some (.int .i64 0) ∧ w'.cell? ⟨g0 + 1 + 1 + 1, 2, none⟩ = some (.int .i64 0) ∧ w'.cell? ⟨g0 + 1 + 1 + 1, 3, none⟩ = some (.slice (some ⟨g0, 0, none⟩) 1 1) ∧ w'.cell? ⟨g0 + 1 + 1 + 1, 4, none⟩ = some (.int .i64 0) ∧ w'.cell? ⟨g0 + 1 + 1 + 1, 5, none⟩ = some (.int .i64 0) ∧ w'.cell? ⟨g0 + 1 + 1 + 1, 6, none⟩ = some (.int .i64 0) ∧ w'.cell? ⟨g0 + 1 + 1 + 1, 7, none⟩ = some (.slice (some ⟨g0 + 1, 0, none⟩) 1 1) ∧ w'.cell? ⟨g0 + 1 + 1 + 1, 8, none⟩ = some (.int .i64 0) ∧ w'.cell? ⟨g0 + 1 + 1 + 1, 9, none⟩ = some (.int .i64 2) ∧ w'.cell? ⟨g0 + 1 + 1 + 1, 10, none⟩ = some (.int .i64 0) ∧ w'.cell? ⟨g0 + 1 + 1 + 1, 11, none⟩ = some (.slice (some ⟨g0 + 1 + 1, 0, none⟩) 1 1) ∧ Ext w5 w')
    (first | with_reducible exact HR.out _ xd | exact HR.out _ xa | exact HR.out _ xf)
    (first
      | (go_at_call 61; refine HA2.out.mono ?_; rintro e w6 ⟨rfl, hx6⟩; have xf := Ext.trans xa hx6))
  go_wp2
  go_ret
  exact ⟨rfl, Ext.trans (Ext.trans hx hx5) xf⟩
end
end Go.Proofs.Ytjchobncmogcpaa
