/- The walk of the puller's law's live. -/
import Derived.Lib.SlBytesConst
import Derived.Test.YtjchobncmogcpaaRecv
import Derived.Test.YtjchobncmogcpaaSlide
namespace Go.Proofs.Ytjchobncmogcpaa
open Go.RowKit

def cfgL : Cfg := ⟨0, 2, 9, 2, 0, 4, 0⟩
def puL1 : Pu := ⟨0, 0, [], [(1, [98])]⟩
def puL2 : Pu := ⟨2, 0, [[97], [98]], []⟩
def puL3 : Pu := ⟨2, 1, [[98]], []⟩
theorem live_take1 : takeS 2 9 4 ⟨0, 0, [], []⟩ 1 [98] = puL1 := by kernel_rfl
theorem live_take2 : takeS 2 9 4 puL1 0 [97] = puL2 := by kernel_rfl
theorem live_tell1 : tellS cfgL puL1 = ⟨true, 0, 2, []⟩ := by kernel_rfl
theorem live_tell2 : tellS cfgL puL2 = ⟨true, 2, 0, []⟩ := by kernel_rfl
theorem live_recv : recvS 4 puL2 = some ([97], puL3) := by kernel_rfl
theorem live_check : checkV 2 9 2 = 0 := by decide
theorem cfgL_ok : cfgL.Ok := cfg_ok (c := cfgL) live_check (by decide) (by decide)

set_option maxRecDepth 100000
section
theorem conv_const (W : World) (C : Array Value) (n c g : Nat) (hg : g = W.heap.size) : (convert 33 33 (.slice (some ⟨g, 0, none⟩) n c)).run Try.prog (W.alloc (.cells C 5)) = .ok (.slice (some ⟨g, 0, none⟩) n c) (W.alloc (.cells C 5 (C.size, C.size + 1))) := by
  subst hg
  exact Lib.run_convert_bytes_const (P := Try.prog) W 33 5 C n c Try.underlying33 Try.underlying5
theorem lit_byte (W W' : World) (c : UInt8) (g : Nat) (hg : g = W.heap.size) (hW : W' = W.alloc (.cells #[.int .u8 (c.toNat : Int)] 5 (1, 2))) : IsSlice repByte W' (all W') (.slice (some ⟨g, 0, none⟩) 1 1) [c] := by
  subst hW
  exact isSlice_lits (r := repByte) (xs := [c]) (us := [.int .u8 (c.toNat : Int)]) rfl ⟨rfl, trivial⟩ (by simp [maxLen]) rfl hg
theorem pnum_any (x : Int) (w : World) : Calls Try.prog 15 #[.int .i64 x] w fun e w' => e = .returned (.int .i64 x) ∧ w = w' := by
  go_enter Try.func15, Try.ntmps15
  go_wp2
  go_ret
  exact ⟨rfl, rfl⟩
set_option maxHeartbeats 1000000 in
theorem pullLive_any (w : World) : Calls Try.prog 16 #[] w fun e w' => e = .returned (.bool true) ∧ Ext w w' := by
  have HN := hid (newP_any w cfgL (by decide) live_check (by decide) (by decide))
  have HT := hid (fun (X : Nat → Prop) (W : World) gp gq gm (s : Pu) (h : PuAt X W gp gq gm cfgL s) (hs : s.ent ≤ 100000) seq bt v data hv hd => take_any X W gp gq gm cfgL s h cfgL_ok hs seq bt v data hv hd)
  have HR := hid (fun (X : Nat → Prop) (W : World) gp gq gm (h : PuAt X W gp gq gm cfgL puL2) => recv_any X W gp gq gm cfgL puL2 h cfgL_ok (by decide) (by decide) [97] puL3 live_recv)
  have HS := hid slidesSame_any
  have hcv := conv_const
  go_enter Try.func16, Try.ntmps16
  go_wp2_with (first
    | (go_at_call 14; refine HN.out.mono ?_; rintro e w1 ⟨gp, gq, gm, rfl, hp1, hx1, hg1, hg2, hg3⟩))
  have hb1 := lit_byte w1 _ 98 w1.heap.size rfl rfl
  have hpa := hp1.ext (ext_alloc w1 (.cells #[.int .u8 98] 5 (1, 2)))
  have HT1 := hid (HT.out _ _ gp gq gm _ hpa (by decide) 1 0 _ [98] hb1 (by decide))
  go_at_call 19
  refine HT1.out.mono ?_
  rintro e w2 ⟨u1, rfl, hu1, hp2, ho2⟩
  have e1 : takeS cfgL.w cfgL.m cfgL.room.toNat ⟨0, 0, [], []⟩ 1 [98] = puL1 := live_take1
  rw [e1] at hu1 hp2
  rw [live_tell1] at hu1
  have hb2 := lit_byte w2 _ 97 w2.heap.size rfl rfl
  have hpb := hp2.ext (ext_alloc w2 (.cells #[.int .u8 97] 5 (1, 2)))
  have HT2 := hid (HT.out _ _ gp gq gm _ hpb (by decide) 0 0 _ [97] hb2 (by decide))
  go_wp2_with fail
  refine HT2.out.mono ?_
  rintro e w3 ⟨u2, rfl, hu2, hp3, ho3⟩
  have e2 : takeS cfgL.w cfgL.m cfgL.room.toNat puL1 0 [97] = puL2 := live_take2
  rw [e2] at hu2 hp3
  rw [live_tell2] at hu2
  have HR3 := hid (HR.out _ w3 gp gq gm hp3)
  go_wp2_with fail
  refine HR3.out.mono ?_
  rintro e w4 ⟨um, v, rfl, hum, hv, hp4, ho4⟩
  have hu1c := ((hu1.later (ext_alloc w2 (.cells #[.int .u8 97] 5 (1, 2)))).keepNew hpa.lt ho3).keepNew hpa.lt ho4
  have hu2c := hu2.keepNew hpb.lt ho4
  have hu1d := hu1c.any
  have hu2d := hu2c.any
  have humd := hum.any
  have hxx : Ext w w4 := ((((Out.of_ext (ext_alloc w1 (.cells #[.int .u8 98] 5 (1, 2)))).trans ho2).trans (Out.of_ext (ext_alloc w2 (.cells #[.int .u8 97] 5 (1, 2))))).trans (ho3.trans ho4)).ext_new hx1 (fun b hb => by rcases hb with rfl | rfl | rfl <;> assumption)
  go_wp2_with (go_at_call 15; refine (pnum_any _ _).mono ?_; rintro e w5 ⟨rfl, rfl⟩)
  go_at_call 24
  have hL1 := (own_lit1 (r := repSl) (base := 0) (w := w4) (e := 42) (x := ⟨true, 0, 2, []⟩) (cs := #[.bool true, .int .i64 0, .int .u64 2, .slice none 0 0]) (Nat.zero_le _) ⟨.slice none 0 0, rfl, isSlice_nil _ _ _⟩).slice
  have x5 := ext_alloc w4 (.cells #[.bool true, .int .i64 0, .int .u64 2, .slice none 0 0] 42)
  refine (HS.out _ _ _ _ (hu1d.ext x5) hL1).mono ?_
  rintro e w5 ⟨rfl, hx5⟩
  have x45 := Ext.trans x5 hx5
  go_wp2_with fail
  have hL2 := (own_lit1 (r := repSl) (base := 0) (w := w5) (e := 42) (x := ⟨true, 2, 0, []⟩) (cs := #[.bool true, .int .i64 2, .int .u64 0, .slice none 0 0]) (Nat.zero_le _) ⟨.slice none 0 0, rfl, isSlice_nil _ _ _⟩).slice
  have x6 := ext_alloc w5 (.cells #[.bool true, .int .i64 2, .int .u64 0, .slice none 0 0] 42)
  refine (HS.out _ _ _ _ (hu2d.ext (Ext.trans x45 x6)) hL2).mono ?_
  rintro e w6 ⟨rfl, hx6⟩
  have x46 := Ext.trans (Ext.trans x45 x6) hx6
  have ks := run_str (P := Try.prog) 33 5 9 Try.underlying33 Try.underlying5 Try.underlying9 (humd.ext x46)
  have hbs : bstr [97] = ⟨#[97]⟩ := rfl
  rw [hbs] at ks
  go_wp2
  go_ret
  exact ⟨rfl, Ext.trans hxx x46⟩
end
end Go.Proofs.Ytjchobncmogcpaa
