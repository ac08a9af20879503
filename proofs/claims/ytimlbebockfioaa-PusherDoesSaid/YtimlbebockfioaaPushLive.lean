/- The walk of the pusher's laws' live. -/
import Derived.Lib.SlBytesConst
import Derived.Test.YtimlbebockfioaaPushL
import Derived.Test.YtimlbebockfioaaPushAct
namespace Go.Proofs.Ytimlbebockfioaa
open Go.RowKit

def cfgPL : Cfg := ⟨0, 1, 5, 1, 4, 4, 0⟩
def plz : Ps := ⟨[], 0, 0, []⟩
def pl1 : Ps := ⟨[[97]], 0, 1, [⟨0, 1, 1⟩]⟩
def pl2 : Ps := ⟨[[97], [98]], 0, 1, [⟨0, 1, 1⟩]⟩
def pl3 : Ps := ⟨[[97], [98]], 1, 1, []⟩
theorem pl_check : checkV 1 5 1 = 0 := by decide
theorem cfg_okP {c : Cfg} (hb : checkV c.w c.m c.l = 0) (h1 : 1 ≤ c.room) (h2 : c.room ≤ 16) : c.Ok := by
  unfold checkV at hb
  split at hb
  · omega
  · split at hb
    · omega
    · split at hb
      · omega
      · exact ⟨by omega, by omega, by omega, by omega, by omega, by omega, h1, h2⟩
theorem cfgPL_ok : CfgP cfgPL 1 4 := ⟨cfg_okP (c := cfgPL) pl_check (by decide) (by decide), rfl, rfl, by decide, by decide⟩
theorem pl_send1 : sendS 1 plz [97] = pl1 := by kernel_rfl
theorem pl_send2 : sendS 1 pl1 [98] = pl2 := by kernel_rfl
theorem pl_take : takeP 1 5 pl2 true 1 0 = some pl3 := by kernel_rfl
theorem pl_out1 : (onL 1 ⟨plz.acc ++ [[97]], plz.base, plz.next, plz.T⟩).map (slideOf 5 ⟨plz.acc ++ [[97]], plz.base, plz.next, plz.T⟩) = [⟨false, 0, 0, [97]⟩] := by kernel_rfl
theorem pl_out2 : (onL 1 ⟨pl1.acc ++ [[98]], pl1.base, pl1.next, pl1.T⟩).map (slideOf 5 ⟨pl1.acc ++ [[98]], pl1.base, pl1.next, pl1.T⟩) = [] := by kernel_rfl
theorem pl_out3 : (onL 1 pl3).map (slideOf 5 pl3) = [⟨false, 1, 0, [98]⟩] := by kernel_rfl
theorem plz_ok {W R : Nat} {most : Int} : PsOk W R most ⟨[], 0, 0, []⟩ := ⟨⟨by simp [Asc], fun t ht => by simp at ht⟩, Nat.le_refl _, Nat.le_refl _, by simp, by simp, fun t ht => by simp at ht, fun h => by simp at h, fun x hx => by simp at hx⟩
/-- What was made just now, behind a call of an object that others hold nothing of. -/
theorem IsSlice.keepHeld {α : Type} {r : Rep α} {X : Nat → Prop} {w w' : World} {v : Value} {xs : List α} (h : IsSlice r w X v xs) (hX : ∀ k, X k → k < w.heap.size) (ho : Out (fun k => ¬ X k) w w') : IsSlice r w' X v xs :=
  h.keep fun b hb => ⟨hb, fun o => ho.cell (hX b hb) (fun hn => hn hb) o⟩

set_option maxRecDepth 100000
section
theorem conv_const2 (W : World) (C : Array Value) (n c g : Nat) (hg : g = W.heap.size) : (convert 39 39 (.slice (some ⟨g, 0, none⟩) n c)).run Try.prog (W.alloc (.cells C 5)) = .ok (.slice (some ⟨g, 0, none⟩) n c) (W.alloc (.cells C 5 (C.size, C.size + 1))) := by
  subst hg
  exact Lib.run_convert_bytes_const (P := Try.prog) W 39 5 C n c Try.underlying39 Try.underlying5
theorem lit_byte2 (W W' : World) (c : UInt8) (g : Nat) (hg : g = W.heap.size) (hW : W' = W.alloc (.cells #[.int .u8 (c.toNat : Int)] 5 (1, 2))) : IsSlice repByte W' (all W') (.slice (some ⟨g, 0, none⟩) 1 1) [c] := by
  subst hW
  exact isSlice_lits (r := repByte) (xs := [c]) (us := [.int .u8 (c.toNat : Int)]) rfl ⟨rfl, trivial⟩ (by simp [maxLen]) rfl hg
set_option maxHeartbeats 1000000 in
theorem pushLive_any (w : World) : Calls Try.prog 10 #[] w fun e w' => e = .returned (.bool true) ∧ Ext w w' := by
  have HN := hid (newPs_any w cfgPL (by decide) pl_check (by decide) (by decide) (by decide) (by decide))
  have HS := hid slidesSame_any
  have hcv := conv_const2
  go_enter Try.func10, Try.ntmps10
  go_wp2_with (first
    | (go_at_call 7; refine HN.out.mono ?_; rintro e w1 ⟨gp, gt, b, rfl, hp1, hx1, hg1, hg2, hg3⟩))
  have hP1 : PsL (fun q => q < w.heap.size) w1 gp gt b cfgPL 1 4 plz := ⟨⟨_, hp1, fun q hq hX => by rcases hq with e | e | e | e; omega; omega; omega; exact e⟩, plz_ok, fun k hk => Nat.lt_of_lt_of_le hk hx1.size⟩
  have hb1 := lit_byte2 w1 _ 97 w1.heap.size rfl rfl
  have hxb1 := ext_alloc w1 (.cells #[.int .u8 97] 5 (1, 2))
  have HT1 := hid (psl_send (hP1.later (ext_alloc w1 (.cells #[.int .u8 97] 5 (1, 2)))) cfgPL_ok (by decide) _ [97] hb1 (by decide) (by decide))
  clear hb1
  go_at_call 14
  refine HT1.out.mono ?_
  rintro e w2 ⟨u1, rfl, Y1, hY1, hu1, hP2, ho2⟩
  have e1 := pl_out1
  rw [show (5 : Int) = cfgPL.m from rfl] at e1
  rw [e1] at hu1
  rw [pl_send1] at hP2
  have hb2 := lit_byte2 w2 _ 98 w2.heap.size rfl rfl
  have hxb2 := ext_alloc w2 (.cells #[.int .u8 98] 5 (1, 2))
  have HT2 := hid (psl_send (hP2.later hxb2) cfgPL_ok (by decide) _ [98] hb2 (by decide) (by decide))
  clear hb2
  go_wp2_with fail
  go_at_call 14
  refine HT2.out.mono ?_
  rintro e w3 ⟨u2, rfl, Y2, hY2, hu2, hP3, ho3⟩
  have e2 := pl_out2
  rw [show (5 : Int) = cfgPL.m from rfl] at e2
  rw [e2] at hu2
  rw [pl_send2] at hP3
  have HT3 := hid (psl_take hP3 cfgPL_ok (by decide) true 1 0 none 0 0 (by decide))
  go_wp2_with fail
  go_at_call 18
  refine HT3.out.mono ?_
  intro e w4 ht
  rw [show takeP 1 cfgPL.m pl2 true 1 (0 : Int).toNat = some pl3 from pl_take] at ht
  obtain ⟨u3, rfl, Y3, hY3, hu3, hP4, ho4⟩ := ht
  have e3 := pl_out3
  rw [show (5 : Int) = cfgPL.m from rfl] at e3
  rw [e3] at hu3
  have x12 : Ext w w2 := ho2.ext_held (Ext.trans hx1 hxb1) fun q hq => hq
  have x23 : Ext w w3 := ho3.ext_held (Ext.trans x12 hxb2) fun q hq => .inl hq
  have x34 : Ext w w4 := ho4.ext_held x23 fun q hq => .inl (.inl hq)
  have hu1c := ((hu1.keepHeld (fun k hk => (hY1 k hk).2) ((Out.of_ext hxb2).mono fun k hk => hk)).keepHeld (fun k hk => Nat.lt_of_lt_of_le (hY1 k hk).2 hxb2.size) (ho3.mono fun k hk hy => hk (.inr hy))).keepHeld (fun k hk => hP3.lt k (.inl (.inr hk))) (ho4.mono fun k hk hy => hk (.inl (.inr hy)))
  have hu1d : IsSlice repSl w4 (all w4) u1 [⟨false, 0, 0, [97]⟩] := hu1c.keep fun k hk => ⟨hP4.lt k (.inl (.inl (.inr hk))), fun _ => rfl⟩
  have hu3d : IsSlice repSl w4 (all w4) u3 [⟨false, 1, 0, [98]⟩] := hu3.keep fun k hk => ⟨(hY3 k hk).2, fun _ => rfl⟩
  obtain ⟨A2, c2, rfl⟩ := hu2.shape
  clear hu1 hu1c hu2 hu3 ho2 ho3 ho4 hP1 hP2 hP3 hP4 HT1 HT2 HT3 HN e1 e2 e3 hxb1 hxb2 hp1 hY1 hY2 hY3
  go_wp2_with (go_at_call 9; refine (anum_any _ _).mono ?_; rintro e w5 ⟨rfl, rfl⟩)
  go_at_call 30
  have hA := lit_byte2 w4 _ 97 w4.heap.size rfl rfl
  have xA := ext_alloc w4 (.cells #[.int .u8 97] 5 (1, 2))
  obtain ⟨W1, hW1⟩ : ∃ W1, W1 = w4.alloc (.cells #[.int .u8 97] 5 (1, 2)) := ⟨_, rfl⟩
  have hs1 : W1.heap.size = w4.heap.size + 1 := by rw [hW1]; simp
  have hA' : IsSlice repByte W1 (all W1) (.slice (some ⟨w4.heap.size, 0, none⟩) 1 1) [97] := by rw [hW1]; exact hA
  rw [← hW1] at xA ⊢
  have hL1 := (own_lit1 (r := repSl) (base := 0) (w := W1) (e := 41) (x := ⟨false, 0, 0, [97]⟩) (cs := #[.bool false, .int .i64 0, .int .u64 0, .slice (some ⟨w4.heap.size, 0, none⟩) 1 1]) (Nat.zero_le _) ⟨_, rfl, hA'.keep fun k hk => ⟨⟨Nat.zero_le _, hk⟩, fun _ => rfl⟩⟩).slice
  rw [hs1] at hL1
  have xB := ext_alloc W1 (.cells #[.bool false, .int .i64 0, .int .u64 0, .slice (some ⟨w4.heap.size, 0, none⟩) 1 1] 41)
  refine (HS.out _ _ _ _ (hu1d.ext (Ext.trans xA xB)) hL1).mono ?_
  rintro e w5 ⟨rfl, hx5⟩
  have x45 := Ext.trans (Ext.trans xA xB) hx5
  clear hA hA' hL1 xA xB hs1
  go_wp2_with fail
  go_at_call 30
  have hA := lit_byte2 w5 _ 98 w5.heap.size rfl rfl
  have xA := ext_alloc w5 (.cells #[.int .u8 98] 5 (1, 2))
  obtain ⟨W3, hW3⟩ : ∃ W3, W3 = w5.alloc (.cells #[.int .u8 98] 5 (1, 2)) := ⟨_, rfl⟩
  have hs1 : W3.heap.size = w5.heap.size + 1 := by rw [hW3]; simp
  have hA' : IsSlice repByte W3 (all W3) (.slice (some ⟨w5.heap.size, 0, none⟩) 1 1) [98] := by rw [hW3]; exact hA
  rw [← hW3] at xA ⊢
  have hL1 := (own_lit1 (r := repSl) (base := 0) (w := W3) (e := 41) (x := ⟨false, 1, 0, [98]⟩) (cs := #[.bool false, .int .i64 1, .int .u64 0, .slice (some ⟨w5.heap.size, 0, none⟩) 1 1]) (Nat.zero_le _) ⟨_, rfl, hA'.keep fun k hk => ⟨⟨Nat.zero_le _, hk⟩, fun _ => rfl⟩⟩).slice
  rw [hs1] at hL1
  have xB := ext_alloc W3 (.cells #[.bool false, .int .i64 1, .int .u64 0, .slice (some ⟨w5.heap.size, 0, none⟩) 1 1] 41)
  refine (HS.out _ _ _ _ (hu3d.ext (Ext.trans x45 (Ext.trans xA xB))) hL1).mono ?_
  rintro e w6 ⟨rfl, hx6⟩
  have x46 := Ext.trans x45 (Ext.trans (Ext.trans xA xB) hx6)
  clear hA hA' hL1 xA xB hs1
  go_wp2_with fail
  go_ret
  exact ⟨rfl, Ext.trans x34 x46⟩
end
end Go.Proofs.Ytimlbebockfioaa
