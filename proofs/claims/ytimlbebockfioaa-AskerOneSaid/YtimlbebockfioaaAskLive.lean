/- The walk of the asker's laws' live. -/
import Derived.Lib.SlBytesConst
import Derived.Test.YtimlbebockfioaaAskNew
import Derived.Test.YtimlbebockfioaaAskOk
import Derived.Test.YtimlbebockfioaaAskAct
namespace Go.Proofs.Ytimlbebockfioaa
open Go.RowKit

theorem IsSlice.keepCol {α : Type} {r : Rep α} {w0 w w' : World} {col col' : Nat → Nat} {v : Value} {xs : List α} (h : IsSlice r w (fun k => Proofs.Ytimlbebockfioaa.fresh w0 w k ∧ col k = 0) v xs) (ho : Out (fun k => col k ≠ 0) w w') (hc : ∀ k, col' k = col k ∨ Proofs.Ytimlbebockfioaa.fresh w w' k) : IsSlice r w' (fun k => Proofs.Ytimlbebockfioaa.fresh w0 w' k ∧ col' k = 0) v xs :=
  h.keep fun k hk => ⟨⟨⟨hk.1.1, Nat.lt_of_lt_of_le hk.1.2 ho.size⟩, (hc k).elim (fun e => e.trans hk.2) fun e => by have := e.1; have := hk.1.2; omega⟩, fun o => ho.cell hk.1.2 (fun hn => hn hk.2) o⟩
def cfgKL : Cfg := ⟨0, 0, 0, 0, 4, 2, 0⟩
def kl0 : Ak := ⟨[], [], [5], [], 0, 0, 0, false, []⟩
def kl1 : Ak := ⟨[[97]], [⟨0, 1, 1⟩], [5], [5], 1, 5, 0, false, []⟩
def kl2 : Ak := ⟨[[97]], [⟨0, 1, 1⟩], [5], [5], 1, 5, 9, true, []⟩
def kl3 : Ak := ⟨[], [], [5], [5], 1, 0, 0, false, [2]⟩
theorem kl_send : sendK kl0 [97] = (kl1, [⟨0, 5, 0, 0, []⟩]) := by kernel_rfl
theorem kl_take : takeK kl1 ⟨1, 5, 8, 9, []⟩ = (kl2, [⟨2, 5, 8, 0, [97]⟩]) := by kernel_rfl
theorem kl_take2 : takeK kl2 ⟨1, 5, 1, 2, []⟩ = (kl3, []) := by kernel_rfl
theorem kl_poll : pollK kl3 0 = (2, 0) := by decide +kernel
theorem kl0_ok (D : List Int) (hw : ∀ d ∈ D, (Lit.int .u64 d).wf = true) {most room : Int} (hr : 0 ≤ room) : AkOk most room ⟨[], [], D, [], 0, 0, 0, false, []⟩ := ⟨⟨by simp [Asc], fun t ht => by simp at ht⟩, by simp, fun t ht => by simp at ht, rfl, hr, fun x hx => by simp at hx, hw, by simp, by simp⟩
theorem low_after {col col' : Nat → Nat} {w w' : World} {n : Nat} (h1 : ∀ k, col' k = col k ∨ Proofs.Ytimlbebockfioaa.fresh w w' k) (hn : ∀ q, col q ≠ 0 → n ≤ q) (hw : n ≤ w.heap.size) : ∀ q, col' q ≠ 0 → n ≤ q := fun q hq => (h1 q).elim (fun e => hn q (e ▸ hq)) fun e => Nat.le_trans hw e.1
theorem ext_low {col : Nat → Nat} {w0 w w' : World} (ho : Out (fun k => col k ≠ 0) w w') (hx : Ext w0 w) (hn : ∀ q, col q ≠ 0 → w0.heap.size ≤ q) : Ext w0 w' := ho.ext_new hx hn
set_option maxRecDepth 100000
section
theorem conv_const3 (W : World) (C : Array Value) (n c g : Nat) (hg : g = W.heap.size) : (convert 39 39 (.slice (some ⟨g, 0, none⟩) n c)).run Try.prog (W.alloc (.cells C 5)) = .ok (.slice (some ⟨g, 0, none⟩) n c) (W.alloc (.cells C 5 (C.size, C.size + 1))) := by
  subst hg
  exact Lib.run_convert_bytes_const (P := Try.prog) W 39 5 C n c Try.underlying39 Try.underlying5
theorem lit_byte3 (W W' : World) (c : UInt8) (g : Nat) (hg : g = W.heap.size) (hW : W' = W.alloc (.cells #[.int .u8 (c.toNat : Int)] 5 (1, 2))) : IsSlice repByte W' (all W') (.slice (some ⟨g, 0, none⟩) 1 1) [c] := by
  subst hW
  exact isSlice_lits (r := repByte) (xs := [c]) (us := [.int .u8 (c.toNat : Int)]) rfl ⟨rfl, trivial⟩ (by simp [maxLen]) rfl hg
set_option maxHeartbeats 1000000 in
theorem askLive_any (w : World) : Calls Try.prog 23 #[] w fun e w' => e = .returned (.bool true) ∧ Ext w w' := by
  have HS := hid toksSame_any
  have hcv := conv_const3
  have hd0 := (own_lit1 (r := repInt .u64) (base := w.heap.size) (w := w) (e := 22) (x := 5) (cs := #[.int .u64 5]) (Nat.le_refl _) ⟨rfl, by decide⟩).slice
  have hxd := ext_alloc w (.cells #[.int .u64 5] 22)
  have HN := hid (newSrc_any _ [5] _ hd0 (by decide))
  clear hd0
  go_enter Try.func23, Try.ntmps23
  go_wp2_with (first
    | (go_at_call 20; refine HN.out.mono ?_; rintro e w1 ⟨gs, FD, rfl, hs1, hf1, hl1, hx1⟩; have HA := hid (newAk_any w1 cfgKL gs FD [5] (by decide) (by decide) (by decide) (by decide) hs1))
    | (go_at_call 19; refine HA.out.mono ?_; rintro e w2 ⟨ga, gq, gt, b, col0, rfl, hA0, hc0, hx2⟩))
  have hzd := hxd.size
  have hz1 := hx1.size
  have hlow0 : ∀ q, col0 q ≠ 0 → w.heap.size ≤ q := fun q hq => (hc0 q hq).elim (fun e => by have := e.1; omega) fun e => e.elim (fun e => by omega) fun e => by have := (hf1 q e).1; omega
  have x02 := Ext.trans (Ext.trans hxd hx1) hx2
  have hA0' : AkAt col0 w2 ga gq gt b gs 4 2 kl0 := hA0
  have ok0 : AkOk 4 2 kl0 := kl0_ok [5] (fun d hd => by rw [List.mem_singleton.1 hd]; decide) (by decide)
  have hb1 := lit_byte3 w2 _ 97 w2.heap.size rfl rfl
  have hxb1 := ext_alloc w2 (.cells #[.int .u8 97] 5 (1, 2))
  have HT1 := hid (akSend_any (hA0'.ext hxb1) ok0 (by decide) (by decide) _ [97] hb1 (by decide) (by decide))
  clear hb1
  go_at_call 25
  refine HT1.out.mono ?_
  rintro e w3 ⟨u1, rfl, col1, hA1, hc1, hu1, ho1⟩
  have ok1 := send_okK ok0 (by decide) [97] (by decide) (by decide)
  rw [kl_send] at hA1 hu1 ok1
  have x03 := ext_low ho1 (Ext.trans x02 hxb1) hlow0
  have hlow1 := low_after hc1 hlow0 (Ext.trans x02 hxb1).size
  have HT2 := hid (akTake_any (s := kl1) hA1 ok1 (by decide) (by decide) ⟨1, 5, 8, 9, []⟩ none 0 0)
  go_wp2_with fail
  go_at_call 27
  refine HT2.out.mono ?_
  rintro e w4 ⟨u2, rfl, col2, hA2, hc2, hu2, ho2⟩
  have ok2 := take_okK (s := kl1) ok1 (by decide) ⟨1, 5, 8, 9, []⟩
  rw [kl_take] at hA2 hu2 ok2
  have x04 := ext_low ho2 x03 hlow1
  have hlow2 := low_after hc2 hlow1 x03.size
  have HT3 := hid (akTake_any (s := kl2) hA2 ok2 (by decide) (by decide) ⟨1, 5, 1, 2, []⟩ none 0 0)
  go_wp2_with fail
  go_at_call 27
  refine HT3.out.mono ?_
  rintro e w5 ⟨u3, rfl, col3, hA3, hc3, hu3, ho3⟩
  have ok3 := take_okK (s := kl2) ok2 (by decide) ⟨1, 5, 1, 2, []⟩
  rw [kl_take2] at hA3 ok3
  have x05 := ext_low ho3 x04 hlow2
  have HT4 := hid (akPoll_any (s := kl3) hA3 ok3 0)
  rw [kl_poll] at HT4
  have hu1d : IsSlice repTk w5 (all w5) u1 [⟨0, 5, 0, 0, []⟩] := ((hu1.keepCol ho2 hc2).keepCol ho3 hc3).keep fun k hk => ⟨hk.1.2, fun _ => rfl⟩
  have hu2d : IsSlice repTk w5 (all w5) u2 [⟨2, 5, 8, 0, [97]⟩] := (hu2.keepCol ho3 hc3).keep fun k hk => ⟨hk.1.2, fun _ => rfl⟩
  clear hu1 hu2 hu3 ho1 ho2 ho3 hA1 hA2 hA3 hA0 hA0' HT1 HT2 HT3 HN HA hxb1 hc0 hc1 hc2 hc3 hlow0 hlow1 hlow2 hs1 hf1
  go_wp2_with fail
  go_at_call 28
  refine HT4.out.mono ?_
  rintro e w6 ⟨rfl, rfl⟩
  go_wp2_with (go_at_call 22; refine (knum_any _ _).mono ?_; rintro e w7 ⟨rfl, rfl⟩)
  go_at_call 50
  have hL1 := (own_lit1 (r := repTk) (base := 0) (w := w5) (e := 69) (x := ⟨0, 5, 0, 0, []⟩) (cs := #[.int .i64 0, .int .u64 5, .int .u64 0, .int .u64 0, .slice none 0 0]) (Nat.zero_le _) ⟨_, rfl, isSlice_nil _ _ _⟩).slice
  have xB := ext_alloc w5 (.cells #[.int .i64 0, .int .u64 5, .int .u64 0, .int .u64 0, .slice none 0 0] 69)
  refine (HS.out _ _ _ _ (hu1d.ext xB) hL1).mono ?_
  rintro e w7 ⟨rfl, hx7⟩
  have x57 := Ext.trans xB hx7
  clear hL1 xB
  go_wp2_with fail
  go_at_call 50
  have hA := lit_byte3 w7 _ 97 w7.heap.size rfl rfl
  have xA := ext_alloc w7 (.cells #[.int .u8 97] 5 (1, 2))
  obtain ⟨W3, hW3⟩ : ∃ W3, W3 = w7.alloc (.cells #[.int .u8 97] 5 (1, 2)) := ⟨_, rfl⟩
  have hs1 : W3.heap.size = w7.heap.size + 1 := by rw [hW3]; simp
  have hA' : IsSlice repByte W3 (all W3) (.slice (some ⟨w7.heap.size, 0, none⟩) 1 1) [97] := by rw [hW3]; exact hA
  rw [← hW3] at xA ⊢
  have hL1 := (own_lit1 (r := repTk) (base := 0) (w := W3) (e := 69) (x := ⟨2, 5, 8, 0, [97]⟩) (cs := #[.int .i64 2, .int .u64 5, .int .u64 8, .int .u64 0, .slice (some ⟨w7.heap.size, 0, none⟩) 1 1]) (Nat.zero_le _) ⟨_, rfl, hA'.keep fun k hk => ⟨⟨Nat.zero_le _, hk⟩, fun _ => rfl⟩⟩).slice
  rw [hs1] at hL1
  have xB := ext_alloc W3 (.cells #[.int .i64 2, .int .u64 5, .int .u64 8, .int .u64 0, .slice (some ⟨w7.heap.size, 0, none⟩) 1 1] 69)
  refine (HS.out _ _ _ _ (hu2d.ext (Ext.trans x57 (Ext.trans xA xB))) hL1).mono ?_
  rintro e w8 ⟨rfl, hx8⟩
  have x58 := Ext.trans x57 (Ext.trans (Ext.trans xA xB) hx8)
  clear hA hA' hL1 xA xB hs1
  go_wp2_with fail
  go_ret
  exact ⟨rfl, Ext.trans x05 x58⟩
end
end Go.Proofs.Ytimlbebockfioaa
