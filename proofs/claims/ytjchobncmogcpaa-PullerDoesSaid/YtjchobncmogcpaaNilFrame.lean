/- PullerNil as its frame asks for it. -/
import Derived.Test.YtjchobncmogcpaaPullNil
import Derived.Test.YtjchobncmogcpaaCfgFrame
namespace Go.Proofs.Ytjchobncmogcpaa
open Go.RowKit

theorem opens_sl {P : Program} {t : TypeId} {f0 f1 f2 f3 : Field} (hs : P.underlying t = some (.struct #[f0, f1, f2, f3])) (hc : P.cellsOf t = 4)
    (o0 : f0.offset = 0) (o1 : f1.offset = 1) (o2 : f2.offset = 2) (o3 : f3.offset = 3) (c0 : P.cellsOf f0.type = 1) (c1 : P.cellsOf f1.type = 1) (c2 : P.cellsOf f2.type = 1) (c3 : P.cellsOf f3.type = 1)
    (h0 : Opens P f0.type repBool) (h1 : Opens P f1.type (repInt .i64)) (h2 : Opens P f2.type (repInt .u64)) (h3 : Opens P f3.type (repSlice repByte)) : Opens P t repSl := by
  intro H enc W fuel cs x h
  obtain ⟨xs, n, _, _, hl, hxl, hf⟩ := DataW.trod_struct hs h
  rw [hc] at hl
  match cs, hl with
  | [u, v, u', v'], _ =>
    have g0 := hf 0 f0 rfl
    have g1 := hf 1 f1 rfl
    have g2 := hf 2 f2 rfl
    have g3 := hf 3 f3 rfl
    rw [o0, c0] at g0
    rw [o1, c1] at g1
    rw [o2, c2] at g2
    rw [o3, c3] at g3
    match xs, (show xs.length = 4 from hxl) with
    | [x0, x1, x2, x3], _ =>
      obtain ⟨y0, hy0⟩ := h0 H enc W n _ _ g0
      obtain ⟨y1, hy1, w1⟩ := h1 H enc W n _ _ g1
      obtain ⟨y2, hy2, w2⟩ := h2 H enc W n _ _ g2
      obtain ⟨y3, z, hz, hy3⟩ := h3 H enc W n _ _ g3
      have hy0 : [u] = [Value.bool y0] := hy0
      simp at hy0 hy1 hy2 hz
      subst hy0 hy1 hy2 hz
      exact ⟨⟨y0, y1, y2, y3⟩, _, rfl, hy3⟩
theorem opens_slide : Opens Try.prog 42 repSl := opens_sl Try.underlying42 (by kernel_rfl) rfl rfl rfl rfl (by kernel_rfl) (by kernel_rfl) (by kernel_rfl) (by kernel_rfl) (opens_bool Try.underlying4) opens_i64 opens_u64 opens_bytes

theorem pullerNil_any (cs cs1 : Array Value) (c : Cfg) (x : Sl) (S S1 : Nat → Prop) (W : World) (h : repCfg.holds W S (Value.agg cs).cells.toList c) (h1 : repSl.holds W S1 (Value.agg cs1).cells.toList x) :
    Calls Try.prog 5 #[.agg cs, .agg cs1] W fun e w' => e = .returned (.bool true) ∧ Ext W w' := by
  obtain ⟨hcs, hw, _, _, _⟩ := h
  obtain ⟨l⟩ := cs
  have hl : l = cfgVals c := by simpa [Value.cells] using hcs
  subst hl
  obtain ⟨v, hv, hs⟩ := h1
  obtain ⟨l1⟩ := cs1
  have hl1 : l1 = [.bool x.ack, .int .i64 x.seq, .int .u64 x.bits, v] := by simpa [Value.cells] using hv
  subst hl1
  obtain ⟨A, m, rfl⟩ := hs.shape
  exact nilMain_any c hw x.ack x.seq x.bits _ ⟨_, _, _, rfl⟩ W
end Go.Proofs.Ytjchobncmogcpaa
