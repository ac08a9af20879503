/- Acts of an asker as arguments; AskerOne as its frame asks for it. -/
import Derived.Test.YtimlbebockfioaaAskOneB
import Derived.Test.YtimlbebockfioaaCfgFrame
namespace Go.Proofs.Ytimlbebockfioaa
open Go.RowKit

/-- A packet of the handshake. -/
theorem opens_tk {P : Program} {t : TypeId} {f0 f1 f2 f3 f4 : Field} (hs : P.underlying t = some (.struct #[f0, f1, f2, f3, f4])) (hc : P.cellsOf t = 5)
    (o0 : f0.offset = 0) (o1 : f1.offset = 1) (o2 : f2.offset = 2) (o3 : f3.offset = 3) (o4 : f4.offset = 4) (c0 : P.cellsOf f0.type = 1) (c1 : P.cellsOf f1.type = 1) (c2 : P.cellsOf f2.type = 1) (c3 : P.cellsOf f3.type = 1) (c4 : P.cellsOf f4.type = 1)
    (h0 : Opens P f0.type (repInt .i64)) (h1 : Opens P f1.type (repInt .u64)) (h2 : Opens P f2.type (repInt .u64)) (h3 : Opens P f3.type (repInt .u64)) (h4 : Opens P f4.type (repSlice repByte)) : Opens P t repTk := by
  intro H enc W fuel cs x h
  obtain ⟨xs, n, _, _, hl, hxl, hf⟩ := DataW.trod_struct hs h
  rw [hc] at hl
  match cs, hl with
  | [u0, u1, u2, u3, u4], _ =>
    have g0 := hf 0 f0 rfl
    have g1 := hf 1 f1 rfl
    have g2 := hf 2 f2 rfl
    have g3 := hf 3 f3 rfl
    have g4 := hf 4 f4 rfl
    rw [o0, c0] at g0
    rw [o1, c1] at g1
    rw [o2, c2] at g2
    rw [o3, c3] at g3
    rw [o4, c4] at g4
    match xs, (show xs.length = 5 from hxl) with
    | [x0, x1, x2, x3, x4], _ =>
      obtain ⟨y0, hy0, _⟩ := h0 H enc W n _ _ g0
      obtain ⟨y1, hy1, _⟩ := h1 H enc W n _ _ g1
      obtain ⟨y2, hy2, _⟩ := h2 H enc W n _ _ g2
      obtain ⟨y3, hy3, _⟩ := h3 H enc W n _ _ g3
      obtain ⟨y4, z4, hz4, hy4⟩ := h4 H enc W n _ _ g4
      simp at hy0 hy1 hy2 hy3 hz4
      subst hy0 hy1 hy2 hy3 hz4
      exact ⟨⟨y0, y1, y2, y3, y4⟩, _, rfl, hy4⟩
theorem opens_token : Opens Try.prog 69 repTk := opens_tk Try.underlying69 (by kernel_rfl) rfl rfl rfl rfl rfl (by kernel_rfl) (by kernel_rfl) (by kernel_rfl) (by kernel_rfl) (by kernel_rfl) opens_i64 opens_u64 opens_u64 opens_u64 opens_bytes
theorem opens_aa {P : Program} {t : TypeId} {f0 f1 f2 f3 : Field} (hs : P.underlying t = some (.struct #[f0, f1, f2, f3])) (hc : P.cellsOf t = 8)
    (o0 : f0.offset = 0) (o1 : f1.offset = 1) (o2 : f2.offset = 2) (o3 : f3.offset = 3) (c0 : P.cellsOf f0.type = 1) (c1 : P.cellsOf f1.type = 1) (c2 : P.cellsOf f2.type = 1) (c3 : P.cellsOf f3.type = 5)
    (h0 : Opens P f0.type (repInt .i64)) (h1 : Opens P f1.type (repInt .i64)) (h2 : Opens P f2.type (repSlice repByte)) (h3 : Opens P f3.type repTk) : Opens P t repAa := by
  intro H enc W fuel cs x h
  obtain ⟨xs, n, _, _, hl, hxl, hf⟩ := DataW.trod_struct hs h
  rw [hc] at hl
  match cs, hl with
  | [u, v, u', v0, v1, v2, v3, v4], _ =>
    have g0 := hf 0 f0 rfl
    have g1 := hf 1 f1 rfl
    have g2 := hf 2 f2 rfl
    have g3 := hf 3 f3 rfl
    rw [o0, c0] at g0
    rw [o1, c1] at g1
    rw [o2, c2] at g2
    rw [o3, c3] at g3
    match xs, (show xs.length = 4 from hxl) with
    | [x0, x1, x2, x3], _ =>
      obtain ⟨y0, hy0, w0⟩ := h0 H enc W n _ _ g0
      obtain ⟨y1, hy1, w1⟩ := h1 H enc W n _ _ g1
      obtain ⟨y2, z2, hz2, hy2⟩ := h2 H enc W n _ _ g2
      obtain ⟨y3, z3, hz3, hy3⟩ := h3 H enc W n _ _ g3
      simp at hy0 hy1 hz2 hz3
      obtain ⟨e0, e1, e2, e3, e4⟩ := hz3
      subst hy0 hy1 hz2 e0 e1 e2 e3 e4
      exact ⟨⟨y0, y1, y2, y3⟩, _, _, rfl, hy2, hy3⟩
theorem opens_acts27 : Opens Try.prog 58 (repSlice repAa) := opens_slice Try.underlying58 (by kernel_rfl) (by decide) (opens_aa Try.underlying71 (by kernel_rfl) rfl rfl rfl rfl (by kernel_rfl) (by kernel_rfl) (by kernel_rfl) (by kernel_rfl) opens_i64 opens_i64 opens_bytes opens_token)
theorem askerOne_any (cs : Array Value) (c : Cfg) (S : Nat → Prop) (vd : Value) (D : List Int) (v : Value) (acts : List Aa) (W : World) (h : repCfg.holds W S (Value.agg cs).cells.toList c) (od : IsSlice (repInt .u64) W (all W) vd D) {n : Nat} {A : Option Addr} {cd : Nat} (hvd : vd = .slice A n cd) (hz : n * 8 ≤ 140737488351232) (o1 : IsSlice repAa W (all W) v acts) :
    Calls Try.prog 5 #[.agg cs, vd, v] W fun e w' => e = .returned (.bool true) ∧ Ext W w' := by
  obtain ⟨hcs, _⟩ := h
  obtain ⟨l⟩ := cs
  have hl : l = cfgVals c := by simpa [Value.cells] using hcs
  subst hl
  have hdl : D.length ≤ 17592186044416 := by
    obtain ⟨_, _, _, h1, _, _, hrow⟩ := od
    rw [hvd] at h1
    injection h1 with _ h1 _
    have := hrow.1
    omega
  exact askerOne_main c vd v D acts W od hdl o1
end Go.Proofs.Ytimlbebockfioaa
