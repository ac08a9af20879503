/- PullerDoes as its frame asks for it. -/
import Derived.Test.YtjchobncmogcpaaPullDoes
import Derived.Test.YtjchobncmogcpaaNilFrame
namespace Go.Proofs.Ytjchobncmogcpaa
open Go.RowKit

theorem opens_pa {P : Program} {t : TypeId} {f0 f1 : Field} (hs : P.underlying t = some (.struct #[f0, f1])) (hc : P.cellsOf t = 5)
    (o0 : f0.offset = 0) (o1 : f1.offset = 1) (c0 : P.cellsOf f0.type = 1) (c1 : P.cellsOf f1.type = 4) (h0 : Opens P f0.type (repInt .i64)) (h1 : Opens P f1.type repSl) : Opens P t repPA := by
  intro H enc W fuel cs x h
  obtain ⟨xs, n, _, _, hl, hxl, hf⟩ := DataW.trod_struct hs h
  rw [hc] at hl
  match cs, hl with
  | [u, v0, v1, v2, v3], _ =>
    have g0 := hf 0 f0 rfl
    have g1 := hf 1 f1 rfl
    rw [o0, c0] at g0
    rw [o1, c1] at g1
    match xs, (show xs.length = 2 from hxl) with
    | [x0, x1], _ =>
      obtain ⟨y0, hy0⟩ := h0 H enc W n _ _ g0
      obtain ⟨y1, hy1⟩ := h1 H enc W n _ _ g1
      exact ⟨(y0, y1), _, _, rfl, hy0, hy1⟩
theorem opens_acts25 : Opens Try.prog 46 (repSlice repPA) := opens_slice Try.underlying46 (by kernel_rfl) (by decide) (opens_pa Try.underlying52 (by kernel_rfl) rfl rfl (by kernel_rfl) (by kernel_rfl) opens_i64 opens_slide)
theorem pullerDoes_any (cs : Array Value) (c : Cfg) (S : Nat → Prop) (v : Value) (acts : List (Int × Sl)) (W : World) (h : repCfg.holds W S (Value.agg cs).cells.toList c) (o1 : IsSlice repPA W (all W) v acts) :
    Calls Try.prog 4 #[.agg cs, v] W fun e w' => e = .returned (.bool true) ∧ Ext W w' := by
  obtain ⟨hcs, hw, _, _, _⟩ := h
  obtain ⟨l⟩ := cs
  have hl : l = cfgVals c := by simpa [Value.cells] using hcs
  subst hl
  exact pullerDoes_main c hw v acts W o1
end Go.Proofs.Ytjchobncmogcpaa
