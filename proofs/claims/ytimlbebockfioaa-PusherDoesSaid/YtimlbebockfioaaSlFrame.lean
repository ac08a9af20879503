/- Packets as arguments, with their bits within bounds. -/
import Derived.Test.YtimlbebockfioaaSl
import Derived.Test.YtimlbebockfioaaCfgFrame
namespace Go.Proofs.Ytimlbebockfioaa
open Go.RowKit

def repSlW : Rep Sl where
  size := 4
  holds w S cs x := (Lit.int .u64 x.bits).wf = true ∧ repSl.holds w S cs x
  len h := repSl.len h.2
  one h := repSl.one h.2
  keepP h hk := ⟨h.1, repSl.keepP h.2 hk⟩
theorem opens_slW {P : Program} {t : TypeId} {f0 f1 f2 f3 : Field} (hs : P.underlying t = some (.struct #[f0, f1, f2, f3])) (hc : P.cellsOf t = 4)
    (o0 : f0.offset = 0) (o1 : f1.offset = 1) (o2 : f2.offset = 2) (o3 : f3.offset = 3) (c0 : P.cellsOf f0.type = 1) (c1 : P.cellsOf f1.type = 1) (c2 : P.cellsOf f2.type = 1) (c3 : P.cellsOf f3.type = 1)
    (h0 : Opens P f0.type repBool) (h1 : Opens P f1.type (repInt .i64)) (h2 : Opens P f2.type (repInt .u64)) (h3 : Opens P f3.type (repSlice repByte)) : Opens P t repSlW := by
  intro H enc W fuel cs x h
  obtain ⟨xs, n, _, _, hl, hxl, hf⟩ := DataW.trod_struct hs h
  rw [hc] at hl
  match cs, hl with
  | [u, v, u', v'], _ =>
    have g0 := hf 0 f0 rfl
    have g1 := hf 1 f1 rfl
    have g2 := hf 2 f2 rfl
    have g3 := hf 3 f3 rfl
    rw [o0, c0] at g0
    rw [o1, c1] at g1
    rw [o2, c2] at g2
    rw [o3, c3] at g3
    match xs, (show xs.length = 4 from hxl) with
    | [x0, x1, x2, x3], _ =>
      obtain ⟨y0, hy0⟩ := h0 H enc W n _ _ g0
      obtain ⟨y1, hy1, w1⟩ := h1 H enc W n _ _ g1
      obtain ⟨y2, hy2, w2⟩ := h2 H enc W n _ _ g2
      obtain ⟨y3, z, hz, hy3⟩ := h3 H enc W n _ _ g3
      have hy0 : [u] = [Value.bool y0] := hy0
      simp at hy0 hy1 hy2 hz
      subst hy0 hy1 hy2 hz
      exact ⟨⟨y0, y1, y2, y3⟩, w2, _, rfl, hy3⟩
theorem opens_slideW : Opens Try.prog 41 repSlW := opens_slW Try.underlying41 (by kernel_rfl) rfl rfl rfl rfl (by kernel_rfl) (by kernel_rfl) (by kernel_rfl) (by kernel_rfl) (opens_bool Try.underlying4) opens_i64 opens_u64 opens_bytes
end Go.Proofs.Ytimlbebockfioaa
