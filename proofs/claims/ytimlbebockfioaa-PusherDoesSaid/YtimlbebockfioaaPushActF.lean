/- Acts of a pusher as arguments. -/
import Derived.Test.YtimlbebockfioaaPushAct
import Derived.Test.YtimlbebockfioaaSlFrame
namespace Go.Proofs.Ytimlbebockfioaa
open Go.RowKit

theorem opens_ac {P : Program} {t : TypeId} {f0 f1 f2 f3 : Field} (hs : P.underlying t = some (.struct #[f0, f1, f2, f3])) (hc : P.cellsOf t = 7)
    (o0 : f0.offset = 0) (o1 : f1.offset = 1) (o2 : f2.offset = 2) (o3 : f3.offset = 3) (c0 : P.cellsOf f0.type = 1) (c1 : P.cellsOf f1.type = 1) (c2 : P.cellsOf f2.type = 1) (c3 : P.cellsOf f3.type = 4)
    (h0 : Opens P f0.type (repInt .i64)) (h1 : Opens P f1.type (repInt .i64)) (h2 : Opens P f2.type (repSlice repByte)) (h3 : Opens P f3.type repSlW) : Opens P t repAc := by
  intro H enc W fuel cs x h
  obtain ⟨xs, n, _, _, hl, hxl, hf⟩ := DataW.trod_struct hs h
  rw [hc] at hl
  match cs, hl with
  | [u, v, u', v0, v1, v2, v3], _ =>
    have g0 := hf 0 f0 rfl
    have g1 := hf 1 f1 rfl
    have g2 := hf 2 f2 rfl
    have g3 := hf 3 f3 rfl
    rw [o0, c0] at g0
    rw [o1, c1] at g1
    rw [o2, c2] at g2
    rw [o3, c3] at g3
    match xs, (show xs.length = 4 from hxl) with
    | [x0, x1, x2, x3], _ =>
      obtain ⟨y0, hy0, w0⟩ := h0 H enc W n _ _ g0
      obtain ⟨y1, hy1, w1⟩ := h1 H enc W n _ _ g1
      obtain ⟨y2, z2, hz2, hy2⟩ := h2 H enc W n _ _ g2
      obtain ⟨y3, hwb, z3, hz3, hy3⟩ := h3 H enc W n _ _ g3
      simp at hy0 hy1 hz2 hz3
      obtain ⟨e0, e1, e2, e3⟩ := hz3
      subst hy0 hy1 hz2 e0 e1 e2 e3
      exact ⟨⟨y0, y1, y2, y3⟩, w1, hwb, _, _, rfl, hy2, hy3⟩
theorem opens_acts24 : Opens Try.prog 25 (repSlice repAc) := opens_slice Try.underlying25 (by kernel_rfl) (by decide) (opens_ac Try.underlying43 (by kernel_rfl) rfl rfl rfl rfl (by kernel_rfl) (by kernel_rfl) (by kernel_rfl) (by kernel_rfl) opens_i64 opens_i64 opens_bytes opens_slideW)
end Go.Proofs.Ytimlbebockfioaa
