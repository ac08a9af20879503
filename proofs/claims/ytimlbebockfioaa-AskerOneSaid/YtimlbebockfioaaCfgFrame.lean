/- The settings of a link as an argument. -/
import Derived.Test.YtimlbebockfioaaCfg
import Derived.Test.YtimlbebockfioaaFrame
namespace Go.Proofs.Ytimlbebockfioaa
open Go.RowKit

def repCfg : Rep Cfg where
  size := 7
  holds _ _ cs x := cs = cfgVals x ∧ (Lit.int .i64 x.w).wf = true ∧ (Lit.int .i64 x.m).wf = true ∧ (Lit.int .i64 x.l).wf = true ∧ (Lit.int .i64 x.room).wf = true
  len := by rintro _ _ _ _ ⟨rfl, _⟩; rfl
  one := by
    rintro _ _ _ _ ⟨rfl, _⟩ u hu
    simp [cfgVals] at hu
    rcases hu with rfl | rfl | rfl | rfl | rfl | rfl | rfl <;> rfl
  keepP := by rintro _ _ _ _ _ _ ⟨rfl, h⟩ _; exact ⟨rfl, h⟩
theorem opens_cfg {P : Program} {t : TypeId} {f0 f1 f2 f3 f4 f5 f6 : Field} (hs : P.underlying t = some (.struct #[f0, f1, f2, f3, f4, f5, f6])) (hc : P.cellsOf t = 7)
    (o0 : f0.offset = 0) (o1 : f1.offset = 1) (o2 : f2.offset = 2) (o3 : f3.offset = 3) (o4 : f4.offset = 4) (o5 : f5.offset = 5) (o6 : f6.offset = 6) (c0 : P.cellsOf f0.type = 1) (c1 : P.cellsOf f1.type = 1) (c2 : P.cellsOf f2.type = 1) (c3 : P.cellsOf f3.type = 1) (c4 : P.cellsOf f4.type = 1) (c5 : P.cellsOf f5.type = 1) (c6 : P.cellsOf f6.type = 1)
    (h0 : Opens P f0.type (repInt .i64)) (h1 : Opens P f1.type (repInt .i64)) (h2 : Opens P f2.type (repInt .i64)) (h3 : Opens P f3.type (repInt .i64)) (h4 : Opens P f4.type (repInt .i64)) (h5 : Opens P f5.type (repInt .i64)) (h6 : Opens P f6.type (repInt .u64)) : Opens P t repCfg := by
  intro H enc W fuel cs x h
  obtain ⟨xs, n, _, _, hl, hxl, hf⟩ := DataW.trod_struct hs h
  rw [hc] at hl
  match cs, hl with
  | [u0, u1, u2, u3, u4, u5, u6], _ =>
    have g0 := hf 0 f0 rfl
    have g1 := hf 1 f1 rfl
    have g2 := hf 2 f2 rfl
    have g3 := hf 3 f3 rfl
    have g4 := hf 4 f4 rfl
    have g5 := hf 5 f5 rfl
    have g6 := hf 6 f6 rfl
    rw [o0, c0] at g0
    rw [o1, c1] at g1
    rw [o2, c2] at g2
    rw [o3, c3] at g3
    rw [o4, c4] at g4
    rw [o5, c5] at g5
    rw [o6, c6] at g6
    match xs, (show xs.length = 7 from hxl) with
    | [x0, x1, x2, x3, x4, x5, x6], _ =>
      obtain ⟨y0, hy0, w0⟩ := h0 H enc W n _ _ g0
      obtain ⟨y1, hy1, w1⟩ := h1 H enc W n _ _ g1
      obtain ⟨y2, hy2, w2⟩ := h2 H enc W n _ _ g2
      obtain ⟨y3, hy3, w3⟩ := h3 H enc W n _ _ g3
      obtain ⟨y4, hy4, w4⟩ := h4 H enc W n _ _ g4
      obtain ⟨y5, hy5, w5⟩ := h5 H enc W n _ _ g5
      obtain ⟨y6, hy6, w6⟩ := h6 H enc W n _ _ g6
      simp at hy0 hy1 hy2 hy3 hy4 hy5 hy6
      subst hy0 hy1 hy2 hy3 hy4 hy5 hy6
      exact ⟨⟨y0, y1, y2, y3, y4, y5, y6⟩, rfl, w1, w2, w3, w5⟩
theorem opens_config : Opens Try.prog 24 repCfg := opens_cfg Try.underlying24 (by kernel_rfl) rfl rfl rfl rfl rfl rfl rfl (by kernel_rfl) (by kernel_rfl) (by kernel_rfl) (by kernel_rfl) (by kernel_rfl) (by kernel_rfl) (by kernel_rfl) opens_i64 opens_i64 opens_i64 opens_i64 opens_i64 opens_i64 opens_u64

end Go.Proofs.Ytimlbebockfioaa
