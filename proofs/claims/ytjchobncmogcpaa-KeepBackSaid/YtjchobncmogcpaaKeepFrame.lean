/- Runs and choices as arguments. -/
import Derived.Test.YtjchobncmogcpaaKeepP
import Derived.Test.YtjchobncmogcpaaFrame
namespace Go.Proofs.Ytjchobncmogcpaa
open Go.RowKit

theorem opens_ed {P : Program} {t : TypeId} {f0 f1 f2 : Field} (hs : P.underlying t = some (.struct #[f0, f1, f2])) (hc : P.cellsOf t = 3)
    (o0 : f0.offset = 0) (o1 : f1.offset = 1) (o2 : f2.offset = 2) (c0 : P.cellsOf f0.type = 1) (c1 : P.cellsOf f1.type = 1) (c2 : P.cellsOf f2.type = 1)
    (h0 : Opens P f0.type (repInt .i64)) (h1 : Opens P f1.type (repInt .i64)) (h2 : Opens P f2.type repByte) : Opens P t repEd := by
  intro H enc W fuel cs x h
  obtain ⟨xs, n, _, _, hl, hxl, hf⟩ := DataW.trod_struct hs h
  rw [hc] at hl
  match cs, hl with
  | [u, v, u'], _ =>
    have g0 := hf 0 f0 rfl
    have g1 := hf 1 f1 rfl
    have g2 := hf 2 f2 rfl
    rw [o0, c0] at g0
    rw [o1, c1] at g1
    rw [o2, c2] at g2
    match xs, (show xs.length = 3 from hxl) with
    | [x0, x1, x2], _ =>
      obtain ⟨y0, hy0, w0⟩ := h0 H enc W n _ _ g0
      obtain ⟨y1, hy1, w1⟩ := h1 H enc W n _ _ g1
      obtain ⟨y2, hy2⟩ := h2 H enc W n _ _ g2
      have hy2' : [u'] = [Value.int .u8 (y2.toNat : Int)] := hy2
      clear hy2
      rename [u'] = [Value.int .u8 (y2.toNat : Int)] => hy2
      simp at hy0 hy1 hy2
      subst hy0 hy1 hy2
      exact ⟨⟨y0, y1, y2⟩, rfl⟩
theorem opens_ch {P : Program} {t : TypeId} {f0 f1 f2 f3 f4 : Field} (hs : P.underlying t = some (.struct #[f0, f1, f2, f3, f4])) (hc : P.cellsOf t = 5)
    (o0 : f0.offset = 0) (o1 : f1.offset = 1) (o2 : f2.offset = 2) (o3 : f3.offset = 3) (o4 : f4.offset = 4) (c0 : P.cellsOf f0.type = 1) (c1 : P.cellsOf f1.type = 1) (c2 : P.cellsOf f2.type = 1) (c3 : P.cellsOf f3.type = 1) (c4 : P.cellsOf f4.type = 1)
    (h0 : Opens P f0.type (repInt .i64)) (h1 : Opens P f1.type (repInt .i64)) (h2 : Opens P f2.type (repInt .i64)) (h3 : Opens P f3.type (repSlice repByte)) (h4 : Opens P f4.type (repSlice repEd)) : Opens P t repCh := by
  intro H enc W fuel cs x h
  obtain ⟨xs, n, _, _, hl, hxl, hf⟩ := DataW.trod_struct hs h
  rw [hc] at hl
  match cs, hl with
  | [u, v, u', v', v''], _ =>
    have g0 := hf 0 f0 rfl
    have g1 := hf 1 f1 rfl
    have g2 := hf 2 f2 rfl
    have g3 := hf 3 f3 rfl
    have g4 := hf 4 f4 rfl
    rw [o0, c0] at g0
    rw [o1, c1] at g1
    rw [o2, c2] at g2
    rw [o3, c3] at g3
    rw [o4, c4] at g4
    match xs, (show xs.length = 5 from hxl) with
    | [x0, x1, x2, x3, x4], _ =>
      obtain ⟨y0, hy0, w0⟩ := h0 H enc W n _ _ g0
      obtain ⟨y1, hy1, w1⟩ := h1 H enc W n _ _ g1
      obtain ⟨y2, hy2, w2⟩ := h2 H enc W n _ _ g2
      obtain ⟨y3, z3, hz3, hy3⟩ := h3 H enc W n _ _ g3
      obtain ⟨y4, z4, hz4, hy4⟩ := h4 H enc W n _ _ g4
      simp at hy0 hy1 hy2 hz3 hz4
      subst hy0 hy1 hy2 hz3 hz4
      exact ⟨⟨y0, y1, y2, y3, y4⟩, _, _, rfl, hy3, hy4⟩
/-- The settings: seven numbers. -/
structure Cfg7 where
  e : Int
  w : Int
  m : Int
  l : Int
  b : Int
  room : Int
  beg : Int
def repC7 : Rep Cfg7 where
  size := 7
  holds _ _ cs x := cs = [.int .i64 x.e, .int .i64 x.w, .int .i64 x.m, .int .i64 x.l, .int .i64 x.b, .int .i64 x.room, .int .u64 x.beg] ∧ (Lit.int .u64 x.beg).wf = true
  len := by rintro _ _ _ _ ⟨rfl, _⟩; rfl
  one := by
    rintro _ _ _ _ ⟨rfl, _⟩ u hu
    simp at hu
    rcases hu with rfl | rfl | rfl | rfl | rfl | rfl | rfl <;> rfl
  keepP := by rintro _ _ _ _ _ _ ⟨rfl, h⟩ _; exact ⟨rfl, h⟩
theorem opens_c7 {P : Program} {t : TypeId} {f0 f1 f2 f3 f4 f5 f6 : Field} (hs : P.underlying t = some (.struct #[f0, f1, f2, f3, f4, f5, f6])) (hc : P.cellsOf t = 7)
    (o0 : f0.offset = 0) (o1 : f1.offset = 1) (o2 : f2.offset = 2) (o3 : f3.offset = 3) (o4 : f4.offset = 4) (o5 : f5.offset = 5) (o6 : f6.offset = 6) (c0 : P.cellsOf f0.type = 1) (c1 : P.cellsOf f1.type = 1) (c2 : P.cellsOf f2.type = 1) (c3 : P.cellsOf f3.type = 1) (c4 : P.cellsOf f4.type = 1) (c5 : P.cellsOf f5.type = 1) (c6 : P.cellsOf f6.type = 1)
    (h0 : Opens P f0.type (repInt .i64)) (h1 : Opens P f1.type (repInt .i64)) (h2 : Opens P f2.type (repInt .i64)) (h3 : Opens P f3.type (repInt .i64)) (h4 : Opens P f4.type (repInt .i64)) (h5 : Opens P f5.type (repInt .i64)) (h6 : Opens P f6.type (repInt .u64)) : Opens P t repC7 := by
  intro H enc W fuel cs x h
  obtain ⟨xs, n, _, _, hl, hxl, hf⟩ := DataW.trod_struct hs h
  rw [hc] at hl
  match cs, hl with
  | [u0, u1, u2, u3, u4, u5, u6], _ =>
    have g0 := hf 0 f0 rfl
    have g1 := hf 1 f1 rfl
    have g2 := hf 2 f2 rfl
    have g3 := hf 3 f3 rfl
    have g4 := hf 4 f4 rfl
    have g5 := hf 5 f5 rfl
    have g6 := hf 6 f6 rfl
    rw [o0, c0] at g0
    rw [o1, c1] at g1
    rw [o2, c2] at g2
    rw [o3, c3] at g3
    rw [o4, c4] at g4
    rw [o5, c5] at g5
    rw [o6, c6] at g6
    match xs, (show xs.length = 7 from hxl) with
    | [x0, x1, x2, x3, x4, x5, x6], _ =>
      obtain ⟨y0, hy0, w0⟩ := h0 H enc W n _ _ g0
      obtain ⟨y1, hy1, w1⟩ := h1 H enc W n _ _ g1
      obtain ⟨y2, hy2, w2⟩ := h2 H enc W n _ _ g2
      obtain ⟨y3, hy3, w3⟩ := h3 H enc W n _ _ g3
      obtain ⟨y4, hy4, w4⟩ := h4 H enc W n _ _ g4
      obtain ⟨y5, hy5, w5⟩ := h5 H enc W n _ _ g5
      obtain ⟨y6, hy6, w6⟩ := h6 H enc W n _ _ g6
      simp at hy0 hy1 hy2 hy3 hy4 hy5 hy6
      subst hy0 hy1 hy2 hy3 hy4 hy5 hy6
      exact ⟨⟨y0, y1, y2, y3, y4, y5, y6⟩, rfl, w6⟩
def repRun : Rep KRun where
  size := 9
  holds w S cs r := ∃ u1 u2, cs = (kVals r u1 u2).toList ∧ (Lit.int .u64 r.beg).wf = true ∧ IsSlice (repInt .u64) w S u1 r.draws ∧ IsSlice repCh w S u2 r.chs
  len := by rintro _ _ _ _ ⟨_, _, rfl, _⟩; rfl
  one := by
    rintro _ _ _ _ ⟨_, _, rfl, _, ⟨_, _, _, rfl, _⟩, ⟨_, _, _, rfl, _⟩⟩ u hu
    simp [kVals] at hu
    rcases hu with rfl | rfl | rfl | rfl | rfl | rfl | rfl | rfl | rfl <;> rfl
  keepP := by rintro _ _ _ _ _ _ ⟨u, v, rfl, h, k1, k2⟩ hk; exact ⟨u, v, rfl, h, k1.keepP hk, k2.keepP hk⟩
theorem opens_run {P : Program} {t : TypeId} {f0 f1 f2 : Field} (hs : P.underlying t = some (.struct #[f0, f1, f2])) (hc : P.cellsOf t = 9)
    (o0 : f0.offset = 0) (o1 : f1.offset = 7) (o2 : f2.offset = 8) (c0 : P.cellsOf f0.type = 7) (c1 : P.cellsOf f1.type = 1) (c2 : P.cellsOf f2.type = 1)
    (h0 : Opens P f0.type repC7) (h1 : Opens P f1.type (repSlice (repInt .u64))) (h2 : Opens P f2.type (repSlice repCh)) : Opens P t repRun := by
  intro H enc W fuel cs x h
  obtain ⟨xs, n, _, _, hl, hxl, hf⟩ := DataW.trod_struct hs h
  rw [hc] at hl
  match cs, hl with
  | [a0, a1, a2, a3, a4, a5, a6, a7, a8], _ =>
    have g0 := hf 0 f0 rfl
    have g1 := hf 1 f1 rfl
    have g2 := hf 2 f2 rfl
    rw [o0, c0] at g0
    rw [o1, c1] at g1
    rw [o2, c2] at g2
    match xs, (show xs.length = 3 from hxl) with
    | [x0, x1, x2], _ =>
      obtain ⟨y0, hy0, w0⟩ := h0 H enc W n _ _ g0
      obtain ⟨y1, z1, hz1, hy1⟩ := h1 H enc W n _ _ g1
      obtain ⟨y2, z2, hz2, hy2⟩ := h2 H enc W n _ _ g2
      simp at hy0 hz1 hz2
      obtain ⟨rfl, rfl, rfl, rfl, rfl, rfl, rfl⟩ := hy0
      subst hz1 hz2
      exact ⟨⟨y0.e, y0.w, y0.m, y0.l, y0.b, y0.room, y0.beg, y1, y2⟩, _, _, rfl, w0, hy1, hy2⟩
theorem opens_edit : Opens Try.prog 161 repEd := opens_ed Try.underlying161 (by kernel_rfl) rfl rfl rfl (by kernel_rfl) (by kernel_rfl) (by kernel_rfl) opens_i64 opens_i64 (opens_byte Try.underlying5)
theorem opens_edits : Opens Try.prog 145 (repSlice repEd) := opens_slice Try.underlying145 (by kernel_rfl) (by decide) opens_edit
theorem opens_choice : Opens Try.prog 147 repCh := opens_ch Try.underlying147 (by kernel_rfl) rfl rfl rfl rfl rfl (by kernel_rfl) (by kernel_rfl) (by kernel_rfl) (by kernel_rfl) (by kernel_rfl) opens_i64 opens_i64 opens_i64 opens_bytes opens_edits
theorem opens_choices : Opens Try.prog 67 (repSlice repCh) := opens_slice Try.underlying67 (by kernel_rfl) (by decide) opens_choice
theorem opens_cfg7 : Opens Try.prog 24 repC7 := opens_c7 Try.underlying24 (by kernel_rfl) rfl rfl rfl rfl rfl rfl rfl (by kernel_rfl) (by kernel_rfl) (by kernel_rfl) (by kernel_rfl) (by kernel_rfl) (by kernel_rfl) (by kernel_rfl) opens_i64 opens_i64 opens_i64 opens_i64 opens_i64 opens_i64 opens_u64
theorem opens_kruns : Opens Try.prog 69 repRun := opens_run Try.underlying69 (by kernel_rfl) rfl rfl rfl (by kernel_rfl) (by kernel_rfl) (by kernel_rfl) opens_cfg7 (opens_slice Try.underlying66 (by kernel_rfl) (by decide) opens_u64) opens_choices
theorem run_open {cs : Array Value} {W : World} {S : Nat → Prop} {r : KRun} (h : repRun.holds W S (Value.agg cs).cells.toList r) : ∃ u1 u2, cs = kVals r u1 u2 ∧ (Lit.int .u64 r.beg).wf = true ∧ IsSlice (repInt .u64) W S u1 r.draws ∧ IsSlice repCh W S u2 r.chs := by
  obtain ⟨u1, u2, h1, h2, h3, h4⟩ := h
  refine ⟨u1, u2, ?_, h2, h3, h4⟩
  simp only [Value.cells] at h1
  exact Array.toList_inj.1 h1
end Go.Proofs.Ytjchobncmogcpaa
