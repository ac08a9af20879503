/- Runs as arguments, their numbers within bounds. -/
import Derived.Test.YtjchobncmogcpaaBackPlain
import Derived.Test.YtjchobncmogcpaaKeepFrame
namespace Go.Proofs.Ytjchobncmogcpaa
open Go.RowKit
theorem i64_of {x : Int} (h : (Lit.int .i64 x).wf = true) : I64 x := by
  have := bounds_i64 h
  unfold I64
  omega
/-- A sharper reading of the elements. -/
theorem IsSlice.weaken {α : Type} {r r' : Rep α} {P : α → Prop} (hs : r'.size = r.size) (hh : ∀ {w S cs x}, r'.holds w S cs x → r.holds w S cs x ∧ P x) {w : World} {S : Nat → Prop} {v : Value} {xs : List α} (h : IsSlice r' w S v xs) : IsSlice r w S v xs ∧ ∀ x ∈ xs, P x := by
  obtain ⟨A, n, c, rfl, h1, h2, h3, h4⟩ := h
  refine ⟨⟨A, n, c, rfl, h1, h2, h3, fun hn => ?_⟩, fun x hx => ?_⟩
  · obtain ⟨b, off, hA, hb, hj⟩ := h4 hn
    refine ⟨b, off, hA, hb, fun j hjl => ?_⟩
    obtain ⟨ds, hd, hc⟩ := hj j hjl
    rw [hs] at hc
    exact ⟨ds, (hh hd).1, hc⟩
  · obtain ⟨j, hj, rfl⟩ := List.getElem_of_mem hx
    obtain ⟨b, off, hA, hb, hj'⟩ := h4 (by omega)
    obtain ⟨ds, hd, _⟩ := hj' j hj
    exact (hh hd).2
def repEdW : Rep Ed where
  size := 3
  holds w S cs x := repEd.holds w S cs x ∧ EdWf x
  len := fun h => repEd.len h.1
  one := fun h => repEd.one h.1
  keepP := fun h hk => ⟨repEd.keepP h.1 hk, h.2⟩
def repChW : Rep Ch where
  size := 5
  holds w S cs x := ∃ u v, cs = [.int .i64 x.kind, .int .i64 x.who, .int .i64 x.at_, u, v] ∧ (I64 x.kind ∧ I64 x.who ∧ I64 x.at_) ∧ IsSlice repByte w S u x.data ∧ IsSlice repEdW w S v x.edits
  len := by rintro _ _ _ _ ⟨u, v, rfl, _, _⟩; rfl
  one := by
    rintro _ _ _ _ ⟨u', v', rfl, _, ⟨_, _, _, rfl, _⟩, ⟨_, _, _, rfl, _⟩⟩ u hu
    simp at hu
    rcases hu with rfl | rfl | rfl | rfl | rfl <;> rfl
  keepP := by rintro _ _ _ _ _ _ ⟨u, v, rfl, hq, h, k⟩ hk; exact ⟨u, v, rfl, hq, h.keepP hk, k.keepP hk⟩
theorem chW_holds {w : World} {S : Nat → Prop} {cs : List Value} {x : Ch} (h : repChW.holds w S cs x) : repCh.holds w S cs x ∧ ChWf x := by
  obtain ⟨u, v, h1, ⟨h2, h3, h4⟩, h5, h6⟩ := h
  have h7 := IsSlice.weaken (r := repEd) (r' := repEdW) (P := EdWf) rfl (fun h => h) h6
  exact ⟨⟨u, v, h1, h5, h7.1⟩, h2, h3, h4, h7.2⟩
def repRunW : Rep KRun where
  size := 9
  holds w S cs r := ∃ u1 u2, cs = (kVals r u1 u2).toList ∧ ((I64 r.eng ∧ I64 r.w ∧ I64 r.m ∧ I64 r.l ∧ I64 r.b ∧ I64 r.room) ∧ (Lit.int .u64 r.beg).wf = true) ∧ IsSlice (repInt .u64) w S u1 r.draws ∧ IsSlice repChW w S u2 r.chs
  len := by rintro _ _ _ _ ⟨_, _, rfl, _⟩; rfl
  one := by
    rintro _ _ _ _ ⟨_, _, rfl, _, ⟨_, _, _, rfl, _⟩, ⟨_, _, _, rfl, _⟩⟩ u hu
    simp [kVals] at hu
    rcases hu with rfl | rfl | rfl | rfl | rfl | rfl | rfl | rfl | rfl <;> rfl
  keepP := by rintro _ _ _ _ _ _ ⟨u, v, rfl, h, k1, k2⟩ hk; exact ⟨u, v, rfl, h, k1.keepP hk, k2.keepP hk⟩
def repC7W : Rep Cfg7 where
  size := 7
  holds w S cs x := repC7.holds w S cs x ∧ (I64 x.e ∧ I64 x.w ∧ I64 x.m ∧ I64 x.l ∧ I64 x.b ∧ I64 x.room)
  len := fun h => repC7.len h.1
  one := fun h => repC7.one h.1
  keepP := fun h hk => ⟨repC7.keepP h.1 hk, h.2⟩
theorem opens_edW {P : Program} {t : TypeId} {f0 f1 f2 : Field} (hs : P.underlying t = some (.struct #[f0, f1, f2])) (hc : P.cellsOf t = 3)
    (o0 : f0.offset = 0) (o1 : f1.offset = 1) (o2 : f2.offset = 2) (c0 : P.cellsOf f0.type = 1) (c1 : P.cellsOf f1.type = 1) (c2 : P.cellsOf f2.type = 1)
    (h0 : Opens P f0.type (repInt .i64)) (h1 : Opens P f1.type (repInt .i64)) (h2 : Opens P f2.type repByte) : Opens P t repEdW := by
  intro H enc W fuel cs x h
  obtain ⟨xs, n, _, _, hl, hxl, hf⟩ := DataW.trod_struct hs h
  rw [hc] at hl
  match cs, hl with
  | [u, v, u'], _ =>
    have g0 := hf 0 f0 rfl
    have g1 := hf 1 f1 rfl
    have g2 := hf 2 f2 rfl
    rw [o0, c0] at g0
    rw [o1, c1] at g1
    rw [o2, c2] at g2
    match xs, (show xs.length = 3 from hxl) with
    | [x0, x1, x2], _ =>
      obtain ⟨y0, hy0, w0⟩ := h0 H enc W n _ _ g0
      obtain ⟨y1, hy1, w1⟩ := h1 H enc W n _ _ g1
      obtain ⟨y2, hy2⟩ := h2 H enc W n _ _ g2
      have hy2' : [u'] = [Value.int .u8 (y2.toNat : Int)] := hy2
      clear hy2
      rename [u'] = [Value.int .u8 (y2.toNat : Int)] => hy2
      simp at hy0 hy1 hy2
      subst hy0 hy1 hy2
      exact ⟨⟨y0, y1, y2⟩, rfl, i64_of w0, i64_of w1⟩
theorem opens_chW {P : Program} {t : TypeId} {f0 f1 f2 f3 f4 : Field} (hs : P.underlying t = some (.struct #[f0, f1, f2, f3, f4])) (hc : P.cellsOf t = 5)
    (o0 : f0.offset = 0) (o1 : f1.offset = 1) (o2 : f2.offset = 2) (o3 : f3.offset = 3) (o4 : f4.offset = 4) (c0 : P.cellsOf f0.type = 1) (c1 : P.cellsOf f1.type = 1) (c2 : P.cellsOf f2.type = 1) (c3 : P.cellsOf f3.type = 1) (c4 : P.cellsOf f4.type = 1)
    (h0 : Opens P f0.type (repInt .i64)) (h1 : Opens P f1.type (repInt .i64)) (h2 : Opens P f2.type (repInt .i64)) (h3 : Opens P f3.type (repSlice repByte)) (h4 : Opens P f4.type (repSlice repEdW)) : Opens P t repChW := by
  intro H enc W fuel cs x h
  obtain ⟨xs, n, _, _, hl, hxl, hf⟩ := DataW.trod_struct hs h
  rw [hc] at hl
  match cs, hl with
  | [u, v, u', v', v''], _ =>
    have g0 := hf 0 f0 rfl
    have g1 := hf 1 f1 rfl
    have g2 := hf 2 f2 rfl
    have g3 := hf 3 f3 rfl
    have g4 := hf 4 f4 rfl
    rw [o0, c0] at g0
    rw [o1, c1] at g1
    rw [o2, c2] at g2
    rw [o3, c3] at g3
    rw [o4, c4] at g4
    match xs, (show xs.length = 5 from hxl) with
    | [x0, x1, x2, x3, x4], _ =>
      obtain ⟨y0, hy0, w0⟩ := h0 H enc W n _ _ g0
      obtain ⟨y1, hy1, w1⟩ := h1 H enc W n _ _ g1
      obtain ⟨y2, hy2, w2⟩ := h2 H enc W n _ _ g2
      obtain ⟨y3, z3, hz3, hy3⟩ := h3 H enc W n _ _ g3
      obtain ⟨y4, z4, hz4, hy4⟩ := h4 H enc W n _ _ g4
      simp at hy0 hy1 hy2 hz3 hz4
      subst hy0 hy1 hy2 hz3 hz4
      exact ⟨⟨y0, y1, y2, y3, y4⟩, _, _, rfl, ⟨i64_of w0, i64_of w1, i64_of w2⟩, hy3, hy4⟩
theorem opens_c7W {P : Program} {t : TypeId} {f0 f1 f2 f3 f4 f5 f6 : Field} (hs : P.underlying t = some (.struct #[f0, f1, f2, f3, f4, f5, f6])) (hc : P.cellsOf t = 7)
    (o0 : f0.offset = 0) (o1 : f1.offset = 1) (o2 : f2.offset = 2) (o3 : f3.offset = 3) (o4 : f4.offset = 4) (o5 : f5.offset = 5) (o6 : f6.offset = 6) (c0 : P.cellsOf f0.type = 1) (c1 : P.cellsOf f1.type = 1) (c2 : P.cellsOf f2.type = 1) (c3 : P.cellsOf f3.type = 1) (c4 : P.cellsOf f4.type = 1) (c5 : P.cellsOf f5.type = 1) (c6 : P.cellsOf f6.type = 1)
    (h0 : Opens P f0.type (repInt .i64)) (h1 : Opens P f1.type (repInt .i64)) (h2 : Opens P f2.type (repInt .i64)) (h3 : Opens P f3.type (repInt .i64)) (h4 : Opens P f4.type (repInt .i64)) (h5 : Opens P f5.type (repInt .i64)) (h6 : Opens P f6.type (repInt .u64)) : Opens P t repC7W := by
  intro H enc W fuel cs x h
  obtain ⟨xs, n, _, _, hl, hxl, hf⟩ := DataW.trod_struct hs h
  rw [hc] at hl
  match cs, hl with
  | [u0, u1, u2, u3, u4, u5, u6], _ =>
    have g0 := hf 0 f0 rfl
    have g1 := hf 1 f1 rfl
    have g2 := hf 2 f2 rfl
    have g3 := hf 3 f3 rfl
    have g4 := hf 4 f4 rfl
    have g5 := hf 5 f5 rfl
    have g6 := hf 6 f6 rfl
    rw [o0, c0] at g0
    rw [o1, c1] at g1
    rw [o2, c2] at g2
    rw [o3, c3] at g3
    rw [o4, c4] at g4
    rw [o5, c5] at g5
    rw [o6, c6] at g6
    match xs, (show xs.length = 7 from hxl) with
    | [x0, x1, x2, x3, x4, x5, x6], _ =>
      obtain ⟨y0, hy0, w0⟩ := h0 H enc W n _ _ g0
      obtain ⟨y1, hy1, w1⟩ := h1 H enc W n _ _ g1
      obtain ⟨y2, hy2, w2⟩ := h2 H enc W n _ _ g2
      obtain ⟨y3, hy3, w3⟩ := h3 H enc W n _ _ g3
      obtain ⟨y4, hy4, w4⟩ := h4 H enc W n _ _ g4
      obtain ⟨y5, hy5, w5⟩ := h5 H enc W n _ _ g5
      obtain ⟨y6, hy6, w6⟩ := h6 H enc W n _ _ g6
      simp at hy0 hy1 hy2 hy3 hy4 hy5 hy6
      subst hy0 hy1 hy2 hy3 hy4 hy5 hy6
      exact ⟨⟨y0, y1, y2, y3, y4, y5, y6⟩, ⟨rfl, w6⟩, i64_of w0, i64_of w1, i64_of w2, i64_of w3, i64_of w4, i64_of w5⟩
theorem opens_runW {P : Program} {t : TypeId} {f0 f1 f2 : Field} (hs : P.underlying t = some (.struct #[f0, f1, f2])) (hc : P.cellsOf t = 9)
    (o0 : f0.offset = 0) (o1 : f1.offset = 7) (o2 : f2.offset = 8) (c0 : P.cellsOf f0.type = 7) (c1 : P.cellsOf f1.type = 1) (c2 : P.cellsOf f2.type = 1)
    (h0 : Opens P f0.type repC7W) (h1 : Opens P f1.type (repSlice (repInt .u64))) (h2 : Opens P f2.type (repSlice repChW)) : Opens P t repRunW := by
  intro H enc W fuel cs x h
  obtain ⟨xs, n, _, _, hl, hxl, hf⟩ := DataW.trod_struct hs h
  rw [hc] at hl
  match cs, hl with
  | [a0, a1, a2, a3, a4, a5, a6, a7, a8], _ =>
    have g0 := hf 0 f0 rfl
    have g1 := hf 1 f1 rfl
    have g2 := hf 2 f2 rfl
    rw [o0, c0] at g0
    rw [o1, c1] at g1
    rw [o2, c2] at g2
    match xs, (show xs.length = 3 from hxl) with
    | [x0, x1, x2], _ =>
      obtain ⟨y0, ⟨hy0, w0⟩, hw⟩ := h0 H enc W n _ _ g0
      obtain ⟨y1, z1, hz1, hy1⟩ := h1 H enc W n _ _ g1
      obtain ⟨y2, z2, hz2, hy2⟩ := h2 H enc W n _ _ g2
      simp at hy0 hz1 hz2
      obtain ⟨rfl, rfl, rfl, rfl, rfl, rfl, rfl⟩ := hy0
      subst hz1 hz2
      exact ⟨⟨y0.e, y0.w, y0.m, y0.l, y0.b, y0.room, y0.beg, y1, y2⟩, _, _, rfl, ⟨hw, w0⟩, hy1, hy2⟩
theorem opens_editW : Opens Try.prog 161 repEdW := opens_edW Try.underlying161 (by kernel_rfl) rfl rfl rfl (by kernel_rfl) (by kernel_rfl) (by kernel_rfl) opens_i64 opens_i64 (opens_byte Try.underlying5)
theorem opens_editsW : Opens Try.prog 145 (repSlice repEdW) := opens_slice Try.underlying145 (by kernel_rfl) (by decide) opens_editW
theorem opens_choiceW : Opens Try.prog 147 repChW := opens_chW Try.underlying147 (by kernel_rfl) rfl rfl rfl rfl rfl (by kernel_rfl) (by kernel_rfl) (by kernel_rfl) (by kernel_rfl) (by kernel_rfl) opens_i64 opens_i64 opens_i64 opens_bytes opens_editsW
theorem opens_choicesW : Opens Try.prog 67 (repSlice repChW) := opens_slice Try.underlying67 (by kernel_rfl) (by decide) opens_choiceW
theorem opens_cfg7W : Opens Try.prog 24 repC7W := opens_c7W Try.underlying24 (by kernel_rfl) rfl rfl rfl rfl rfl rfl rfl (by kernel_rfl) (by kernel_rfl) (by kernel_rfl) (by kernel_rfl) (by kernel_rfl) (by kernel_rfl) (by kernel_rfl) opens_i64 opens_i64 opens_i64 opens_i64 opens_i64 opens_i64 opens_u64
theorem opens_krunsW : Opens Try.prog 69 repRunW := opens_runW Try.underlying69 (by kernel_rfl) rfl rfl rfl (by kernel_rfl) (by kernel_rfl) (by kernel_rfl) opens_cfg7W (opens_slice Try.underlying66 (by kernel_rfl) (by decide) opens_u64) opens_choicesW
theorem u64s_wf {w : World} {S : Nat → Prop} {v : Value} {xs : List Int} (h : IsSlice (repInt .u64) w S v xs) : ∀ n ∈ xs, 0 ≤ n ∧ n < 18446744073709551616 :=
  (IsSlice.weaken (r := repInt .u64) (r' := repInt .u64) (P := fun n => 0 ≤ n ∧ n < 18446744073709551616) rfl (fun h => ⟨h, wrapU_id h.2⟩) h).2
theorem run_openW {cs : Array Value} {W : World} {S : Nat → Prop} {r : KRun} (h : repRunW.holds W S (Value.agg cs).cells.toList r) : ∃ u1 u2, cs = kVals r u1 u2 ∧ RunWf r ∧ IsSlice (repInt .u64) W S u1 r.draws ∧ IsSlice repCh W S u2 r.chs := by
  obtain ⟨u1, u2, h1, ⟨h2, h2'⟩, h3, h4⟩ := h
  have h5 := IsSlice.weaken (r := repCh) (r' := repChW) (P := ChWf) rfl (fun h => chW_holds h) h4
  refine ⟨u1, u2, ?_, ⟨h2, wrapU_id h2', u64s_wf h3, h5.2⟩, h3, h5.1⟩
  simp only [Value.cells] at h1
  exact Array.toList_inj.1 h1
end Go.Proofs.Ytjchobncmogcpaa
