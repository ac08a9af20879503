/- The frame of a row that lists package-level variables: the world's shape, the reach, and the condition 'laid' are handed to the walk. -/
import Derived.SizedLaws
import Derived.HandedShaped
import Derived.LaidMore
import Derived.Lay
import Derived.WalkSmall
import Derived.Lib.LaidTab
import Derived.Lib.AppendIntMem
import Derived.Test.YtimlbebockfioaaDoorChartL
import Derived.Test.YtimlbebockfioaaDoorFrame
namespace Go.Proofs.YtimlbebockfioaaDoor
open Go.ChangeShapes Go.WideShapes Go.ChangeAt Go.RowKit

theorem handed_laid {H : Type} {enc : TypeId × Value → H} {a : Assume} {C : Checked} {os : Os} {f : FuncId} {fn : Func} {s : ChangeSpec} {conds : List PathCond} {apart fresh handsOn again : Bool} {X : World → Array Value → Prop}
    (hX : ∀ (w w' : World) (args : Array Value), w.heap = w'.heap → X w args → X w' args)
    (own : ownKnob C.prog.godebug = none) (started : os.Started) (noInit : C.prog.inits.idxOf? f = none) (hfn : C.prog.funcs[f]? = some fn)
    (witness : ∃ (w : World) (tape : Tape) (i : Input), w.os = os ∧ (w.forCall tape i).Shaped C.prog ∧ i.vars = [] ∧ Input.okWide C.prog (w.forCall tape i) .any w.heap.size f i ∧
      ((s.pre enc C.prog fn conds apart (w.forCall tape i).memory i.args ∧ X (w.forCall tape i).memory i.args) ∧ sizedMet enc C.prog fn (OpenSpec.ofChange s) apart (w.forCall tape i).memory i.args) ∧ a.holds C.prog (lone (Frame.enter C.prog f i.args .normal) [] (w.forCall tape i)))
    (contract : ∀ (W : World) (base : Nat) (args : Array Value) (ds gs : List (DataW H)) (before : List MemPlace),
      (∀ (j : Nat) t v, fn.params[j]? = some t → args[j]? = some v → Value.okWide C.prog W .any base t v) →
      DataW.Whole enc C.prog fn.params.toList s.vars apart W args.toList ds gs before →
      conds.all (PathCond.test C.prog ⟨fn.params.toList, ds, s.plain.varTypes C.prog, gs⟩) = true →
      (DataW.weightsEach C.prog (fn.params.toList ++ s.plain.varTypes C.prog) (ds ++ gs)).all (· ≤ reachBytes) = true → W.ShapedOpen C.prog → X W args →
      a.holds C.prog (lone (Frame.enter C.prog f args .normal) [] W) →
      Calls C.prog f args W fun e W' => ∃ v, e = .returned v ∧ s.post enc C.prog fn apart fresh handsOn again W args v W') :
    ReturnsInHanded a C os f .any (fun w args => (s.pre enc C.prog fn conds apart w args ∧ X w args) ∧ sizedMet enc C.prog fn (OpenSpec.ofChange s) apart w args) (s.post enc C.prog fn apart fresh handsOn again) := by
  refine returnsInHanded_of_calls own started noInit witness ?_
  intro w tape i _ hsh _ hok hpre hholds
  obtain ⟨_, _, _, fn', hfn', _, _, _, _, hval⟩ := hok
  obtain rfl : fn' = fn := Option.some.inj (hfn'.symm.trans hfn)
  obtain ⟨⟨⟨ds, gs, before, hw, hc⟩, hx⟩, hz⟩ := hpre
  have hw' := DataW.Whole.of_heap (w' := w.forCall tape i) (by rfl) hw
  refine (contract (w.forCall tape i) w.heap.size i.args ds gs before hval hw' hc (hz.weights hw) hsh (hX _ _ _ (by rfl) hx) hholds).mono fun e W' ⟨v, he, hp⟩ => ?_
  subst he
  exact ChangeSpec.post_blind hp

set_option maxRecDepth 100000
/-- What the condition gives the walks. -/
theorem laid_of {W : World} (hsh : W.ShapedOpen Tryd.prog) (h : laidMetH Tryd.prog Rows.chartShowsRow.laid W) : Laid W := by
  rw [MakeChecks.laidMetH_plain _ _ _ (by kernel_rfl)] at h
  obtain ⟨ps, ⟨_, _, _, _, _, _, _, _, _, _, ⟨_, _, _, _, _, _, _, _, _, _, ⟨g3, t3, c3, f3, p3, q3, hg3, ht3, hv3, hd3, ⟨_, _, _, _, _, _, _, _, _, _, ⟨g5, t5, c5, f5, p5, q5, hg5, ht5, hv5, hd5, ⟨g6, t6, c6, f6, p6, q6, hg6, ht6, hv6, hd6, _, _⟩, _⟩, _⟩, _⟩, _⟩, _⟩, _, _⟩ := h
  obtain rfl : g3 = 3 := Option.some.inj (hg3.symm.trans (by kernel_rfl))
  obtain rfl : g5 = 2 := Option.some.inj (hg5.symm.trans (by kernel_rfl))
  obtain rfl : g6 = 1 := Option.some.inj (hg6.symm.trans (by kernel_rfl))
  obtain rfl : t3 = 119 := Option.some.inj (ht3.symm.trans (by kernel_rfl))
  obtain rfl : t5 = 66 := Option.some.inj (ht5.symm.trans (by kernel_rfl))
  obtain rfl : t6 = 66 := Option.some.inj (ht6.symm.trans (by kernel_rfl))
  have e3 : c3.toList = Lib.pow10Tab.map fun z => Value.int .u64 z := Lib.cells_of_tab (k := .u64) (zs := Lib.pow10Tab) Tryd.underlying119 Tryd.underlying77 (by kernel_rfl) (by kernel_rfl) hd3
  have e3' : c3 = (Lib.pow10Tab.map fun z => Value.int .u64 z).toArray := by rw [← e3]
  subst e3'
  have hl3 : 3 < W.heap.size := lt_of_cell' ((World.var?_cell hg3 hv3 0).trans rfl)
  obtain ⟨_, u5, v5, k5, _, _⟩ := iface_of_trod Tryd.underlying66 hd5
  obtain ⟨_, u6, v6, k6, _, _⟩ := iface_of_trod Tryd.underlying66 hd6
  have w5 : W.cell? ⟨2, 0, none⟩ = some (.iface u5 v5) := (World.var?_cell hg5 hv5 0).trans (by rw [← Array.getElem?_toList, k5]; rfl)
  have w6 : W.cell? ⟨1, 0, none⟩ = some (.iface u6 v6) := (World.var?_cell hg6 hv6 0).trans (by rw [← Array.getElem?_toList, k6]; rfl)
  obtain ⟨m, hm⟩ := Tryd.laysM146.s1_3 W hsh
  have hm' : W.cell? ⟨0, 0, none⟩ = some (.int .i64 m) := hm
  have hl0 := lt_of_cell' hm'
  have hl1 := lt_of_cell' w6
  have hl2 := lt_of_cell' w5
  exact {
    itoa := fun w1 he n h0 h1 => (Any.strconv_Itoa Tryd.laysM171 n (by omega) (by omega) w1 (var?_below he hg3 hl3 hv3)).mono fun e w' ⟨he2, k, os, hw⟩ => ⟨he2, by rw [hw]; exact Lib.below_grow _ _ (Nat.le_refl _) k os⟩
    atoi := fun w1 he l hl => atoi_any w1 _ _ ((he.cell hl1 0).trans w6) (.inr ⟨_, _, rfl⟩) ((he.cell hl2 0).trans w5) (.inr ⟨_, _, rfl⟩) l hl
    split := fun w1 he l hl => split_any w1 m ((he.cell hl0 0).trans hm') l hl }
end Go.Proofs.YtimlbebockfioaaDoor
