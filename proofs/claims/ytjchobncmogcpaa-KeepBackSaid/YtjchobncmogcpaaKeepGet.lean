/- The walk of keep.Get where the sum does not fit. -/
import Derived.Test.YtjchobncmogcpaaKeepEq2
import Derived.Test.YtjchobncmogcpaaCrcR
import Derived.Test.YtjchobncmogcpaaRowOps
import Derived.Defers
import Derived.Recover
namespace Go.Proofs.Ytjchobncmogcpaa
open Go.RowKit

theorem results_row_cell {P : Program} {fn : Func} {p q : Tmp} {t1 t2 : TypeId} (h : fn.results = #[.cell p t1, .cell q t2]) (tmps : Array Value) (w : World) (g g2 : Nat) (t : TypeId) (cs : Array Value) (v : Value) (d : TypeDesc)
    (hp : tmps.getD p undef = .pointer (some ⟨g, 0, none⟩)) (hg : Blk w g t cs)
    (hu : P.underlying t1 = some d) (hd : (match d with | .struct _ | .array _ _ => true | _ => false) = true) (hi : (P.info? t1).map (·.size) = some cs.size)
    (hq : tmps.getD q undef = .pointer (some ⟨g2, 0, none⟩)) (h2 : (loadVar t2 ⟨g2, 0, none⟩).run P w = .ok v w) :
    (results fn tmps).run P w = .ok (.tuple #[.agg cs, v]) w := by
  have hp' : tmps[p]?.getD undef = .pointer (some ⟨g, 0, none⟩) := by simpa using hp
  have hq' : tmps[q]?.getD undef = .pointer (some ⟨g2, 0, none⟩) := by simpa using hq
  have e1 : (loadVar t1 ⟨g, 0, none⟩).run P w = .ok (.agg cs) w := by first | exact run_loadVar_row w g t t1 cs (0, 0) d hg hu hd hi | exact run_loadVar_row w g t1 t cs (0, 0) d hg hu hd hi
  simp only [results, h, hp', hq', asAddr, Sem.run_bind, Sem.run_pure, Result.andThen_ok]
  simp [hp', hq', asAddr, e1, h2]
def run0 : KRun := ⟨0, 0, 0, 0, 0, 0, 0, [], []⟩
def kZero : Array Value := kVals run0 (.slice none 0 0) (.slice none 0 0)
theorem kVals_one (r : KRun) (A A' : Option Addr) (n c n' c' : Nat) : (kVals r (.slice A n c) (.slice A' n' c')).all (·.oneCell') = true := by simp [kVals, Value.oneCell']
set_option maxRecDepth 100000
section
set_option maxHeartbeats 1000000 in
theorem kgetNo_any (v : Value) (xs : List UInt8) (w : World) (h : IsSlice repByte w (all w) v xs) (hl : xs.length ≤ 1000000) (hr : crcCheck xs = none) :
    Calls Try.prog 35 #[v] w fun e w' => e = .returned (.tuple #[.agg kZero, .int .i64 40]) ∧ Ext w w' := by
  have hmf : ∀ (fn : Fn) (first cap : Array Value) (w : World), (Instr.makeFunc fn first cap).run Try.prog w = .ok (.func fn first cap) w := fun _ _ _ _ => rfl
  obtain ⟨w1, hw1⟩ : ∃ w1, w.alloc (.cells kZero 73) = w1 := ⟨_, rfl⟩
  obtain ⟨w2, hw2⟩ : ∃ w2, w1.alloc (.cells #[.int .i64 0] 28) = w2 := ⟨_, rfl⟩
  have hx1 : Ext w w1 := hw1 ▸ ext_alloc _ _
  have hx2 : Ext w1 w2 := hw2 ▸ ext_alloc _ _
  have hb1 : Blk w1 w.heap.size 73 kZero := by rw [← hw1]; exact Blk.new _ _ _
  have hb2 : Blk w2 w1.heap.size 28 #[.int .i64 0] := by rw [← hw2]; exact Blk.new _ _ _
  have hN := hid tabNew_any
  have hne : w.heap.size < w1.heap.size := hb1.lt
  have hC := hid (fun (W : World) (g : Nat) (ht : TabAt W g) (he : Ext w W) => tabCheckNo_any W g ht v xs (h.ext he) hl hr)
  obtain ⟨A, c, rfl⟩ := h.shape
  clear h hr hl
  generalize xs.length = n at *
  have HB1 := hid hb1
  unfold kZero kVals run0 at hw1 ⊢
  dsimp only at hw1 ⊢
  go_enter_defers Try.func35, Try.ntmps35
  go_wp2_with (first
    | (go_at_call 91; refine (hN.out _).mono ?_; rintro e w3 ⟨rfl, hta, hx3⟩)
    | (go_at_call 96; refine (hC.out w3 _ hta (Ext.trans (Ext.trans hx1 hx2) hx3)).mono ?_; rintro e w4 ⟨rfl, hx4⟩; have g1 := (hb1.ext (Ext.trans (Ext.trans hx2 hx3) hx4)); have g2 := hb2.ext (Ext.trans hx3 hx4); have k2 := g2.frozen 0; have k3 := g2.cell 0)
    | (refine wpl_row (g := w.heap.size) (cs := kZero) _ _ rfl rfl rfl rfl g1 (by kernel_rfl) rfl (kVals_one _ _ _ _ _ _ _) ?_; intro w5 hb5 ho5; have g5 := g2.grown ho5 (fun e => by injection e with e; omega); have m2 := g5.frozen 0; have m3 := g5.cell 0))
  have hbe := g5.set_ 0 (.int .i64 40)
  have hbf := hb5.far (p := ⟨w1.heap.size, 0, none⟩) (by show w.heap.size ≠ w1.heap.size; omega) (.int .i64 40)
  have hcl := hbe.cell 0
  simp only [List.setIfInBounds_toArray, List.set_cons_zero, List.getElem?_toArray, List.getElem?_cons_zero] at hcl
  have hl : (loadVar 28 ⟨w1.heap.size, 0, none⟩).run Try.prog (w5.setCell ⟨w1.heap.size, 0, none⟩ (.int .i64 40)) = .ok (.int .i64 40) (w5.setCell ⟨w1.heap.size, 0, none⟩ (.int .i64 40)) := by
    simp [go_sem, hcl]
  refine ⟨_, results_row_cell Try.results35 _ _ w.heap.size w1.heap.size 73 kZero _ _ rfl hbf Try.underlying73 rfl (by kernel_rfl) rfl hl, rfl, ?_⟩
  exact Below.setCell (Only.ext_new (Only.then (Only.of_ext (Ext.trans (Ext.trans (Ext.trans hx1 hx2) hx3) hx4)) (Below.refl _ _) |>.trans ho5) (Below.refl _ _) (Nat.le_refl _)) (by show w.heap.size ≤ w1.heap.size; omega) _
end
end Go.Proofs.Ytjchobncmogcpaa
