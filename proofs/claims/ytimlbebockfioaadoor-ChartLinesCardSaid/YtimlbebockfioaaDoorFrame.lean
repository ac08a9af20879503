/- Arguments opened: from the form's reading to this seat's words. -/
import Derived.Test.YtimlbebockfioaaDoorRows
import Derived.Test.YtimlbebockfioaaDoorApi
import Derived.Deep.Slices
import Derived.Below
namespace Go.Proofs.YtimlbebockfioaaDoor
open Go.ChangeShapes Go.WideShapes Go.ChangeAt Go.RowKit

theorem own_ : ownKnob Tryd.prog.godebug = none := by kernel_rfl
theorem laidOut_ : laidOutB Tryd.prog = true := by kernel_rfl

/-- Whatever the form reads at this type is a datum of ours. -/
def Opens {α : Type} (P : Program) (t : TypeId) (r : Rep α) : Prop :=
  ∀ (H : Type) (enc : TypeId × Value → H) (W : World) (fuel : Nat) (cs : List Value) (x : DataW H × List MemPlace), DataW.trod enc P W 0 (fun _ => true) true fuel t cs = some x → ∃ y, r.holds W (all W) cs y

theorem lt_of_cell {w : World} {b o : Nat} {v : Value} (h : w.cell? ⟨b, o, none⟩ = some v) : b < w.heap.size := by
  unfold World.cell? at h
  rcases Nat.lt_or_ge b w.heap.size with hlt | hge
  · exact hlt
  · rw [Array.getElem?_eq_none (by simpa using hge)] at h; cases h

theorem opens_int {P : Program} {t : TypeId} {k : IntKind} (ht : P.underlying t = some (.int k)) : Opens P t (repInt k) := by
  intro H enc W fuel cs x h
  obtain ⟨n, rfl, _, hw⟩ := DataW.trod_int ht h
  exact ⟨n, rfl, hw⟩
theorem opens_bool {P : Program} {t : TypeId} (ht : P.underlying t = some .bool) : Opens P t repBool := by
  intro H enc W fuel cs x h
  obtain ⟨n, rfl, _⟩ := DataW.trod_bool ht h
  exact ⟨n, rfl⟩
theorem opens_string {P : Program} {t : TypeId} (ht : P.underlying t = some .string) : Opens P t repString := by
  intro H enc W fuel cs x h
  obtain ⟨n, rfl, _⟩ := DataW.trod_string ht h
  exact ⟨n, rfl⟩
theorem opens_byte {P : Program} {t : TypeId} (ht : P.underlying t = some (.int .u8)) : Opens P t repByte := by
  intro H enc W fuel cs x h
  obtain ⟨n, rfl, _, hw⟩ := DataW.trod_int ht h
  have hb := bounds_u8 hw
  refine ⟨UInt8.ofNat n.toNat, ?_⟩
  show [Value.int .u8 n] = [Value.int .u8 ((UInt8.ofNat n.toNat).toNat : Int)]
  have : ((UInt8.ofNat n.toNat).toNat : Int) = n := by
    rw [UInt8.toNat_ofNat']
    omega
  rw [this]

theorem opens_slice {α : Type} {P : Program} {t e : TypeId} {r : Rep α} (ht : P.underlying t = some (.slice e)) (hc : P.cellsOf e = r.size) (hr : 0 < r.size) (he : Opens P e r) : Opens P t (repSlice r) := by
  intro H enc W fuel cs x h
  rcases Go.Deep.open_slice ht h with ⟨rfl, _⟩ | ⟨a, len, cap, m, n, D, Pl, rfl, _, hl, hm, hmm, _, hi⟩
  · exact ⟨[], _, rfl, isSlice_nil _ _ _⟩
  · simp only [if_true] at hmm
    have hg : ∀ i, i < len → ∃ (y : α) (ds : List Value), r.holds W (all W) ds y ∧ ∀ j (hj : j < ds.length), W.cell? (a.add (i * r.size + j)) = some ds[j] := by
      intro i hil
      obtain ⟨cs', hcs, ht'⟩ := hi i (by omega)
      obtain ⟨y, hy⟩ := he H enc W n cs' _ ht'
      obtain ⟨_, hcl, hat⟩ := World.cells?_some hcs
      refine ⟨y, cs', hy, fun j hj => ?_⟩
      have := hat j (by omega)
      rw [Go.Deep.add_add, hc, List.getElem?_eq_getElem hj] at this
      exact this
    have hlist : ∀ k, k ≤ len → ∃ ys : List α, ys.length = k ∧ ∀ i (hi : i < ys.length), ∃ ds : List Value, r.holds W (all W) ds ys[i] ∧ ∀ j (hj : j < ds.length), W.cell? (a.add (i * r.size + j)) = some ds[j] := by
      intro k
      induction k with
      | zero => intro _; exact ⟨[], rfl, by simp⟩
      | succ k ih =>
        intro hk
        obtain ⟨ys, hyl, hys⟩ := ih (by omega)
        obtain ⟨y, ds, h1, h2⟩ := hg k (by omega)
        refine ⟨ys ++ [y], by simp [hyl], fun i hi => ?_⟩
        by_cases hik : i < ys.length
        · rw [List.getElem_append_left hik]
          exact hys i hik
        · obtain rfl : i = k := by simp at hi; omega
          have e : (ys ++ [y])[i]'hi = y := by
            rw [List.getElem_append_right (by omega)]
            simp [hyl]
          rw [e]
          exact ⟨ds, h1, h2⟩
    obtain ⟨ys, hyl, hys⟩ := hlist len (Nat.le_refl _)
    refine ⟨ys, _, rfl, some a, len, cap, rfl, hl, hm, hyl, fun hn => ?_⟩
    obtain ⟨ds0, h0, hc0⟩ := hys 0 (by omega)
    have hd0 : 0 < ds0.length := by rw [r.len h0]; exact hr
    have hc00 := hc0 0 hd0
    simp only [Nat.zero_mul, Nat.add_zero] at hc00
    have ha0 : a.add 0 = a := by simp [Addr.add]
    rw [ha0] at hc00
    have hsp := World.cell?_spot hc00
    obtain ⟨b, off, spot⟩ := a
    simp only at hsp
    subst hsp
    refine ⟨b, off, rfl, lt_of_cell hc00, fun j hj => ?_⟩
    obtain ⟨ds, h1, h2⟩ := hys j hj
    refine ⟨ds, h1, fun i hi => ?_⟩
    have := h2 i hi
    unfold Addr.add at this
    split at this
    · rename_i hz
      rw [show off + j * r.size + i = off from by omega]
      exact this
    · rw [Nat.add_assoc]; exact this

theorem opens_struct2 {α β : Type} {P : Program} {t : TypeId} {f0 f1 : Field} {r0 : Rep α} {r1 : Rep β} (hs : P.underlying t = some (.struct #[f0, f1])) (hc : P.cellsOf t = 2)
    (o0 : f0.offset = 0) (o1 : f1.offset = 1) (c0 : P.cellsOf f0.type = 1) (c1 : P.cellsOf f1.type = 1) (h0 : Opens P f0.type r0) (h1 : Opens P f1.type r1) : Opens P t (repPair r0 r1) := by
  intro H enc W fuel cs x h
  obtain ⟨xs, n, _, _, hl, hxl, hf⟩ := DataW.trod_struct hs h
  rw [hc] at hl
  match cs, hl with
  | [u, v], _ =>
    have g0 := hf 0 f0 rfl
    have g1 := hf 1 f1 rfl
    rw [o0, c0] at g0
    rw [o1, c1] at g1
    match xs, (show xs.length = 2 from hxl) with
    | [x0, x1], _ =>
      obtain ⟨y0, hy0⟩ := h0 H enc W n _ _ g0
      obtain ⟨y1, hy1⟩ := h1 H enc W n _ _ g1
      exact ⟨(y0, y1), _, _, rfl, hy0, hy1⟩

theorem opens_struct3 {α β γ : Type} {P : Program} {t : TypeId} {f0 f1 f2 : Field} {r0 : Rep α} {r1 : Rep β} {r2 : Rep γ} (hs : P.underlying t = some (.struct #[f0, f1, f2])) (hc : P.cellsOf t = 3)
    (o0 : f0.offset = 0) (o1 : f1.offset = 1) (o2 : f2.offset = 2) (c0 : P.cellsOf f0.type = 1) (c1 : P.cellsOf f1.type = 1) (c2 : P.cellsOf f2.type = 1) (h0 : Opens P f0.type r0) (h1 : Opens P f1.type r1) (h2 : Opens P f2.type r2) : Opens P t (repPair r0 (repPair r1 r2)) := by
  intro H enc W fuel cs x h
  obtain ⟨xs, n, _, _, hl, hxl, hf⟩ := DataW.trod_struct hs h
  rw [hc] at hl
  match cs, hl with
  | [u, v, u'], _ =>
    have g0 := hf 0 f0 rfl
    have g1 := hf 1 f1 rfl
    have g2 := hf 2 f2 rfl
    rw [o0, c0] at g0
    rw [o1, c1] at g1
    rw [o2, c2] at g2
    match xs, (show xs.length = 3 from hxl) with
    | [x0, x1, x2], _ =>
      obtain ⟨y0, hy0⟩ := h0 H enc W n _ _ g0
      obtain ⟨y1, hy1⟩ := h1 H enc W n _ _ g1
      obtain ⟨y2, hy2⟩ := h2 H enc W n _ _ g2
      exact ⟨(y0, y1, y2), _, _, rfl, hy0, _, _, rfl, hy1, hy2⟩

theorem opens_ev {P : Program} {t : TypeId} {f0 f1 f2 f3 : Field} (hs : P.underlying t = some (.struct #[f0, f1, f2, f3])) (hc : P.cellsOf t = 4)
    (o0 : f0.offset = 0) (o1 : f1.offset = 1) (o2 : f2.offset = 2) (o3 : f3.offset = 3) (c0 : P.cellsOf f0.type = 1) (c1 : P.cellsOf f1.type = 1) (c2 : P.cellsOf f2.type = 1) (c3 : P.cellsOf f3.type = 1)
    (h0 : Opens P f0.type (repInt .i64)) (h1 : Opens P f1.type (repInt .i64)) (h2 : Opens P f2.type (repInt .i64)) (h3 : Opens P f3.type (repSlice repByte)) : Opens P t repEv := by
  intro H enc W fuel cs x h
  obtain ⟨xs, n, _, _, hl, hxl, hf⟩ := DataW.trod_struct hs h
  rw [hc] at hl
  match cs, hl with
  | [u, v, u', v'], _ =>
    have g0 := hf 0 f0 rfl
    have g1 := hf 1 f1 rfl
    have g2 := hf 2 f2 rfl
    have g3 := hf 3 f3 rfl
    rw [o0, c0] at g0
    rw [o1, c1] at g1
    rw [o2, c2] at g2
    rw [o3, c3] at g3
    match xs, (show xs.length = 4 from hxl) with
    | [x0, x1, x2, x3], _ =>
      obtain ⟨y0, hy0, w0⟩ := h0 H enc W n _ _ g0
      obtain ⟨y1, hy1, w1⟩ := h1 H enc W n _ _ g1
      obtain ⟨y2, hy2, w2⟩ := h2 H enc W n _ _ g2
      obtain ⟨y3, z, hz, hy3⟩ := h3 H enc W n _ _ g3
      simp at hy0 hy1 hy2 hz
      subst hy0 hy1 hy2 hz
      exact ⟨⟨y0, y1, y2, y3⟩, _, rfl, hy3⟩

theorem opens_u64 : Opens Tryd.prog 77 (repInt .u64) := opens_int Tryd.underlying77
theorem opens_i64 : Opens Tryd.prog 3 (repInt .i64) := opens_int Tryd.underlying3
theorem opens_bytes : Opens Tryd.prog 22 (repSlice repByte) := opens_slice Tryd.underlying22 (by kernel_rfl) (by decide) (opens_byte Tryd.underlying5)
theorem opens_event : Opens Tryd.prog 24 repEv := opens_ev Tryd.underlying24 (by kernel_rfl) rfl rfl rfl rfl (by kernel_rfl) (by kernel_rfl) (by kernel_rfl) (by kernel_rfl) opens_i64 opens_i64 opens_i64 opens_bytes
theorem opens_events : Opens Tryd.prog 34 (repSlice repEv) := opens_slice Tryd.underlying34 (by kernel_rfl) (by decide) opens_event
theorem isSlice_of {α : Type} {r : Rep α} {w : World} {S : Nat → Prop} {A : Option Addr} {n c : Nat} {y : List α} (h : (repSlice r).holds w S (Value.slice A n c).cells.toList y) : IsSlice r w S (.slice A n c) y := by
  obtain ⟨v, hv, h⟩ := h
  simp [Value.cells] at hv
  subst hv
  exact h
end Go.Proofs.YtimlbebockfioaaDoor
