/- Blocks known whole: a struct behind a pointer. No program in sight. -/
import Derived.Test.YtimlbebockfioaaDoorKit
namespace Go.Proofs.YtimlbebockfioaaDoor
open Go.RowKit

/-- Block g is just these cells. -/
def Blk (w : World) (g : Nat) (t : TypeId) (cs : Array Value) : Prop := w.heap[g]? = some (.cells cs t (0, 0))

section
variable {w w' : World} {g : Nat} {t : TypeId} {cs : Array Value}
theorem Blk.lt (h : Blk w g t cs) : g < w.heap.size := by
  rcases Nat.lt_or_ge g w.heap.size with hlt | hge
  · exact hlt
  · unfold Blk at h; rw [Array.getElem?_eq_none hge] at h; cases h
theorem Blk.cell (h : Blk w g t cs) (i : Nat) : w.cell? ⟨g, i, none⟩ = cs[i]? := cell_of_row w g i cs t (0, 0) h
theorem Blk.frozen (h : Blk w g t cs) (i : Nat) : w.frozen? ⟨g, i, none⟩ = false := by
  unfold Blk at h
  simp [World.frozen?, h]
theorem Blk.new (w : World) (t : TypeId) (cs : Array Value) : Blk (w.alloc (.cells cs t)) w.heap.size t cs := heap_alloc_new w _
theorem Blk.drewN (h : Blk w g t cs) (n : Nat) : Blk (w.drewN n) g t cs := h
theorem Blk.drew (h : Blk w g t cs) : Blk w.drew g t cs := h
theorem Blk.alloc (h : Blk w g t cs) (o : Obj) : Blk (w.alloc o) g t cs := (Below.heap_alloc w o g h.lt).trans h
theorem Blk.set_ (h : Blk w g t cs) (i : Nat) (u : Value) : Blk (w.setCell ⟨g, i, none⟩ u) g t (cs.setIfInBounds i u) := by
  unfold Blk at h ⊢
  simp [World.setCell, Array.getElem?_modify, h]
theorem Blk.far (h : Blk w g t cs) {p : Addr} (hp : g ≠ p.block) (u : Value) : Blk (w.setCell p u) g t cs := (Below.heap_setCell w p u g hp).trans h
theorem Blk.ext (h : Blk w g t cs) (hb : Ext w w') : Blk w' g t cs := (hb.block g h.lt).trans h
theorem Blk.grown {row : Option Nat} (h : Blk w g t cs) (hb : w.grownBy w' row) (hg : some g ≠ row) : Blk w' g t cs := (hb.block g h.lt hg).trans h
end

/-- One block, and what is new, may have turned. -/
abbrev Only (g : Nat) (w w' : World) : Prop := w.grownBy w' (some g)
theorem Only.refl (g : Nat) (w : World) : Only g w w := World.grownBy.refl w _
theorem Only.of_ext {g : Nat} {w w' : World} (h : Ext w w') : Only g w w' := ⟨h.os, h.tape, h.output, h.size, fun k hk _ => h.block k hk⟩
theorem Only.trans {g : Nat} {a b c : World} (h : Only g a b) (k : Only g b c) : Only g a c :=
  ⟨k.os.trans h.os, k.tape.trans h.tape, k.output.trans h.output, Nat.le_trans h.size k.size, fun i hi hne => (k.block i (Nat.lt_of_lt_of_le hi h.size) hne).trans (h.block i hi hne)⟩
theorem Only.set_ {g : Nat} {a w : World} (h : Only g a w) (i : Nat) (u : Value) : Only g a (w.setCell ⟨g, i, none⟩ u) :=
  h.trans ⟨rfl, rfl, rfl, by simp [World.setCell], fun k _ hne => Below.heap_setCell w _ u k (fun e => hne (by rw [e]))⟩
theorem Only.then {g : Nat} {a b c : World} (h : Only g a b) (k : Ext b c) : Only g a c := h.trans (Only.of_ext k)
theorem Only.ext_new {w0 w w' : World} {g : Nat} (h : Only g w w') (hw : Ext w0 w) (hg : w0.heap.size ≤ g) : Ext w0 w' := Below.grown hw h hw.size (fun k hk => by injection hk with e; omega)
theorem Only.cell {g : Nat} {w w' : World} (h : Only g w w') {b : Nat} (hb : b < w.heap.size) (hne : b ≠ g) (o : Nat) : w'.cell? ⟨b, o, none⟩ = w.cell? ⟨b, o, none⟩ :=
  World.cell?_of_block (h.block b hb (fun e => hne (by injection e)))

/-- Outside the blocks X. -/
def outOf (X : Nat → Prop) (w : World) : Nat → Prop := fun b => b < w.heap.size ∧ ¬ X b
theorem IsSlice.outOnly {α : Type} {r : Rep α} {X : Nat → Prop} {w w' : World} {g : Nat} {v : Value} {xs : List α} (h : IsSlice r w (outOf X w) v xs) (ho : Only g w w') (hg : X g) : IsSlice r w' (outOf X w') v xs :=
  h.keep fun _ hb => ⟨⟨Nat.lt_of_lt_of_le hb.1 ho.size, hb.2⟩, fun _ => ho.cell hb.1 (fun e => hb.2 (e ▸ hg)) _⟩
theorem IsSlice.outExt {α : Type} {r : Rep α} {X : Nat → Prop} {w w' : World} {v : Value} {xs : List α} (h : IsSlice r w (outOf X w) v xs) (he : Ext w w') : IsSlice r w' (outOf X w') v xs :=
  h.keep fun _ hb => ⟨⟨Nat.lt_of_lt_of_le hb.1 he.size, hb.2⟩, fun _ => he.cell hb.1 _⟩
theorem IsSlice.outAll {α : Type} {r : Rep α} {X : Nat → Prop} {w : World} {v : Value} {xs : List α} (h : IsSlice r w (outOf X w) v xs) : IsSlice r w (all w) v xs := h.keep fun _ hb => ⟨hb.1, fun _ => rfl⟩
/-- What a call has just made lies outside what was there. -/
theorem IsSlice.outNew {α : Type} {r : Rep α} {X : Nat → Prop} {w w' : World} {v : Value} {xs : List α} (h : IsSlice r w' (fresh w w') v xs) (hX : ∀ b, X b → b < w.heap.size) : IsSlice r w' (outOf X w') v xs :=
  h.keep fun b hb => ⟨⟨hb.2, fun hx => by have := hX b hx; have := hb.1; omega⟩, fun _ => rfl⟩
end Go.Proofs.YtimlbebockfioaaDoor
