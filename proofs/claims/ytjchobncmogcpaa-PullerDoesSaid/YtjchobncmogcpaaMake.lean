/- 'make([]T, n)', its block known whole; rows of numbers in blocks. No program in sight. -/
import Derived.Test.YtjchobncmogcpaaObj
namespace Go.Proofs.Ytjchobncmogcpaa
open Go.RowKit

section
variable {α : Type} {r : Rep α} {P : Program} {w : World} {ops : Array Oper} {rest : List Oper} {o : Oper} {a : Act} {Q : Exit → Act → World → Prop}
theorem wpl_make_ints {t e : TypeId} {bytes : Nat} {kl kc ki : IntKind} {L C : Int} (l c : Operand) (n : Nat) (hgd : o.guard = none) (hop : o.op = Op.makeSlice t l c) (ht : P.underlying t = some (.slice e))
    (hi : (P.info? e).map (fun i => (i.zero, i.size, i.bytes)) = some (some (.int ki 0), 1, bytes)) (hl : a.eval l = .int kl L) (hc : a.eval c = .int kc C) (hL : L = (n : Int)) (hC : C = (n : Int)) (hb : bytes * n ≤ 281474976710656) (hm : n ≤ maxLen)
    (h : ∀ w', Blk w' w.heap.size e ((List.replicate n (0 : Int)).map (Value.int ki)).toArray → Ext w w' → wpList P ops Q rest (a.put o.dst (.slice (some ⟨w.heap.size, 0, none⟩) n n)) w') : wpList P ops Q (o :: rest) a w := by
  obtain ⟨i0, hi, hz0, hz1, hz2⟩ := info_parts hi
  refine wpList_make_full w hgd l c t hop w.heap.size e i0 (.int ki 0) 1 ht hi hz0 hz1 kl kc L C n hl hc hL hC (by rw [hz2]; exact hb) hm (Nat.le_refl _) fun w' h1 h2 => ?_
  obtain ⟨_, h1⟩ := h1
  rcases h1 with ⟨h1, _⟩ | ⟨g, cap, cur, hv, hg, hh, hnc, hmx, hcs, hcur⟩
  · cases h1
  · injection hv with e1 e2 e3
    injection e1 with e1
    injection e1 with e1 _ _
    subst e1
    subst e3
    have hz : cur = ((List.replicate n (0 : Int)).map (Value.int ki)).toArray := by
      apply Array.ext'
      rw [Nat.mul_one, List.take_of_length_le (by simp [hcs])] at hcur
      rw [hcur]
      have hone : ∀ x : Nat, x % 1 = 0 := fun x => Nat.mod_one x
      simp [madeCells, Value.cells, hone, List.map_const']
    rw [hz] at hh
    exact h w' hh ⟨h2.os, h2.tape, h2.output, h2.size, fun k hk => h2.block k hk (by simp)⟩
end
theorem Only.farSet {g gb : Nat} {a w : World} (h : Only g a w) (hb : a.heap.size ≤ gb) (k : Nat) (u : Value) : Only g a (w.setCell ⟨gb, k, none⟩ u) :=
  ⟨h.os, h.tape, h.output, Nat.le_trans h.size (by simp [World.setCell]), fun i hi hne => (Below.heap_setCell w _ u i (by show i ≠ gb; omega)).trans (h.block i hi hne)⟩
/-- A block of numbers is a list of numbers. -/
theorem Blk.ints {w : World} {g : Nat} {t : TypeId} {ki : IntKind} {S : Nat → Prop} {xs : List Int} (h : Blk w g t (xs.map (Value.int ki)).toArray) (hS : S g) {c : Nat} (hc : xs.length ≤ c) (hm : c ≤ maxLen) (hw : ∀ x ∈ xs, (Lit.int ki x).wf = true) :
    IsSlice (repInt ki) w S (.slice (some ⟨g, 0, none⟩) xs.length c) xs :=
  ⟨_, _, _, rfl, hc, hm, rfl, fun _ => ⟨g, 0, rfl, hS, fun j hj => ⟨[_], ⟨rfl, hw _ (List.getElem_mem hj)⟩, fun i hi => by
    have hi0 : i = 0 := by simpa using hi
    subst hi0
    rw [h.cell]
    have e : 0 + j * (repInt ki).size + 0 = j := by show 0 + j * 1 + 0 = j; omega
    rw [e]
    simp [List.getElem?_eq_getElem hj]⟩⟩⟩
theorem Blk.intAt {w : World} {g : Nat} {t : TypeId} {ki : IntKind} {xs : List Int} (h : Blk w g t (xs.map (Value.int ki)).toArray) {j : Nat} {x : Int} (hx : xs[j]? = some x) : w.cell? ⟨g, j, none⟩ = some (.int ki x) := by
  rw [h.cell]
  simp [hx]
theorem Blk.intSet {w : World} {g : Nat} {t : TypeId} {ki : IntKind} {xs : List Int} (h : Blk w g t (xs.map (Value.int ki)).toArray) (j : Nat) (x : Int) : Blk (w.setCell ⟨g, j, none⟩ (.int ki x)) g t ((xs.set j x).map (Value.int ki)).toArray := by
  have := h.set_ j (.int ki x)
  rw [List.map_set]
  simpa using this
end Go.Proofs.Ytjchobncmogcpaa
