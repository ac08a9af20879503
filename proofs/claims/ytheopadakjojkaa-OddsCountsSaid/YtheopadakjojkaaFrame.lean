/- Arguments opened: from the form's reading to this seat's words. -/
import Derived.Test.YtheopadakjojkaaRows
import Derived.Test.YtheopadakjojkaaApi
import Derived.Deep.Slices
import Derived.Below
namespace Go.Proofs.Ytheopadakjojkaa
open Go.ChangeShapes Go.WideShapes Go.ChangeAt Go.RowKit

theorem own_ : ownKnob Try.prog.godebug = none := by kernel_rfl
theorem laidOut_ : laidOutB Try.prog = true := by kernel_rfl

/-- Whatever the form reads at this type is a datum of ours. -/
def Opens {α : Type} (P : Program) (t : TypeId) (r : Rep α) : Prop :=
  ∀ (H : Type) (enc : TypeId × Value → H) (W : World) (fuel : Nat) (cs : List Value) (x : DataW H × List MemPlace), DataW.trod enc P W 0 (fun _ => true) true fuel t cs = some x → ∃ y, r.holds W (all W) cs y

theorem lt_of_cell {w : World} {b o : Nat} {v : Value} (h : w.cell? ⟨b, o, none⟩ = some v) : b < w.heap.size := by
  unfold World.cell? at h
  rcases Nat.lt_or_ge b w.heap.size with hlt | hge
  · exact hlt
  · rw [Array.getElem?_eq_none (by simpa using hge)] at h; cases h

theorem opens_int {P : Program} {t : TypeId} {k : IntKind} (ht : P.underlying t = some (.int k)) : Opens P t (repInt k) := by
  intro H enc W fuel cs x h
  obtain ⟨n, rfl, _, hw⟩ := DataW.trod_int ht h
  exact ⟨n, rfl, hw⟩
theorem opens_bool {P : Program} {t : TypeId} (ht : P.underlying t = some .bool) : Opens P t repBool := by
  intro H enc W fuel cs x h
  obtain ⟨n, rfl, _⟩ := DataW.trod_bool ht h
  exact ⟨n, rfl⟩
theorem opens_string {P : Program} {t : TypeId} (ht : P.underlying t = some .string) : Opens P t repString := by
  intro H enc W fuel cs x h
  obtain ⟨n, rfl, _⟩ := DataW.trod_string ht h
  exact ⟨n, rfl⟩
theorem opens_byte {P : Program} {t : TypeId} (ht : P.underlying t = some (.int .u8)) : Opens P t repByte := by
  intro H enc W fuel cs x h
  obtain ⟨n, rfl, _, hw⟩ := DataW.trod_int ht h
  have hb := bounds_u8 hw
  refine ⟨UInt8.ofNat n.toNat, ?_⟩
  show [Value.int .u8 n] = [Value.int .u8 ((UInt8.ofNat n.toNat).toNat : Int)]
  have : ((UInt8.ofNat n.toNat).toNat : Int) = n := by
    rw [UInt8.toNat_ofNat']
    omega
  rw [this]

theorem opens_slice {α : Type} {P : Program} {t e : TypeId} {r : Rep α} (ht : P.underlying t = some (.slice e)) (hc : P.cellsOf e = r.size) (hr : 0 < r.size) (he : Opens P e r) : Opens P t (repSlice r) := by
  intro H enc W fuel cs x h
  rcases Go.Deep.open_slice ht h with ⟨rfl, _⟩ | ⟨a, len, cap, m, n, D, Pl, rfl, _, hl, hm, hmm, _, hi⟩
  · exact ⟨[], _, rfl, isSlice_nil _ _ _⟩
  · simp only [if_true] at hmm
    have hg : ∀ i, i < len → ∃ (y : α) (ds : List Value), r.holds W (all W) ds y ∧ ∀ j (hj : j < ds.length), W.cell? (a.add (i * r.size + j)) = some ds[j] := by
      intro i hil
      obtain ⟨cs', hcs, ht'⟩ := hi i (by omega)
      obtain ⟨y, hy⟩ := he H enc W n cs' _ ht'
      obtain ⟨_, hcl, hat⟩ := World.cells?_some hcs
      refine ⟨y, cs', hy, fun j hj => ?_⟩
      have := hat j (by omega)
      rw [Go.Deep.add_add, hc, List.getElem?_eq_getElem hj] at this
      exact this
    have hlist : ∀ k, k ≤ len → ∃ ys : List α, ys.length = k ∧ ∀ i (hi : i < ys.length), ∃ ds : List Value, r.holds W (all W) ds ys[i] ∧ ∀ j (hj : j < ds.length), W.cell? (a.add (i * r.size + j)) = some ds[j] := by
      intro k
      induction k with
      | zero => intro _; exact ⟨[], rfl, by simp⟩
      | succ k ih =>
        intro hk
        obtain ⟨ys, hyl, hys⟩ := ih (by omega)
        obtain ⟨y, ds, h1, h2⟩ := hg k (by omega)
        refine ⟨ys ++ [y], by simp [hyl], fun i hi => ?_⟩
        by_cases hik : i < ys.length
        · rw [List.getElem_append_left hik]
          exact hys i hik
        · obtain rfl : i = k := by simp at hi; omega
          have e : (ys ++ [y])[i]'hi = y := by
            rw [List.getElem_append_right (by omega)]
            simp [hyl]
          rw [e]
          exact ⟨ds, h1, h2⟩
    obtain ⟨ys, hyl, hys⟩ := hlist len (Nat.le_refl _)
    refine ⟨ys, _, rfl, some a, len, cap, rfl, hl, hm, hyl, fun hn => ?_⟩
    obtain ⟨ds0, h0, hc0⟩ := hys 0 (by omega)
    have hd0 : 0 < ds0.length := by rw [r.len h0]; exact hr
    have hc00 := hc0 0 hd0
    simp only [Nat.zero_mul, Nat.add_zero] at hc00
    have ha0 : a.add 0 = a := by simp [Addr.add]
    rw [ha0] at hc00
    have hsp := World.cell?_spot hc00
    obtain ⟨b, off, spot⟩ := a
    simp only at hsp
    subst hsp
    refine ⟨b, off, rfl, lt_of_cell hc00, fun j hj => ?_⟩
    obtain ⟨ds, h1, h2⟩ := hys j hj
    refine ⟨ds, h1, fun i hi => ?_⟩
    have := h2 i hi
    unfold Addr.add at this
    split at this
    · rename_i hz
      rw [show off + j * r.size + i = off from by omega]
      exact this
    · rw [Nat.add_assoc]; exact this

theorem isSlice_of {α : Type} {r : Rep α} {w : World} {S : Nat → Prop} {A : Option Addr} {n c : Nat} {y : List α} (h : (repSlice r).holds w S (Value.slice A n c).cells.toList y) : IsSlice r w S (.slice A n c) y := by
  obtain ⟨v, hv, h⟩ := h
  simp [Value.cells] at hv
  subst hv
  exact h
end Go.Proofs.Ytheopadakjojkaa
