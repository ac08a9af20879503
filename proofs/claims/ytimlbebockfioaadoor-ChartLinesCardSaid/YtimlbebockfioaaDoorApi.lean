/- What the api's structs read as. No program in sight. -/
import Derived.Test.YtimlbebockfioaaDoorKit
namespace Go.Proofs.YtimlbebockfioaaDoor
open Go.RowKit

/-- An event: the step, the kind, the place, the bytes. -/
structure Ev where
  step : Int
  kind : Int
  place : Int
  data : List UInt8

def repEv : Rep Ev where
  size := 4
  holds w S cs x := ∃ v, cs = [.int .i64 x.step, .int .i64 x.kind, .int .i64 x.place, v] ∧ IsSlice repByte w S v x.data
  len := by rintro _ _ _ _ ⟨v, rfl, _⟩; rfl
  one := by
    rintro _ _ _ _ ⟨v, rfl, _, _, _, rfl, _⟩ u hu
    simp at hu
    rcases hu with rfl | rfl | rfl | rfl <;> rfl
  keepP := by rintro _ _ _ _ _ _ ⟨v, rfl, h⟩ hk; exact ⟨v, rfl, h.keepP hk⟩

theorem RowAt.ev {w : World} {S : Nat → Prop} {A n} {xs : List Ev} (h : RowAt repEv w S A n xs) {k : Nat} (hk : k < n) :
    ∃ b off x A' m c, A = some ⟨b, off, none⟩ ∧ S b ∧ xs[k]? = some x ∧ m ≤ c ∧ c ≤ maxLen ∧ RowAt repByte w S A' m x.data ∧
      w.cell? ⟨b, off + k * 4, none⟩ = some (.int .i64 x.step) ∧ w.cell? ⟨b, off + k * 4 + 1, none⟩ = some (.int .i64 x.kind) ∧ w.cell? ⟨b, off + k * 4 + 2, none⟩ = some (.int .i64 x.place) ∧
      w.cell? ⟨b, off + k * 4 + 3, none⟩ = some (.slice A' m c) := by
  obtain ⟨b, off, ds, x, hA, hb, hx, ⟨v, rfl, A', m, c, rfl, h1, h2, h3⟩, hc⟩ := h.get hk
  exact ⟨b, off, x, A', m, c, hA, hb, hx, h1, h2, h3, hc 0 (by simp), hc 1 (by simp), hc 2 (by simp), hc 3 (by simp)⟩
theorem RowAt.evE {w w' : World} {A n} {xs : List Ev} (h : RowAt repEv w (all w) A n xs) (he : Ext w w') {k : Nat} (hk : k < n) :
    ∃ b off x A' m c, A = some ⟨b, off, none⟩ ∧ xs[k]? = some x ∧ IsSlice repByte w (all w) (.slice A' m c) x.data ∧ x.data.length = m ∧
      w'.cell? ⟨b, off + k * 4, none⟩ = some (.int .i64 x.step) ∧ w'.cell? ⟨b, off + k * 4 + 1, none⟩ = some (.int .i64 x.kind) ∧ w'.cell? ⟨b, off + k * 4 + 2, none⟩ = some (.int .i64 x.place) ∧
      w'.cell? ⟨b, off + k * 4 + 3, none⟩ = some (.slice A' m c) := by
  obtain ⟨b, off, x, A', m, c, hA, hb, hx, h1, h2, h3, c0, c1, c2, c3⟩ := h.ev hk
  exact ⟨b, off, x, A', m, c, hA, hx, ⟨_, _, _, rfl, h1, h2, h3⟩, h3.1, (he.cell hb _).trans c0, (he.cell hb _).trans c1, (he.cell hb _).trans c2, (he.cell hb _).trans c3⟩
end Go.Proofs.YtimlbebockfioaaDoor
