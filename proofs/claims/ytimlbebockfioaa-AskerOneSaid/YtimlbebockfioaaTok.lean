/- A packet of the handshake engine, in memory. No program in sight. -/
import Derived.Test.YtimlbebockfioaaKit
namespace Go.Proofs.Ytimlbebockfioaa
open Go.RowKit

/-- A packet of the handshake engine. -/
structure Tk where
  kind : Int
  t : Int
  c : Int
  r : Int
  data : List UInt8
def repTk : Rep Tk where
  size := 5
  holds w S cs x := ∃ v, cs = [.int .i64 x.kind, .int .u64 x.t, .int .u64 x.c, .int .u64 x.r, v] ∧ IsSlice repByte w S v x.data
  len := by rintro _ _ _ _ ⟨v, rfl, _⟩; rfl
  one := by
    rintro _ _ _ _ ⟨v, rfl, _, _, _, rfl, _⟩ u hu
    simp at hu
    rcases hu with rfl | rfl | rfl | rfl | rfl <;> rfl
  keepP := by rintro _ _ _ _ _ _ ⟨v, rfl, h⟩ hk; exact ⟨v, rfl, h.keepP hk⟩
theorem RowAt.tk {w : World} {S : Nat → Prop} {A n} {xs : List Tk} (h : RowAt repTk w S A n xs) {k : Nat} (hk : k < n) :
    ∃ b off x A' c, A = some ⟨b, off, none⟩ ∧ S b ∧ xs[k]? = some x ∧ IsSlice repByte w S (.slice A' x.data.length c) x.data ∧ w.cell? ⟨b, off + k * 5, none⟩ = some (.int .i64 x.kind) ∧ w.cell? ⟨b, off + k * 5 + 1, none⟩ = some (.int .u64 x.t) ∧
      w.cell? ⟨b, off + k * 5 + 2, none⟩ = some (.int .u64 x.c) ∧ w.cell? ⟨b, off + k * 5 + 3, none⟩ = some (.int .u64 x.r) ∧ w.cell? ⟨b, off + k * 5 + 4, none⟩ = some (.slice A' x.data.length c) := by
  obtain ⟨b, off, ds, x, hA, hb, hx, ⟨v, rfl, hv⟩, hc⟩ := h.get hk
  obtain ⟨A', c, rfl⟩ := hv.shape
  exact ⟨b, off, x, A', c, hA, hb, hx, hv, hc 0 (by simp), hc 1 (by simp), hc 2 (by simp), hc 3 (by simp), hc 4 (by simp)⟩
end Go.Proofs.Ytimlbebockfioaa
