/- What choices and their edits read as. -/
import Derived.Test.YtjchobncmogcpaaKit
namespace Go.Proofs.Ytjchobncmogcpaa
open Go.RowKit

structure Ed where
  kind : Int
  at_ : Int
  b : UInt8
structure Ch where
  kind : Int
  who : Int
  at_ : Int
  data : List UInt8
  edits : List Ed
def repEd : Rep Ed where
  size := 3
  holds _ _ cs x := cs = [.int .i64 x.kind, .int .i64 x.at_, .int .u8 (x.b.toNat : Int)]
  len := by rintro _ _ _ _ rfl; rfl
  one := by
    rintro _ _ _ _ rfl u hu
    simp at hu
    rcases hu with rfl | rfl | rfl <;> rfl
  keepP := by rintro _ _ _ _ _ _ rfl _; rfl
theorem flat_ed : Flat repEd := fun _ _ _ _ _ _ h => h
def repCh : Rep Ch where
  size := 5
  holds w S cs x := ∃ u v, cs = [.int .i64 x.kind, .int .i64 x.who, .int .i64 x.at_, u, v] ∧ IsSlice repByte w S u x.data ∧ IsSlice repEd w S v x.edits
  len := by rintro _ _ _ _ ⟨u, v, rfl, _, _⟩; rfl
  one := by
    rintro _ _ _ _ ⟨u', v', rfl, ⟨_, _, _, rfl, _⟩, ⟨_, _, _, rfl, _⟩⟩ u hu
    simp at hu
    rcases hu with rfl | rfl | rfl | rfl | rfl <;> rfl
  keepP := by rintro _ _ _ _ _ _ ⟨u, v, rfl, h, k⟩ hk; exact ⟨u, v, rfl, h.keepP hk, k.keepP hk⟩
theorem RowAt.ed {w : World} {S : Nat → Prop} {A n} {xs : List Ed} (h : RowAt repEd w S A n xs) {k : Nat} (hk : k < n) :
    ∃ b off x, A = some ⟨b, off, none⟩ ∧ S b ∧ xs[k]? = some x ∧
      w.cell? ⟨b, off + k * 3, none⟩ = some (.int .i64 x.kind) ∧ w.cell? ⟨b, off + k * 3 + 1, none⟩ = some (.int .i64 x.at_) ∧ w.cell? ⟨b, off + k * 3 + 2, none⟩ = some (.int .u8 (x.b.toNat : Int)) := by
  obtain ⟨b, off, ds, x, hA, hb, hx, rfl, hc⟩ := h.get hk
  exact ⟨b, off, x, hA, hb, hx, hc 0 (by simp), hc 1 (by simp), hc 2 (by simp)⟩
theorem RowAt.ch {w : World} {S : Nat → Prop} {A n} {xs : List Ch} (h : RowAt repCh w S A n xs) {k : Nat} (hk : k < n) :
    ∃ b off x A' c A'' c', A = some ⟨b, off, none⟩ ∧ S b ∧ xs[k]? = some x ∧ IsSlice repByte w S (.slice A' x.data.length c) x.data ∧ IsSlice repEd w S (.slice A'' x.edits.length c') x.edits ∧
      w.cell? ⟨b, off + k * 5, none⟩ = some (.int .i64 x.kind) ∧ w.cell? ⟨b, off + k * 5 + 1, none⟩ = some (.int .i64 x.who) ∧ w.cell? ⟨b, off + k * 5 + 2, none⟩ = some (.int .i64 x.at_) ∧
      w.cell? ⟨b, off + k * 5 + 3, none⟩ = some (.slice A' x.data.length c) ∧ w.cell? ⟨b, off + k * 5 + 4, none⟩ = some (.slice A'' x.edits.length c') := by
  obtain ⟨b, off, ds, x, hA, hb, hx, ⟨u, v, rfl, hu, hv⟩, hc⟩ := h.get hk
  obtain ⟨A', c, rfl⟩ := hu.shape
  obtain ⟨A'', c', rfl⟩ := hv.shape
  exact ⟨b, off, x, A', c, A'', c', hA, hb, hx, hu, hv, hc 0 (by simp), hc 1 (by simp), hc 2 (by simp), hc 3 (by simp), hc 4 (by simp)⟩
end Go.Proofs.Ytjchobncmogcpaa
