/- A packet of the window engine, in memory. No program in sight. -/
import Derived.Test.YtimlbebockfioaaKit
namespace Go.Proofs.Ytimlbebockfioaa
open Go.RowKit

/-- A packet of the window engine. -/
structure Sl where
  ack : Bool
  seq : Int
  bits : Int
  data : List UInt8
def repSl : Rep Sl where
  size := 4
  holds w S cs x := ∃ v, cs = [.bool x.ack, .int .i64 x.seq, .int .u64 x.bits, v] ∧ IsSlice repByte w S v x.data
  len := by rintro _ _ _ _ ⟨v, rfl, _⟩; rfl
  one := by
    rintro _ _ _ _ ⟨v, rfl, _, _, _, rfl, _⟩ u hu
    simp at hu
    rcases hu with rfl | rfl | rfl | rfl <;> rfl
  keepP := by rintro _ _ _ _ _ _ ⟨v, rfl, h⟩ hk; exact ⟨v, rfl, h.keepP hk⟩

end Go.Proofs.Ytimlbebockfioaa
