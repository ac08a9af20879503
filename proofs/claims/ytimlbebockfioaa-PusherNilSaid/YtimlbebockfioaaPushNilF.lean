/- PusherNil as its frame asks for it. -/
import Derived.Test.YtimlbebockfioaaPushNil
import Derived.Test.YtimlbebockfioaaSlFrame
namespace Go.Proofs.Ytimlbebockfioaa
open Go.RowKit
theorem pusherNil_any (cs : Array Value) (c : Cfg) (S : Nat → Prop) (v : Value) (m : List UInt8) (W : World) (h : repCfg.holds W S (Value.agg cs).cells.toList c) (o1 : IsSlice repByte W (all W) v m) :
    Calls Try.prog 4 #[.agg cs, v] W fun e w' => e = .returned (.bool true) ∧ Ext W w' := by
  obtain ⟨hcs, hw, _, _, _⟩ := h
  obtain ⟨l⟩ := cs
  have hl : l = cfgVals c := by simpa [Value.cells] using hcs
  subst hl
  obtain ⟨A, n, cc, rfl, _⟩ := o1
  exact pushNil_main c hw _ ⟨_, _, _, rfl⟩ W
end Go.Proofs.Ytimlbebockfioaa
