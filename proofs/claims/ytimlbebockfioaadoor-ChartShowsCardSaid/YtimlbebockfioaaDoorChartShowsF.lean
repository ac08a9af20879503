/- ChartShows as its frame asks for it. -/
import Derived.Test.YtimlbebockfioaaDoorChartShows
namespace Go.Proofs.YtimlbebockfioaaDoor
open Go.RowKit

theorem chartShows_any (cs : Array Value) (x : Ev) (a : ByteArray) (W : World) (HL : Laid W) (h : repEv.holds W (all W) (Value.agg cs).cells.toList x) (hw : a.size ≤ maxLen) :
    Calls Tryd.prog 3 #[.agg cs, .string a] W fun e w' => e = .returned (.bool true) ∧ Ext W w' := by
  obtain ⟨v, hcs, hv⟩ := h
  obtain ⟨l⟩ := cs
  have hl : l = [.int .i64 x.step, .int .i64 x.kind, .int .i64 x.place, v] := by simpa [Value.cells] using hcs
  subst hl
  have ha := list_bstr a
  rw [← ha]
  have hal : a.data.toList.length ≤ 9223372036854775807 := by unfold maxLen at hw; exact Nat.le_trans (Nat.le_refl _) hw
  by_cases hb : 200 < x.data.length ∨ 400 < a.data.toList.length
  · exact chartShows_big x.step x.kind x.place v x.data a.data.toList W HL hv hal hb
  · exact chartShows_main x.step x.kind x.place v x.data a.data.toList W HL hv (by omega) (by omega)
end Go.Proofs.YtimlbebockfioaaDoor
