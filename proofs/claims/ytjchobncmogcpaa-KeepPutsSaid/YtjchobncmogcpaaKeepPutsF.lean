/- KeepPuts as its frame asks for it. -/
import Derived.Test.YtjchobncmogcpaaKeepPuts
import Derived.Test.YtjchobncmogcpaaKeepFrame
namespace Go.Proofs.Ytjchobncmogcpaa
open Go.RowKit
theorem keepPuts_frame (cs : Array Value) (r : KRun) (W : World) (h : repRun.holds W (all W) (Value.agg cs).cells.toList r) :
    Calls Try.prog 6 #[.agg cs] W fun e w' => e = .returned (.bool true) ∧ Ext W w' := by
  obtain ⟨u1, u2, rfl, hwf, h1, h2⟩ := run_open h
  exact keepPuts_any r hwf u1 u2 W h1 h2
end Go.Proofs.Ytjchobncmogcpaa
