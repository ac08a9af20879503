/-
  No cell of these rows narrows 'for every input' (looked for: loops, veiled, ifaces, maps, wideKeys, modest, calm, conditions, laid).
  DERIVED. THE GIVEN ROWS OF THIS SEAT. 11 by the template 'for every input the law returns true; each argument reads behind the call as it read before'; 0 by the template 'total and deterministic' (their statements: YtjchobncmogcpaaTotals.lean).
  GIVEN WITH THE SEED: the statements are not yours to turn. If you find one false, say at which input.
  Laid BY PROGRAM, IN A SANDBOX (cutbox-rows.mjs): the forced cells as the released guide's own fill.sh prints them over the translation e5ff04bc33c4affc… (all of the seat's roots in one cut). By AI agents, Wed Nov 11 2026. No macro, syntax, notation, axiom, sorry.
-/
import Derived.Test.YtjchobncmogcpaaChecked
import GoSem.Claim
import GoSem.ClaimJoined
import GoSem.ClaimMapViews
import Derived.JoinedTies
import Derived.KernelRfl
namespace Go.Proofs.Ytjchobncmogcpaa
/- THE CELL 'sum', in the pinned program and in every row, IS THE sha256 OF THE DUMP (.gsa) THAT YtjchobncmogcpaaProg.lean LOADS. Nothing in Lean hashes anything: it is a label: what it is worth is what the hold of that sum in a sandbox is worth. -/
noncomputable def Try.pinned : Pinned := { name := "ytjchobncmogcpaa", sum := "e5ff04bc33c4affc07b6b746874603ee35a92922e05f218ad0e6700b7cf34579", checked := Try.checked }
namespace Rows
def none {H : Type} : Left H := { results := [], args := [] }

/-- 'kedgelaw25.PullerOrder': WHATEVER THE INPUT: true; the input reads as it did. -/
def pullerOrderSpec : ChangeSpec := { name := "pullerOrder", fn := fun _ => fun
  | [d1, d2, d3] => { results := [.lit (.bool true)], args := [d1, d2, d3] }
  | _ => none }
def pullerOrderRow : OpenClaim := { program := "ytjchobncmogcpaa", sum := "e5ff04bc33c4affc07b6b746874603ee35a92922e05f218ad0e6700b7cf34579", func := "kedge/kedgelaw25.PullerOrder", spec := "pullerOrder", apart := false }
def PullerOrderSaid : Prop := pullerOrderRow.holds Try.pinned (OpenSpec.ofChange pullerOrderSpec)

/-- ITS FALSE NEIGHBOUR: 'it returns false'. Refute it at one input. -/
def pullerOrderWrong : ChangeSpec := { name := "pullerOrder", fn := fun _ => fun
  | [d1, d2, d3] => { results := [.lit (.bool false)], args := [d1, d2, d3] }
  | _ => none }
def PullerOrderWrongFalsely : Prop := pullerOrderRow.holds Try.pinned (OpenSpec.ofChange pullerOrderWrong)

/-- 'kedgelaw25.PullerDoes': WHATEVER THE INPUT: true; the input reads as it did. -/
def pullerDoesSpec : ChangeSpec := { name := "pullerDoes", fn := fun _ => fun
  | [d1, d2] => { results := [.lit (.bool true)], args := [d1, d2] }
  | _ => none }
def pullerDoesRow : OpenClaim := { program := "ytjchobncmogcpaa", sum := "e5ff04bc33c4affc07b6b746874603ee35a92922e05f218ad0e6700b7cf34579", func := "kedge/kedgelaw25.PullerDoes", spec := "pullerDoes", recurses := true, apart := false }
def PullerDoesSaid : Prop := pullerDoesRow.holds Try.pinned (OpenSpec.ofChange pullerDoesSpec)

/-- ITS FALSE NEIGHBOUR: 'it returns false'. Refute it at one input. -/
def pullerDoesWrong : ChangeSpec := { name := "pullerDoes", fn := fun _ => fun
  | [d1, d2] => { results := [.lit (.bool false)], args := [d1, d2] }
  | _ => none }
def PullerDoesWrongFalsely : Prop := pullerDoesRow.holds Try.pinned (OpenSpec.ofChange pullerDoesWrong)

/-- 'kedgelaw25.PullerNil': WHATEVER THE INPUT: true; the input reads as it did. -/
def pullerNilSpec : ChangeSpec := { name := "pullerNil", fn := fun _ => fun
  | [d1, d2] => { results := [.lit (.bool true)], args := [d1, d2] }
  | _ => none }
def pullerNilRow : OpenClaim := { program := "ytjchobncmogcpaa", sum := "e5ff04bc33c4affc07b6b746874603ee35a92922e05f218ad0e6700b7cf34579", func := "kedge/kedgelaw25.PullerNil", spec := "pullerNil", recurses := true, apart := false }
def PullerNilSaid : Prop := pullerNilRow.holds Try.pinned (OpenSpec.ofChange pullerNilSpec)

/-- ITS FALSE NEIGHBOUR: 'it returns false'. Refute it at one input. -/
def pullerNilWrong : ChangeSpec := { name := "pullerNil", fn := fun _ => fun
  | [d1, d2] => { results := [.lit (.bool false)], args := [d1, d2] }
  | _ => none }
def PullerNilWrongFalsely : Prop := pullerNilRow.holds Try.pinned (OpenSpec.ofChange pullerNilWrong)

/-- 'kedgelaw42.KeepPuts': WHATEVER THE INPUT: true; the input reads as it did. -/
def keepPutsSpec : ChangeSpec := { name := "keepPuts", fn := fun _ => fun
  | [d] => { results := [.lit (.bool true)], args := [d] }
  | _ => none }
def keepPutsRow : OpenClaim := { program := "ytjchobncmogcpaa", sum := "e5ff04bc33c4affc07b6b746874603ee35a92922e05f218ad0e6700b7cf34579", func := "kedge/kedgelaw42.KeepPuts", spec := "keepPuts", unfollowed := true, recurses := true, apart := false }
def KeepPutsSaid : Prop := keepPutsRow.holds Try.pinned (OpenSpec.ofChange keepPutsSpec)

/-- ITS FALSE NEIGHBOUR: 'it returns false'. Refute it at one input. -/
def keepPutsWrong : ChangeSpec := { name := "keepPuts", fn := fun _ => fun
  | [d] => { results := [.lit (.bool false)], args := [d] }
  | _ => none }
def KeepPutsWrongFalsely : Prop := keepPutsRow.holds Try.pinned (OpenSpec.ofChange keepPutsWrong)

/-- 'kedgelaw42.KeepGets': WHATEVER THE INPUT: true; the input reads as it did. -/
def keepGetsSpec : ChangeSpec := { name := "keepGets", fn := fun _ => fun
  | [d1, d2, d3] => { results := [.lit (.bool true)], args := [d1, d2, d3] }
  | _ => none }
def keepGetsRow : OpenClaim := { program := "ytjchobncmogcpaa", sum := "e5ff04bc33c4affc07b6b746874603ee35a92922e05f218ad0e6700b7cf34579", func := "kedge/kedgelaw42.KeepGets", spec := "keepGets", unfollowed := true, recurses := true, apart := false }
def KeepGetsSaid : Prop := keepGetsRow.holds Try.pinned (OpenSpec.ofChange keepGetsSpec)

/-- ITS FALSE NEIGHBOUR: 'it returns false'. Refute it at one input. -/
def keepGetsWrong : ChangeSpec := { name := "keepGets", fn := fun _ => fun
  | [d1, d2, d3] => { results := [.lit (.bool false)], args := [d1, d2, d3] }
  | _ => none }
def KeepGetsWrongFalsely : Prop := keepGetsRow.holds Try.pinned (OpenSpec.ofChange keepGetsWrong)

/-- 'kedgelaw42.KeepBack': WHATEVER THE INPUT: true; the input reads as it did. -/
def keepBackSpec : ChangeSpec := { name := "keepBack", fn := fun _ => fun
  | [d1, d2, d3] => { results := [.lit (.bool true)], args := [d1, d2, d3] }
  | _ => none }
def keepBackRow : OpenClaim := { program := "ytjchobncmogcpaa", sum := "e5ff04bc33c4affc07b6b746874603ee35a92922e05f218ad0e6700b7cf34579", func := "kedge/kedgelaw42.KeepBack", spec := "keepBack", unfollowed := true, recurses := true, apart := false }
def KeepBackSaid : Prop := keepBackRow.holds Try.pinned (OpenSpec.ofChange keepBackSpec)

/-- ITS FALSE NEIGHBOUR: 'it returns false'. Refute it at one input. -/
def keepBackWrong : ChangeSpec := { name := "keepBack", fn := fun _ => fun
  | [d1, d2, d3] => { results := [.lit (.bool false)], args := [d1, d2, d3] }
  | _ => none }
def KeepBackWrongFalsely : Prop := keepBackRow.holds Try.pinned (OpenSpec.ofChange keepBackWrong)

/-- 'kedgelaw23.TimerDoes': WHATEVER THE INPUT: true; the input reads as it did. -/
def timerDoesSpec : ChangeSpec := { name := "timerDoes", fn := fun _ => fun
  | [d1, d2] => { results := [.lit (.bool true)], args := [d1, d2] }
  | _ => none }
def timerDoesRow : OpenClaim := { program := "ytjchobncmogcpaa", sum := "e5ff04bc33c4affc07b6b746874603ee35a92922e05f218ad0e6700b7cf34579", func := "kedge/kedgelaw23.TimerDoes", spec := "timerDoes", unfollowed := true, recurses := true, apart := false }
def TimerDoesSaid : Prop := timerDoesRow.holds Try.pinned (OpenSpec.ofChange timerDoesSpec)

/-- ITS FALSE NEIGHBOUR: 'it returns false'. Refute it at one input. -/
def timerDoesWrong : ChangeSpec := { name := "timerDoes", fn := fun _ => fun
  | [d1, d2] => { results := [.lit (.bool false)], args := [d1, d2] }
  | _ => none }
def TimerDoesWrongFalsely : Prop := timerDoesRow.holds Try.pinned (OpenSpec.ofChange timerDoesWrong)

/-- 'kedgelaw23.TimerDue': WHATEVER THE INPUT: true; the input reads as it did. -/
def timerDueSpec : ChangeSpec := { name := "timerDue", fn := fun _ => fun
  | [d1, d2, d3] => { results := [.lit (.bool true)], args := [d1, d2, d3] }
  | _ => none }
def timerDueRow : OpenClaim := { program := "ytjchobncmogcpaa", sum := "e5ff04bc33c4affc07b6b746874603ee35a92922e05f218ad0e6700b7cf34579", func := "kedge/kedgelaw23.TimerDue", spec := "timerDue", unfollowed := true, recurses := true, apart := false }
def TimerDueSaid : Prop := timerDueRow.holds Try.pinned (OpenSpec.ofChange timerDueSpec)

/-- ITS FALSE NEIGHBOUR: 'it returns false'. Refute it at one input. -/
def timerDueWrong : ChangeSpec := { name := "timerDue", fn := fun _ => fun
  | [d1, d2, d3] => { results := [.lit (.bool false)], args := [d1, d2, d3] }
  | _ => none }
def TimerDueWrongFalsely : Prop := timerDueRow.holds Try.pinned (OpenSpec.ofChange timerDueWrong)

/-- 'kedgelaw45.IdealDoes': WHATEVER THE INPUT: true; the input reads as it did. -/
def idealDoesSpec : ChangeSpec := { name := "idealDoes", fn := fun _ => fun
  | [d1, d2] => { results := [.lit (.bool true)], args := [d1, d2] }
  | _ => none }
def idealDoesRow : OpenClaim := { program := "ytjchobncmogcpaa", sum := "e5ff04bc33c4affc07b6b746874603ee35a92922e05f218ad0e6700b7cf34579", func := "kedge/kedgelaw45.IdealDoes", spec := "idealDoes", recurses := true, apart := false }
def IdealDoesSaid : Prop := idealDoesRow.holds Try.pinned (OpenSpec.ofChange idealDoesSpec)

/-- ITS FALSE NEIGHBOUR: 'it returns false'. Refute it at one input. -/
def idealDoesWrong : ChangeSpec := { name := "idealDoes", fn := fun _ => fun
  | [d1, d2] => { results := [.lit (.bool false)], args := [d1, d2] }
  | _ => none }
def IdealDoesWrongFalsely : Prop := idealDoesRow.holds Try.pinned (OpenSpec.ofChange idealDoesWrong)

/-- 'kedgelaw45.IdealFifo': WHATEVER THE INPUT: true; the input reads as it did. -/
def idealFifoSpec : ChangeSpec := { name := "idealFifo", fn := fun _ => fun
  | [d] => { results := [.lit (.bool true)], args := [d] }
  | _ => none }
def idealFifoRow : OpenClaim := { program := "ytjchobncmogcpaa", sum := "e5ff04bc33c4affc07b6b746874603ee35a92922e05f218ad0e6700b7cf34579", func := "kedge/kedgelaw45.IdealFifo", spec := "idealFifo", recurses := true, apart := false }
def IdealFifoSaid : Prop := idealFifoRow.holds Try.pinned (OpenSpec.ofChange idealFifoSpec)

/-- ITS FALSE NEIGHBOUR: 'it returns false'. Refute it at one input. -/
def idealFifoWrong : ChangeSpec := { name := "idealFifo", fn := fun _ => fun
  | [d] => { results := [.lit (.bool false)], args := [d] }
  | _ => none }
def IdealFifoWrongFalsely : Prop := idealFifoRow.holds Try.pinned (OpenSpec.ofChange idealFifoWrong)

/-- 'kedgelaw45.IdealJudge': WHATEVER THE INPUT: true; the input reads as it did. -/
def idealJudgeSpec : ChangeSpec := { name := "idealJudge", fn := fun _ => fun
  | [d] => { results := [.lit (.bool true)], args := [d] }
  | _ => none }
def idealJudgeRow : OpenClaim := { program := "ytjchobncmogcpaa", sum := "e5ff04bc33c4affc07b6b746874603ee35a92922e05f218ad0e6700b7cf34579", func := "kedge/kedgelaw45.IdealJudge", spec := "idealJudge", unfollowed := true, recurses := true, apart := false }
def IdealJudgeSaid : Prop := idealJudgeRow.holds Try.pinned (OpenSpec.ofChange idealJudgeSpec)

/-- ITS FALSE NEIGHBOUR: 'it returns false'. Refute it at one input. -/
def idealJudgeWrong : ChangeSpec := { name := "idealJudge", fn := fun _ => fun
  | [d] => { results := [.lit (.bool false)], args := [d] }
  | _ => none }
def IdealJudgeWrongFalsely : Prop := idealJudgeRow.holds Try.pinned (OpenSpec.ofChange idealJudgeWrong)

/- THE SECOND FORM. 'bulk': how many values and letters a reading holds, each counted each time it is reached (what is shared counts as often as it is met; a slice's spare places count too). A statement '..UptoSaid' is the law's where the arguments, and the package variables that the reading takes, are together of bulk at most 1048576: NARROWER than '..Said'. Prove '..Said' where nothing that the law and all that it calls make is longer than what came in: it says more and counts as full. Else prove '..UptoSaid'. A law counts once. -/
mutual
def uptoBulk {H : Type} : DataW H → Nat
  | .lit (.string bytes) => bytes.length + 1
  | .lit _ => 1
  | .nil => 1
  | .ptr d => uptoBulk d + 1
  | .slice elems spare => uptoBulkAll elems + uptoBulkAll spare + 1
  | .agg parts => uptoBulkAll parts + 1
  | .iface _ d => uptoBulk d + 1
  | .map entries => uptoBulkEntries entries + 1
  | .held _ => 1
def uptoBulkAll {H : Type} : List (DataW H) → Nat
  | [] => 0
  | d :: r => uptoBulk d + uptoBulkAll r
def uptoBulkEntries {H : Type} : List (Lit × DataW H) → Nat
  | [] => 0
  | x :: r => uptoBulkEntry x + uptoBulkEntries r
def uptoBulkEntry {H : Type} : Lit × DataW H → Nat
  | (.string bytes, d) => bytes.length + uptoBulk d + 1
  | (_, d) => uptoBulk d + 1
 end
def uptoSmall : (H : Type) → List (DataW H) → Bool := fun _ ds => decide (uptoBulkAll ds ≤ 1048576)
def OpenSpec.upto (s : _root_.Go.ChangeSpec) : _root_.Go.OpenSpec := { _root_.Go.OpenSpec.ofChange s with cond := some uptoSmall }

/-- 'kedgelaw25.PullerOrder', WHERE WHAT IT READS IS OF BULK AT MOST 1048576: true; the input reads as it did. -/
def pullerOrderUptoRow : OpenClaim := { program := "ytjchobncmogcpaa", sum := "e5ff04bc33c4affc07b6b746874603ee35a92922e05f218ad0e6700b7cf34579", func := "kedge/kedgelaw25.PullerOrder", spec := "pullerOrder", apart := false, narrowed := true }
def PullerOrderUptoSaid : Prop := pullerOrderUptoRow.holds Try.pinned (OpenSpec.upto pullerOrderSpec)

/-- 'kedgelaw25.PullerDoes', WHERE WHAT IT READS IS OF BULK AT MOST 1048576: true; the input reads as it did. -/
def pullerDoesUptoRow : OpenClaim := { program := "ytjchobncmogcpaa", sum := "e5ff04bc33c4affc07b6b746874603ee35a92922e05f218ad0e6700b7cf34579", func := "kedge/kedgelaw25.PullerDoes", spec := "pullerDoes", recurses := true, apart := false, narrowed := true }
def PullerDoesUptoSaid : Prop := pullerDoesUptoRow.holds Try.pinned (OpenSpec.upto pullerDoesSpec)

/-- 'kedgelaw25.PullerNil', WHERE WHAT IT READS IS OF BULK AT MOST 1048576: true; the input reads as it did. -/
def pullerNilUptoRow : OpenClaim := { program := "ytjchobncmogcpaa", sum := "e5ff04bc33c4affc07b6b746874603ee35a92922e05f218ad0e6700b7cf34579", func := "kedge/kedgelaw25.PullerNil", spec := "pullerNil", recurses := true, apart := false, narrowed := true }
def PullerNilUptoSaid : Prop := pullerNilUptoRow.holds Try.pinned (OpenSpec.upto pullerNilSpec)

/-- 'kedgelaw42.KeepPuts', WHERE WHAT IT READS IS OF BULK AT MOST 1048576: true; the input reads as it did. -/
def keepPutsUptoRow : OpenClaim := { program := "ytjchobncmogcpaa", sum := "e5ff04bc33c4affc07b6b746874603ee35a92922e05f218ad0e6700b7cf34579", func := "kedge/kedgelaw42.KeepPuts", spec := "keepPuts", unfollowed := true, recurses := true, apart := false, narrowed := true }
def KeepPutsUptoSaid : Prop := keepPutsUptoRow.holds Try.pinned (OpenSpec.upto keepPutsSpec)

/-- 'kedgelaw42.KeepGets', WHERE WHAT IT READS IS OF BULK AT MOST 1048576: true; the input reads as it did. -/
def keepGetsUptoRow : OpenClaim := { program := "ytjchobncmogcpaa", sum := "e5ff04bc33c4affc07b6b746874603ee35a92922e05f218ad0e6700b7cf34579", func := "kedge/kedgelaw42.KeepGets", spec := "keepGets", unfollowed := true, recurses := true, apart := false, narrowed := true }
def KeepGetsUptoSaid : Prop := keepGetsUptoRow.holds Try.pinned (OpenSpec.upto keepGetsSpec)

/-- 'kedgelaw42.KeepBack', WHERE WHAT IT READS IS OF BULK AT MOST 1048576: true; the input reads as it did. -/
def keepBackUptoRow : OpenClaim := { program := "ytjchobncmogcpaa", sum := "e5ff04bc33c4affc07b6b746874603ee35a92922e05f218ad0e6700b7cf34579", func := "kedge/kedgelaw42.KeepBack", spec := "keepBack", unfollowed := true, recurses := true, apart := false, narrowed := true }
def KeepBackUptoSaid : Prop := keepBackUptoRow.holds Try.pinned (OpenSpec.upto keepBackSpec)

/-- 'kedgelaw23.TimerDoes', WHERE WHAT IT READS IS OF BULK AT MOST 1048576: true; the input reads as it did. -/
def timerDoesUptoRow : OpenClaim := { program := "ytjchobncmogcpaa", sum := "e5ff04bc33c4affc07b6b746874603ee35a92922e05f218ad0e6700b7cf34579", func := "kedge/kedgelaw23.TimerDoes", spec := "timerDoes", unfollowed := true, recurses := true, apart := false, narrowed := true }
def TimerDoesUptoSaid : Prop := timerDoesUptoRow.holds Try.pinned (OpenSpec.upto timerDoesSpec)

/-- 'kedgelaw23.TimerDue', WHERE WHAT IT READS IS OF BULK AT MOST 1048576: true; the input reads as it did. -/
def timerDueUptoRow : OpenClaim := { program := "ytjchobncmogcpaa", sum := "e5ff04bc33c4affc07b6b746874603ee35a92922e05f218ad0e6700b7cf34579", func := "kedge/kedgelaw23.TimerDue", spec := "timerDue", unfollowed := true, recurses := true, apart := false, narrowed := true }
def TimerDueUptoSaid : Prop := timerDueUptoRow.holds Try.pinned (OpenSpec.upto timerDueSpec)

/-- 'kedgelaw45.IdealDoes', WHERE WHAT IT READS IS OF BULK AT MOST 1048576: true; the input reads as it did. -/
def idealDoesUptoRow : OpenClaim := { program := "ytjchobncmogcpaa", sum := "e5ff04bc33c4affc07b6b746874603ee35a92922e05f218ad0e6700b7cf34579", func := "kedge/kedgelaw45.IdealDoes", spec := "idealDoes", recurses := true, apart := false, narrowed := true }
def IdealDoesUptoSaid : Prop := idealDoesUptoRow.holds Try.pinned (OpenSpec.upto idealDoesSpec)

/-- 'kedgelaw45.IdealFifo', WHERE WHAT IT READS IS OF BULK AT MOST 1048576: true; the input reads as it did. -/
def idealFifoUptoRow : OpenClaim := { program := "ytjchobncmogcpaa", sum := "e5ff04bc33c4affc07b6b746874603ee35a92922e05f218ad0e6700b7cf34579", func := "kedge/kedgelaw45.IdealFifo", spec := "idealFifo", recurses := true, apart := false, narrowed := true }
def IdealFifoUptoSaid : Prop := idealFifoUptoRow.holds Try.pinned (OpenSpec.upto idealFifoSpec)

/-- 'kedgelaw45.IdealJudge', WHERE WHAT IT READS IS OF BULK AT MOST 1048576: true; the input reads as it did. -/
def idealJudgeUptoRow : OpenClaim := { program := "ytjchobncmogcpaa", sum := "e5ff04bc33c4affc07b6b746874603ee35a92922e05f218ad0e6700b7cf34579", func := "kedge/kedgelaw45.IdealJudge", spec := "idealJudge", unfollowed := true, recurses := true, apart := false, narrowed := true }
def IdealJudgeUptoSaid : Prop := idealJudgeUptoRow.holds Try.pinned (OpenSpec.upto idealJudgeSpec)

end Rows
end Go.Proofs.Ytjchobncmogcpaa
