/-
  No cell of these rows narrows 'for every input' (looked for: loops, veiled, ifaces, maps, wideKeys, modest, calm, conditions, laid).
  DERIVED. THE GIVEN ROWS OF THIS SEAT. 11 by the template 'for every input the law returns true; each argument reads behind the call as it read before'; 0 by the template 'total and deterministic' (their statements: YtheopadakjojkaaTotals.lean).
  GIVEN WITH THE SEED: the statements are not yours to turn. If you find one false, say at which input.
  Laid BY PROGRAM, IN A SANDBOX (cutbox-rows.mjs): the forced cells as the released guide's own fill.sh prints them over the translation 6981932b76137e85… (all of the seat's roots in one cut). By AI agents, Wed Nov 11 2026. No macro, syntax, notation, axiom, sorry.
-/
import Derived.Test.YtheopadakjojkaaChecked
import GoSem.Claim
import GoSem.ClaimJoined
import GoSem.ClaimMapViews
import Derived.JoinedTies
import Derived.KernelRfl
namespace Go.Proofs.Ytheopadakjojkaa
/- THE CELL 'sum', in the pinned program and in every row, IS THE sha256 OF THE DUMP (.gsa) THAT YtheopadakjojkaaProg.lean LOADS. Nothing in Lean hashes anything: it is a label: what it is worth is what the hold of that sum in a sandbox is worth. -/
noncomputable def Try.pinned : Pinned := { name := "ytheopadakjojkaa", sum := "6981932b76137e85f69a0c32bc7100818da4b5f7f85444289f75f69d07f2a264", checked := Try.checked }
namespace Rows
def none {H : Type} : Left H := { results := [], args := [] }

/-- 'kedgelaw34.OddsCounts': WHATEVER THE INPUT: true; the input reads as it did. -/
def oddsCountsSpec : ChangeSpec := { name := "oddsCounts", fn := fun _ => fun
  | [d1, d2] => { results := [.lit (.bool true)], args := [d1, d2] }
  | _ => none }
def oddsCountsRow : OpenClaim := { program := "ytheopadakjojkaa", sum := "6981932b76137e85f69a0c32bc7100818da4b5f7f85444289f75f69d07f2a264", func := "kedge/kedgelaw34.OddsCounts", spec := "oddsCounts", apart := false }
def OddsCountsSaid : Prop := oddsCountsRow.holds Try.pinned (OpenSpec.ofChange oddsCountsSpec)

/-- ITS FALSE NEIGHBOUR: 'it returns false'. Refute it at one input. -/
def oddsCountsWrong : ChangeSpec := { name := "oddsCounts", fn := fun _ => fun
  | [d1, d2] => { results := [.lit (.bool false)], args := [d1, d2] }
  | _ => none }
def OddsCountsWrongFalsely : Prop := oddsCountsRow.holds Try.pinned (OpenSpec.ofChange oddsCountsWrong)

/-- 'kedgelaw34.OddsEach': WHATEVER THE INPUT: true; the input reads as it did. -/
def oddsEachSpec : ChangeSpec := { name := "oddsEach", fn := fun _ => fun
  | [d1, d2, d3] => { results := [.lit (.bool true)], args := [d1, d2, d3] }
  | _ => none }
def oddsEachRow : OpenClaim := { program := "ytheopadakjojkaa", sum := "6981932b76137e85f69a0c32bc7100818da4b5f7f85444289f75f69d07f2a264", func := "kedge/kedgelaw34.OddsEach", spec := "oddsEach", apart := false }
def OddsEachSaid : Prop := oddsEachRow.holds Try.pinned (OpenSpec.ofChange oddsEachSpec)

/-- ITS FALSE NEIGHBOUR: 'it returns false'. Refute it at one input. -/
def oddsEachWrong : ChangeSpec := { name := "oddsEach", fn := fun _ => fun
  | [d1, d2, d3] => { results := [.lit (.bool false)], args := [d1, d2, d3] }
  | _ => none }
def OddsEachWrongFalsely : Prop := oddsEachRow.holds Try.pinned (OpenSpec.ofChange oddsEachWrong)

/-- 'kedgelaw31.JudgePlaces': WHATEVER THE INPUT: true; the input reads as it did. -/
def judgePlacesSpec : ChangeSpec := { name := "judgePlaces", fn := fun _ => fun
  | [d1, d2] => { results := [.lit (.bool true)], args := [d1, d2] }
  | _ => none }
def judgePlacesRow : OpenClaim := { program := "ytheopadakjojkaa", sum := "6981932b76137e85f69a0c32bc7100818da4b5f7f85444289f75f69d07f2a264", func := "kedge/kedgelaw31.JudgePlaces", spec := "judgePlaces", unfollowed := true, recurses := true, apart := false }
def JudgePlacesSaid : Prop := judgePlacesRow.holds Try.pinned (OpenSpec.ofChange judgePlacesSpec)

/-- ITS FALSE NEIGHBOUR: 'it returns false'. Refute it at one input. -/
def judgePlacesWrong : ChangeSpec := { name := "judgePlaces", fn := fun _ => fun
  | [d1, d2] => { results := [.lit (.bool false)], args := [d1, d2] }
  | _ => none }
def JudgePlacesWrongFalsely : Prop := judgePlacesRow.holds Try.pinned (OpenSpec.ofChange judgePlacesWrong)

/-- 'kedgelaw39.ChopNil': WHATEVER THE INPUT: true; the input reads as it did. -/
def chopNilSpec : ChangeSpec := { name := "chopNil", fn := fun _ => fun
  | [d] => { results := [.lit (.bool true)], args := [d] }
  | _ => none }
def chopNilRow : OpenClaim := { program := "ytheopadakjojkaa", sum := "6981932b76137e85f69a0c32bc7100818da4b5f7f85444289f75f69d07f2a264", func := "kedge/kedgelaw39.ChopNil", spec := "chopNil", apart := false }
def ChopNilSaid : Prop := chopNilRow.holds Try.pinned (OpenSpec.ofChange chopNilSpec)

/-- ITS FALSE NEIGHBOUR: 'it returns false'. Refute it at one input. -/
def chopNilWrong : ChangeSpec := { name := "chopNil", fn := fun _ => fun
  | [d] => { results := [.lit (.bool false)], args := [d] }
  | _ => none }
def ChopNilWrongFalsely : Prop := chopNilRow.holds Try.pinned (OpenSpec.ofChange chopNilWrong)

/-- 'kedgelaw31.JudgeEvents': WHATEVER THE INPUT: true; the input reads as it did. -/
def judgeEventsSpec : ChangeSpec := { name := "judgeEvents", fn := fun _ => fun
  | [d1, d2, d3] => { results := [.lit (.bool true)], args := [d1, d2, d3] }
  | _ => none }
def judgeEventsRow : OpenClaim := { program := "ytheopadakjojkaa", sum := "6981932b76137e85f69a0c32bc7100818da4b5f7f85444289f75f69d07f2a264", func := "kedge/kedgelaw31.JudgeEvents", spec := "judgeEvents", unfollowed := true, recurses := true, apart := false }
def JudgeEventsSaid : Prop := judgeEventsRow.holds Try.pinned (OpenSpec.ofChange judgeEventsSpec)

/-- ITS FALSE NEIGHBOUR: 'it returns false'. Refute it at one input. -/
def judgeEventsWrong : ChangeSpec := { name := "judgeEvents", fn := fun _ => fun
  | [d1, d2, d3] => { results := [.lit (.bool false)], args := [d1, d2, d3] }
  | _ => none }
def JudgeEventsWrongFalsely : Prop := judgeEventsRow.holds Try.pinned (OpenSpec.ofChange judgeEventsWrong)

/-- 'kedgelaw39.ChopJoins': WHATEVER THE INPUT: true; the input reads as it did. -/
def chopJoinsSpec : ChangeSpec := { name := "chopJoins", fn := fun _ => fun
  | [d] => { results := [.lit (.bool true)], args := [d] }
  | _ => none }
def chopJoinsRow : OpenClaim := { program := "ytheopadakjojkaa", sum := "6981932b76137e85f69a0c32bc7100818da4b5f7f85444289f75f69d07f2a264", func := "kedge/kedgelaw39.ChopJoins", spec := "chopJoins", apart := false }
def ChopJoinsSaid : Prop := chopJoinsRow.holds Try.pinned (OpenSpec.ofChange chopJoinsSpec)

/-- ITS FALSE NEIGHBOUR: 'it returns false'. Refute it at one input. -/
def chopJoinsWrong : ChangeSpec := { name := "chopJoins", fn := fun _ => fun
  | [d] => { results := [.lit (.bool false)], args := [d] }
  | _ => none }
def ChopJoinsWrongFalsely : Prop := chopJoinsRow.holds Try.pinned (OpenSpec.ofChange chopJoinsWrong)

/-- 'kedgelaw44.ChanceScripts': WHATEVER THE INPUT: true; the input reads as it did. -/
def chanceScriptsSpec : ChangeSpec := { name := "chanceScripts", fn := fun _ => fun
  | [d1, d2, d3] => { results := [.lit (.bool true)], args := [d1, d2, d3] }
  | _ => none }
def chanceScriptsRow : OpenClaim := { program := "ytheopadakjojkaa", sum := "6981932b76137e85f69a0c32bc7100818da4b5f7f85444289f75f69d07f2a264", func := "kedge/kedgelaw44.ChanceScripts", spec := "chanceScripts", apart := false }
def ChanceScriptsSaid : Prop := chanceScriptsRow.holds Try.pinned (OpenSpec.ofChange chanceScriptsSpec)

/-- ITS FALSE NEIGHBOUR: 'it returns false'. Refute it at one input. -/
def chanceScriptsWrong : ChangeSpec := { name := "chanceScripts", fn := fun _ => fun
  | [d1, d2, d3] => { results := [.lit (.bool false)], args := [d1, d2, d3] }
  | _ => none }
def ChanceScriptsWrongFalsely : Prop := chanceScriptsRow.holds Try.pinned (OpenSpec.ofChange chanceScriptsWrong)

/-- 'kedgelaw44.ChanceParts': WHATEVER THE INPUT: true; the input reads as it did. -/
def chancePartsSpec : ChangeSpec := { name := "chanceParts", fn := fun _ => fun
  | [d1, d2, d3] => { results := [.lit (.bool true)], args := [d1, d2, d3] }
  | _ => none }
def chancePartsRow : OpenClaim := { program := "ytheopadakjojkaa", sum := "6981932b76137e85f69a0c32bc7100818da4b5f7f85444289f75f69d07f2a264", func := "kedge/kedgelaw44.ChanceParts", spec := "chanceParts", apart := false }
def ChancePartsSaid : Prop := chancePartsRow.holds Try.pinned (OpenSpec.ofChange chancePartsSpec)

/-- ITS FALSE NEIGHBOUR: 'it returns false'. Refute it at one input. -/
def chancePartsWrong : ChangeSpec := { name := "chanceParts", fn := fun _ => fun
  | [d1, d2, d3] => { results := [.lit (.bool false)], args := [d1, d2, d3] }
  | _ => none }
def ChancePartsWrongFalsely : Prop := chancePartsRow.holds Try.pinned (OpenSpec.ofChange chancePartsWrong)

/-- 'kedgelaw44.ChanceThrows': WHATEVER THE INPUT: true; the input reads as it did. -/
def chanceThrowsSpec : ChangeSpec := { name := "chanceThrows", fn := fun _ => fun
  | [d1, d2, d3] => { results := [.lit (.bool true)], args := [d1, d2, d3] }
  | _ => none }
def chanceThrowsRow : OpenClaim := { program := "ytheopadakjojkaa", sum := "6981932b76137e85f69a0c32bc7100818da4b5f7f85444289f75f69d07f2a264", func := "kedge/kedgelaw44.ChanceThrows", spec := "chanceThrows", apart := false }
def ChanceThrowsSaid : Prop := chanceThrowsRow.holds Try.pinned (OpenSpec.ofChange chanceThrowsSpec)

/-- ITS FALSE NEIGHBOUR: 'it returns false'. Refute it at one input. -/
def chanceThrowsWrong : ChangeSpec := { name := "chanceThrows", fn := fun _ => fun
  | [d1, d2, d3] => { results := [.lit (.bool false)], args := [d1, d2, d3] }
  | _ => none }
def ChanceThrowsWrongFalsely : Prop := chanceThrowsRow.holds Try.pinned (OpenSpec.ofChange chanceThrowsWrong)

/-- 'kedgelaw31.JudgeCalm': WHATEVER THE INPUT: true; the input reads as it did. -/
def judgeCalmSpec : ChangeSpec := { name := "judgeCalm", fn := fun _ => fun
  | [d1, d2, d3] => { results := [.lit (.bool true)], args := [d1, d2, d3] }
  | _ => none }
def judgeCalmRow : OpenClaim := { program := "ytheopadakjojkaa", sum := "6981932b76137e85f69a0c32bc7100818da4b5f7f85444289f75f69d07f2a264", func := "kedge/kedgelaw31.JudgeCalm", spec := "judgeCalm", unfollowed := true, recurses := true, apart := false }
def JudgeCalmSaid : Prop := judgeCalmRow.holds Try.pinned (OpenSpec.ofChange judgeCalmSpec)

/-- ITS FALSE NEIGHBOUR: 'it returns false'. Refute it at one input. -/
def judgeCalmWrong : ChangeSpec := { name := "judgeCalm", fn := fun _ => fun
  | [d1, d2, d3] => { results := [.lit (.bool false)], args := [d1, d2, d3] }
  | _ => none }
def JudgeCalmWrongFalsely : Prop := judgeCalmRow.holds Try.pinned (OpenSpec.ofChange judgeCalmWrong)

/-- 'kedgelaw31.JudgeRules': WHATEVER THE INPUT: true; the input reads as it did. -/
def judgeRulesSpec : ChangeSpec := { name := "judgeRules", fn := fun _ => fun
  | [d1, d2, d3] => { results := [.lit (.bool true)], args := [d1, d2, d3] }
  | _ => none }
def judgeRulesRow : OpenClaim := { program := "ytheopadakjojkaa", sum := "6981932b76137e85f69a0c32bc7100818da4b5f7f85444289f75f69d07f2a264", func := "kedge/kedgelaw31.JudgeRules", spec := "judgeRules", unfollowed := true, recurses := true, apart := false }
def JudgeRulesSaid : Prop := judgeRulesRow.holds Try.pinned (OpenSpec.ofChange judgeRulesSpec)

/-- ITS FALSE NEIGHBOUR: 'it returns false'. Refute it at one input. -/
def judgeRulesWrong : ChangeSpec := { name := "judgeRules", fn := fun _ => fun
  | [d1, d2, d3] => { results := [.lit (.bool false)], args := [d1, d2, d3] }
  | _ => none }
def JudgeRulesWrongFalsely : Prop := judgeRulesRow.holds Try.pinned (OpenSpec.ofChange judgeRulesWrong)

/- THE SECOND FORM. 'bulk': how many values and letters a reading holds, each counted each time it is reached (what is shared counts as often as it is met; a slice's spare places count too). A statement '..UptoSaid' is the law's where the arguments, and the package variables that the reading takes, are together of bulk at most 1048576: NARROWER than '..Said'. Prove '..Said' where nothing that the law and all that it calls make is longer than what came in: it says more and counts as full. Else prove '..UptoSaid'. A law counts once. -/
mutual
def uptoBulk {H : Type} : DataW H → Nat
  | .lit (.string bytes) => bytes.length + 1
  | .lit _ => 1
  | .nil => 1
  | .ptr d => uptoBulk d + 1
  | .slice elems spare => uptoBulkAll elems + uptoBulkAll spare + 1
  | .agg parts => uptoBulkAll parts + 1
  | .iface _ d => uptoBulk d + 1
  | .map entries => uptoBulkEntries entries + 1
  | .held _ => 1
def uptoBulkAll {H : Type} : List (DataW H) → Nat
  | [] => 0
  | d :: r => uptoBulk d + uptoBulkAll r
def uptoBulkEntries {H : Type} : List (Lit × DataW H) → Nat
  | [] => 0
  | x :: r => uptoBulkEntry x + uptoBulkEntries r
def uptoBulkEntry {H : Type} : Lit × DataW H → Nat
  | (.string bytes, d) => bytes.length + uptoBulk d + 1
  | (_, d) => uptoBulk d + 1
 end
def uptoSmall : (H : Type) → List (DataW H) → Bool := fun _ ds => decide (uptoBulkAll ds ≤ 1048576)
def OpenSpec.upto (s : _root_.Go.ChangeSpec) : _root_.Go.OpenSpec := { _root_.Go.OpenSpec.ofChange s with cond := some uptoSmall }

/-- 'kedgelaw34.OddsCounts', WHERE WHAT IT READS IS OF BULK AT MOST 1048576: true; the input reads as it did. -/
def oddsCountsUptoRow : OpenClaim := { program := "ytheopadakjojkaa", sum := "6981932b76137e85f69a0c32bc7100818da4b5f7f85444289f75f69d07f2a264", func := "kedge/kedgelaw34.OddsCounts", spec := "oddsCounts", apart := false, narrowed := true }
def OddsCountsUptoSaid : Prop := oddsCountsUptoRow.holds Try.pinned (OpenSpec.upto oddsCountsSpec)

/-- 'kedgelaw34.OddsEach', WHERE WHAT IT READS IS OF BULK AT MOST 1048576: true; the input reads as it did. -/
def oddsEachUptoRow : OpenClaim := { program := "ytheopadakjojkaa", sum := "6981932b76137e85f69a0c32bc7100818da4b5f7f85444289f75f69d07f2a264", func := "kedge/kedgelaw34.OddsEach", spec := "oddsEach", apart := false, narrowed := true }
def OddsEachUptoSaid : Prop := oddsEachUptoRow.holds Try.pinned (OpenSpec.upto oddsEachSpec)

/-- 'kedgelaw31.JudgePlaces', WHERE WHAT IT READS IS OF BULK AT MOST 1048576: true; the input reads as it did. -/
def judgePlacesUptoRow : OpenClaim := { program := "ytheopadakjojkaa", sum := "6981932b76137e85f69a0c32bc7100818da4b5f7f85444289f75f69d07f2a264", func := "kedge/kedgelaw31.JudgePlaces", spec := "judgePlaces", unfollowed := true, recurses := true, apart := false, narrowed := true }
def JudgePlacesUptoSaid : Prop := judgePlacesUptoRow.holds Try.pinned (OpenSpec.upto judgePlacesSpec)

/-- 'kedgelaw39.ChopNil', WHERE WHAT IT READS IS OF BULK AT MOST 1048576: true; the input reads as it did. -/
def chopNilUptoRow : OpenClaim := { program := "ytheopadakjojkaa", sum := "6981932b76137e85f69a0c32bc7100818da4b5f7f85444289f75f69d07f2a264", func := "kedge/kedgelaw39.ChopNil", spec := "chopNil", apart := false, narrowed := true }
def ChopNilUptoSaid : Prop := chopNilUptoRow.holds Try.pinned (OpenSpec.upto chopNilSpec)

/-- 'kedgelaw31.JudgeEvents', WHERE WHAT IT READS IS OF BULK AT MOST 1048576: true; the input reads as it did. -/
def judgeEventsUptoRow : OpenClaim := { program := "ytheopadakjojkaa", sum := "6981932b76137e85f69a0c32bc7100818da4b5f7f85444289f75f69d07f2a264", func := "kedge/kedgelaw31.JudgeEvents", spec := "judgeEvents", unfollowed := true, recurses := true, apart := false, narrowed := true }
def JudgeEventsUptoSaid : Prop := judgeEventsUptoRow.holds Try.pinned (OpenSpec.upto judgeEventsSpec)

/-- 'kedgelaw39.ChopJoins', WHERE WHAT IT READS IS OF BULK AT MOST 1048576: true; the input reads as it did. -/
def chopJoinsUptoRow : OpenClaim := { program := "ytheopadakjojkaa", sum := "6981932b76137e85f69a0c32bc7100818da4b5f7f85444289f75f69d07f2a264", func := "kedge/kedgelaw39.ChopJoins", spec := "chopJoins", apart := false, narrowed := true }
def ChopJoinsUptoSaid : Prop := chopJoinsUptoRow.holds Try.pinned (OpenSpec.upto chopJoinsSpec)

/-- 'kedgelaw44.ChanceScripts', WHERE WHAT IT READS IS OF BULK AT MOST 1048576: true; the input reads as it did. -/
def chanceScriptsUptoRow : OpenClaim := { program := "ytheopadakjojkaa", sum := "6981932b76137e85f69a0c32bc7100818da4b5f7f85444289f75f69d07f2a264", func := "kedge/kedgelaw44.ChanceScripts", spec := "chanceScripts", apart := false, narrowed := true }
def ChanceScriptsUptoSaid : Prop := chanceScriptsUptoRow.holds Try.pinned (OpenSpec.upto chanceScriptsSpec)

/-- 'kedgelaw44.ChanceParts', WHERE WHAT IT READS IS OF BULK AT MOST 1048576: true; the input reads as it did. -/
def chancePartsUptoRow : OpenClaim := { program := "ytheopadakjojkaa", sum := "6981932b76137e85f69a0c32bc7100818da4b5f7f85444289f75f69d07f2a264", func := "kedge/kedgelaw44.ChanceParts", spec := "chanceParts", apart := false, narrowed := true }
def ChancePartsUptoSaid : Prop := chancePartsUptoRow.holds Try.pinned (OpenSpec.upto chancePartsSpec)

/-- 'kedgelaw44.ChanceThrows', WHERE WHAT IT READS IS OF BULK AT MOST 1048576: true; the input reads as it did. -/
def chanceThrowsUptoRow : OpenClaim := { program := "ytheopadakjojkaa", sum := "6981932b76137e85f69a0c32bc7100818da4b5f7f85444289f75f69d07f2a264", func := "kedge/kedgelaw44.ChanceThrows", spec := "chanceThrows", apart := false, narrowed := true }
def ChanceThrowsUptoSaid : Prop := chanceThrowsUptoRow.holds Try.pinned (OpenSpec.upto chanceThrowsSpec)

/-- 'kedgelaw31.JudgeCalm', WHERE WHAT IT READS IS OF BULK AT MOST 1048576: true; the input reads as it did. -/
def judgeCalmUptoRow : OpenClaim := { program := "ytheopadakjojkaa", sum := "6981932b76137e85f69a0c32bc7100818da4b5f7f85444289f75f69d07f2a264", func := "kedge/kedgelaw31.JudgeCalm", spec := "judgeCalm", unfollowed := true, recurses := true, apart := false, narrowed := true }
def JudgeCalmUptoSaid : Prop := judgeCalmUptoRow.holds Try.pinned (OpenSpec.upto judgeCalmSpec)

/-- 'kedgelaw31.JudgeRules', WHERE WHAT IT READS IS OF BULK AT MOST 1048576: true; the input reads as it did. -/
def judgeRulesUptoRow : OpenClaim := { program := "ytheopadakjojkaa", sum := "6981932b76137e85f69a0c32bc7100818da4b5f7f85444289f75f69d07f2a264", func := "kedge/kedgelaw31.JudgeRules", spec := "judgeRules", unfollowed := true, recurses := true, apart := false, narrowed := true }
def JudgeRulesUptoSaid : Prop := judgeRulesUptoRow.holds Try.pinned (OpenSpec.upto judgeRulesSpec)

end Rows
end Go.Proofs.Ytheopadakjojkaa
