/-
  DERIVED. GIVEN WITH THE SEED: THE CARDS: each row of YtimlbebockfioaaDoorRows.lean that lists a variable, with what it lists TIED to the program's text (the seventh form; the later family's looks); each row that meets fmt, with fmt's text TOLD by the authors' own Lean function (tested against real Go, not proved from fmt's source: count such statements apart). THE CARD IS WHAT COUNTS. Prove the row's statement (the work); the ties are given (YtimlbebockfioaaDoorTie.lean); close each card by the builder's one call (the guide's Derived/Test/ToyasCard.lean, 'card_holds'). Laid BY PROGRAM, IN A SANDBOX (cutbox-door.mjs). By AI agents, Wed Nov 11 2026. No macro, syntax, notation, axiom, sorry.
-/
import Derived.Test.YtimlbebockfioaaDoorRows
import GoSem.ClaimSeven
namespace Go.Proofs.YtimlbebockfioaaDoor
namespace Rows

/-- THE TIED CARD OF 'kedgelaw35.ChartShows'. -/
def chartShowsCard : Claim7 := { stood := { row := chartShowsRow, standIns := [], harness := (true, "de782b5c3be4faaf946f5015a676ac7adbc5054a8abd27c02a1c2bcdcbbd40ab"), looks := true }, kinds := [], alts := [], laidByText := true, laidKinds := [.data, .data, .data, .data, .sentinel, .sentinel, .pinned], laidTests := true, laidLooks := .later }
def ChartShowsCardSaid : Prop := Claim7.holds Tryd.pinned (.plain (OpenSpec.ofChange chartShowsSpec)) chartShowsCard

/-- THE TIED CARD OF 'kedgelaw35.ChartReads'. -/
def chartReadsCard : Claim7 := { stood := { row := chartReadsRow, standIns := [], harness := (true, "de782b5c3be4faaf946f5015a676ac7adbc5054a8abd27c02a1c2bcdcbbd40ab"), looks := true }, kinds := [], alts := [], laidByText := true, laidKinds := [.data, .data, .data, .data, .sentinel, .sentinel, .pinned], laidTests := true, laidLooks := .later }
def ChartReadsCardSaid : Prop := Claim7.holds Tryd.pinned (.plain (OpenSpec.ofChange chartReadsSpec)) chartReadsCard

/-- THE TIED CARD OF 'kedgelaw35.ChartBack'. -/
def chartBackCard : Claim7 := { stood := { row := chartBackRow, standIns := [], harness := (true, "de782b5c3be4faaf946f5015a676ac7adbc5054a8abd27c02a1c2bcdcbbd40ab"), looks := true }, kinds := [], alts := [], laidByText := true, laidKinds := [.data, .data, .data, .data, .sentinel, .sentinel, .pinned], laidTests := true, laidLooks := .later }
def ChartBackCardSaid : Prop := Claim7.holds Tryd.pinned (.plain (OpenSpec.ofChange chartBackSpec)) chartBackCard

/-- THE TIED CARD OF 'kedgelaw35.ChartLines'. -/
def chartLinesCard : Claim7 := { stood := { row := chartLinesRow, standIns := [], harness := (true, "de782b5c3be4faaf946f5015a676ac7adbc5054a8abd27c02a1c2bcdcbbd40ab"), looks := true }, kinds := [], alts := [], laidByText := true, laidKinds := [.data, .data, .data, .data, .sentinel, .sentinel, .pinned], laidTests := true, laidLooks := .later }
def ChartLinesCardSaid : Prop := Claim7.holds Tryd.pinned (.plain (OpenSpec.ofChange chartLinesSpec)) chartLinesCard

/-- THE SECOND FORM's CARD OF 'kedgelaw35.ChartShows'. -/
def chartShowsUptoCard : Claim7 := { stood := { row := chartShowsUptoRow, standIns := [], harness := (true, "de782b5c3be4faaf946f5015a676ac7adbc5054a8abd27c02a1c2bcdcbbd40ab"), looks := true }, kinds := [], alts := [], laidByText := true, laidKinds := [.data, .data, .data, .data, .sentinel, .sentinel, .pinned], laidTests := true, laidLooks := .later }
def ChartShowsUptoCardSaid : Prop := Claim7.holds Tryd.pinned (.plain (OpenSpec.upto chartShowsSpec)) chartShowsUptoCard

/-- THE SECOND FORM's CARD OF 'kedgelaw35.ChartReads'. -/
def chartReadsUptoCard : Claim7 := { stood := { row := chartReadsUptoRow, standIns := [], harness := (true, "de782b5c3be4faaf946f5015a676ac7adbc5054a8abd27c02a1c2bcdcbbd40ab"), looks := true }, kinds := [], alts := [], laidByText := true, laidKinds := [.data, .data, .data, .data, .sentinel, .sentinel, .pinned], laidTests := true, laidLooks := .later }
def ChartReadsUptoCardSaid : Prop := Claim7.holds Tryd.pinned (.plain (OpenSpec.upto chartReadsSpec)) chartReadsUptoCard

/-- THE SECOND FORM's CARD OF 'kedgelaw35.ChartBack'. -/
def chartBackUptoCard : Claim7 := { stood := { row := chartBackUptoRow, standIns := [], harness := (true, "de782b5c3be4faaf946f5015a676ac7adbc5054a8abd27c02a1c2bcdcbbd40ab"), looks := true }, kinds := [], alts := [], laidByText := true, laidKinds := [.data, .data, .data, .data, .sentinel, .sentinel, .pinned], laidTests := true, laidLooks := .later }
def ChartBackUptoCardSaid : Prop := Claim7.holds Tryd.pinned (.plain (OpenSpec.upto chartBackSpec)) chartBackUptoCard

/-- THE SECOND FORM's CARD OF 'kedgelaw35.ChartLines'. -/
def chartLinesUptoCard : Claim7 := { stood := { row := chartLinesUptoRow, standIns := [], harness := (true, "de782b5c3be4faaf946f5015a676ac7adbc5054a8abd27c02a1c2bcdcbbd40ab"), looks := true }, kinds := [], alts := [], laidByText := true, laidKinds := [.data, .data, .data, .data, .sentinel, .sentinel, .pinned], laidTests := true, laidLooks := .later }
def ChartLinesUptoCardSaid : Prop := Claim7.holds Tryd.pinned (.plain (OpenSpec.upto chartLinesSpec)) chartLinesUptoCard
end Rows
end Go.Proofs.YtimlbebockfioaaDoor
