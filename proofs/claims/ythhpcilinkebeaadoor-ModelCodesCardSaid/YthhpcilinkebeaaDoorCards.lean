/-
  DERIVED. GIVEN WITH THE SEED: THE CARDS: each row of YthhpcilinkebeaaDoorRows.lean that lists a variable, with what it lists TIED to the program's text (the seventh form; the later family's looks); each row that meets fmt, with fmt's text TOLD by the authors' own Lean function (tested against real Go, not proved from fmt's source: count such statements apart). THE CARD IS WHAT COUNTS. Prove the row's statement (the work); the ties are given (YthhpcilinkebeaaDoorTie.lean); close each card by the builder's one call (the guide's Derived/Test/ToyasCard.lean, 'card_holds'). Laid BY PROGRAM, IN A SANDBOX (cutbox-door.mjs). By AI agents, Wed Nov 11 2026. No macro, syntax, notation, axiom, sorry.
-/
import Derived.Test.YthhpcilinkebeaaDoorRows
import GoSem.ClaimSeven
namespace Go.Proofs.YthhpcilinkebeaaDoor
namespace Rows

/-- THE TIED CARD OF 'flintlaw17.ModelSnaps'. -/
def modelSnapsCard : Claim7 := { stood := { row := modelSnapsRow, standIns := [], harness := (true, "a9c0f8622d6c0f7ec973ac369d382f2aa56a1a7815bed491455a34d1fd74f9cc"), looks := true }, kinds := [], alts := [], laidByText := true, laidKinds := [.data, .pinned], laidTests := true, laidLooks := .later }
def ModelSnapsCardSaid : Prop := Claim7.holds Tryd.pinned (.plain (OpenSpec.ofChange modelSnapsSpec)) modelSnapsCard

/-- THE TIED CARD OF 'flintlaw17.ModelReads'. -/
def modelReadsCard : Claim7 := { stood := { row := modelReadsRow, standIns := [], harness := (true, "a9c0f8622d6c0f7ec973ac369d382f2aa56a1a7815bed491455a34d1fd74f9cc"), looks := true }, kinds := [], alts := [], laidByText := true, laidKinds := [.data, .pinned], laidTests := true, laidLooks := .later }
def ModelReadsCardSaid : Prop := Claim7.holds Tryd.pinned (.plain (OpenSpec.ofChange modelReadsSpec)) modelReadsCard

/-- THE TIED CARD OF 'flintlaw17.ModelQuota'. -/
def modelQuotaCard : Claim7 := { stood := { row := modelQuotaRow, standIns := [], harness := (true, "a9c0f8622d6c0f7ec973ac369d382f2aa56a1a7815bed491455a34d1fd74f9cc"), looks := true }, kinds := [], alts := [], laidByText := true, laidKinds := [.data, .pinned], laidTests := true, laidLooks := .later }
def ModelQuotaCardSaid : Prop := Claim7.holds Tryd.pinned (.plain (OpenSpec.ofChange modelQuotaSpec)) modelQuotaCard

/-- THE TIED CARD OF 'flintlaw17.ModelPlays'. -/
def modelPlaysCard : Claim7 := { stood := { row := modelPlaysRow, standIns := [], harness := (true, "a9c0f8622d6c0f7ec973ac369d382f2aa56a1a7815bed491455a34d1fd74f9cc"), looks := true }, kinds := [], alts := [], laidByText := true, laidKinds := [.data, .pinned], laidTests := true, laidLooks := .later }
def ModelPlaysCardSaid : Prop := Claim7.holds Tryd.pinned (.plain (OpenSpec.ofChange modelPlaysSpec)) modelPlaysCard

/-- THE TIED CARD OF 'flintlaw17.ModelSame'. -/
def modelSameCard : Claim7 := { stood := { row := modelSameRow, standIns := [], harness := (true, "a9c0f8622d6c0f7ec973ac369d382f2aa56a1a7815bed491455a34d1fd74f9cc"), looks := true }, kinds := [], alts := [], laidByText := true, laidKinds := [.data, .pinned], laidTests := true, laidLooks := .later }
def ModelSameCardSaid : Prop := Claim7.holds Tryd.pinned (.plain (OpenSpec.ofChange modelSameSpec)) modelSameCard

/-- THE TIED CARD OF 'flintlaw17.ModelTwins'. -/
def modelTwinsCard : Claim7 := { stood := { row := modelTwinsRow, standIns := [], harness := (true, "a9c0f8622d6c0f7ec973ac369d382f2aa56a1a7815bed491455a34d1fd74f9cc"), looks := true }, kinds := [], alts := [], laidByText := true, laidKinds := [.data, .pinned], laidTests := true, laidLooks := .later }
def ModelTwinsCardSaid : Prop := Claim7.holds Tryd.pinned (.plain (OpenSpec.ofChange modelTwinsSpec)) modelTwinsCard

/-- THE TIED CARD OF 'flintlaw17.ModelCodes'. -/
def modelCodesCard : Claim7 := { stood := { row := modelCodesRow, standIns := [], harness := (true, "a9c0f8622d6c0f7ec973ac369d382f2aa56a1a7815bed491455a34d1fd74f9cc"), looks := true }, kinds := [], alts := [], laidByText := true, laidKinds := [.data, .pinned], laidTests := true, laidLooks := .later }
def ModelCodesCardSaid : Prop := Claim7.holds Tryd.pinned (.plain (OpenSpec.ofChange modelCodesSpec)) modelCodesCard

/-- THE SECOND FORM's CARD OF 'flintlaw17.ModelSnaps'. -/
def modelSnapsUptoCard : Claim7 := { stood := { row := modelSnapsUptoRow, standIns := [], harness := (true, "a9c0f8622d6c0f7ec973ac369d382f2aa56a1a7815bed491455a34d1fd74f9cc"), looks := true }, kinds := [], alts := [], laidByText := true, laidKinds := [.data, .pinned], laidTests := true, laidLooks := .later }
def ModelSnapsUptoCardSaid : Prop := Claim7.holds Tryd.pinned (.plain (OpenSpec.upto modelSnapsSpec)) modelSnapsUptoCard

/-- THE SECOND FORM's CARD OF 'flintlaw17.ModelReads'. -/
def modelReadsUptoCard : Claim7 := { stood := { row := modelReadsUptoRow, standIns := [], harness := (true, "a9c0f8622d6c0f7ec973ac369d382f2aa56a1a7815bed491455a34d1fd74f9cc"), looks := true }, kinds := [], alts := [], laidByText := true, laidKinds := [.data, .pinned], laidTests := true, laidLooks := .later }
def ModelReadsUptoCardSaid : Prop := Claim7.holds Tryd.pinned (.plain (OpenSpec.upto modelReadsSpec)) modelReadsUptoCard

/-- THE SECOND FORM's CARD OF 'flintlaw17.ModelQuota'. -/
def modelQuotaUptoCard : Claim7 := { stood := { row := modelQuotaUptoRow, standIns := [], harness := (true, "a9c0f8622d6c0f7ec973ac369d382f2aa56a1a7815bed491455a34d1fd74f9cc"), looks := true }, kinds := [], alts := [], laidByText := true, laidKinds := [.data, .pinned], laidTests := true, laidLooks := .later }
def ModelQuotaUptoCardSaid : Prop := Claim7.holds Tryd.pinned (.plain (OpenSpec.upto modelQuotaSpec)) modelQuotaUptoCard

/-- THE SECOND FORM's CARD OF 'flintlaw17.ModelPlays'. -/
def modelPlaysUptoCard : Claim7 := { stood := { row := modelPlaysUptoRow, standIns := [], harness := (true, "a9c0f8622d6c0f7ec973ac369d382f2aa56a1a7815bed491455a34d1fd74f9cc"), looks := true }, kinds := [], alts := [], laidByText := true, laidKinds := [.data, .pinned], laidTests := true, laidLooks := .later }
def ModelPlaysUptoCardSaid : Prop := Claim7.holds Tryd.pinned (.plain (OpenSpec.upto modelPlaysSpec)) modelPlaysUptoCard

/-- THE SECOND FORM's CARD OF 'flintlaw17.ModelSame'. -/
def modelSameUptoCard : Claim7 := { stood := { row := modelSameUptoRow, standIns := [], harness := (true, "a9c0f8622d6c0f7ec973ac369d382f2aa56a1a7815bed491455a34d1fd74f9cc"), looks := true }, kinds := [], alts := [], laidByText := true, laidKinds := [.data, .pinned], laidTests := true, laidLooks := .later }
def ModelSameUptoCardSaid : Prop := Claim7.holds Tryd.pinned (.plain (OpenSpec.upto modelSameSpec)) modelSameUptoCard

/-- THE SECOND FORM's CARD OF 'flintlaw17.ModelTwins'. -/
def modelTwinsUptoCard : Claim7 := { stood := { row := modelTwinsUptoRow, standIns := [], harness := (true, "a9c0f8622d6c0f7ec973ac369d382f2aa56a1a7815bed491455a34d1fd74f9cc"), looks := true }, kinds := [], alts := [], laidByText := true, laidKinds := [.data, .pinned], laidTests := true, laidLooks := .later }
def ModelTwinsUptoCardSaid : Prop := Claim7.holds Tryd.pinned (.plain (OpenSpec.upto modelTwinsSpec)) modelTwinsUptoCard

/-- THE SECOND FORM's CARD OF 'flintlaw17.ModelCodes'. -/
def modelCodesUptoCard : Claim7 := { stood := { row := modelCodesUptoRow, standIns := [], harness := (true, "a9c0f8622d6c0f7ec973ac369d382f2aa56a1a7815bed491455a34d1fd74f9cc"), looks := true }, kinds := [], alts := [], laidByText := true, laidKinds := [.data, .pinned], laidTests := true, laidLooks := .later }
def ModelCodesUptoCardSaid : Prop := Claim7.holds Tryd.pinned (.plain (OpenSpec.upto modelCodesSpec)) modelCodesUptoCard
end Rows
end Go.Proofs.YthhpcilinkebeaaDoor
