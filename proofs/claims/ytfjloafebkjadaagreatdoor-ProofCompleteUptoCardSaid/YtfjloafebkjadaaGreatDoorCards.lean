/-
  DERIVED. GIVEN WITH THE SEED: THE CARDS: each row of YtfjloafebkjadaaGreatDoorRows.lean that lists a variable, with what it lists TIED to the program's text (the seventh form; the later family's looks); each row that meets fmt, with fmt's text TOLD by the authors' own Lean function (tested against real Go, not proved from fmt's source: count such statements apart). THE CARD IS WHAT COUNTS. Prove the row's statement (the work); the ties are given (YtfjloafebkjadaaGreatDoorTie.lean); close each card by the builder's one call (the guide's Derived/Test/ToyasCard.lean, 'card_holds'). Laid BY PROGRAM, IN A SANDBOX (cutbox-door.mjs). By AI agents, Wed Nov 11 2026. No macro, syntax, notation, axiom, sorry.
-/
import Derived.Test.YtfjloafebkjadaaGreatDoorRows
import GoSem.ClaimSeven
namespace Go.Proofs.YtfjloafebkjadaaGreatDoor
namespace Rows

/-- THE TIED CARD OF 'netwrightlaw27.ProofSound'. -/
def proofSoundCard : Claim7 := { stood := { row := proofSoundRow, standIns := [], harness := (true, "db014aa389c511178f5fdef70e343ea54f1a2ae7ec592abda5cb90b658dbe54a"), looks := false }, kinds := [], alts := [], laidByText := true, laidKinds := [.data, .data, .data], laidTests := true, laidLooks := .later }
def ProofSoundCardSaid : Prop := Claim7.holds Tryz.pinned (.plain (OpenSpec.ofChange proofSoundSpec)) proofSoundCard

/-- THE TIED CARD OF 'netwrightlaw27.ProofCores'. -/
def proofCoresCard : Claim7 := { stood := { row := proofCoresRow, standIns := [], harness := (true, "db014aa389c511178f5fdef70e343ea54f1a2ae7ec592abda5cb90b658dbe54a"), looks := false }, kinds := [], alts := [], laidByText := true, laidKinds := [.data, .data, .data], laidTests := true, laidLooks := .later }
def ProofCoresCardSaid : Prop := Claim7.holds Tryz.pinned (.plain (OpenSpec.ofChange proofCoresSpec)) proofCoresCard

/-- THE TIED CARD OF 'netwrightlaw27.ProofResolves'. -/
def proofResolvesCard : Claim7 := { stood := { row := proofResolvesRow, standIns := [], harness := (true, "db014aa389c511178f5fdef70e343ea54f1a2ae7ec592abda5cb90b658dbe54a"), looks := false }, kinds := [], alts := [], laidByText := true, laidKinds := [.data, .data, .data], laidTests := true, laidLooks := .later }
def ProofResolvesCardSaid : Prop := Claim7.holds Tryz.pinned (.plain (OpenSpec.ofChange proofResolvesSpec)) proofResolvesCard

/-- THE TIED CARD OF 'netwrightlaw27.ProofModels'. -/
def proofModelsCard : Claim7 := { stood := { row := proofModelsRow, standIns := [], harness := (true, "db014aa389c511178f5fdef70e343ea54f1a2ae7ec592abda5cb90b658dbe54a"), looks := false }, kinds := [], alts := [], laidByText := true, laidKinds := [.data, .data, .data], laidTests := true, laidLooks := .later }
def ProofModelsCardSaid : Prop := Claim7.holds Tryz.pinned (.plain (OpenSpec.ofChange proofModelsSpec)) proofModelsCard

/-- THE TIED CARD OF 'netwrightlaw27.ProofExpands'. -/
def proofExpandsCard : Claim7 := { stood := { row := proofExpandsRow, standIns := [], harness := (true, "db014aa389c511178f5fdef70e343ea54f1a2ae7ec592abda5cb90b658dbe54a"), looks := false }, kinds := [], alts := [], laidByText := true, laidKinds := [.data, .data, .data], laidTests := true, laidLooks := .later }
def ProofExpandsCardSaid : Prop := Claim7.holds Tryz.pinned (.plain (OpenSpec.ofChange proofExpandsSpec)) proofExpandsCard

/-- THE TIED CARD OF 'netwrightlaw27.ProofOwn'. -/
def proofOwnCard : Claim7 := { stood := { row := proofOwnRow, standIns := [], harness := (true, "db014aa389c511178f5fdef70e343ea54f1a2ae7ec592abda5cb90b658dbe54a"), looks := false }, kinds := [], alts := [], laidByText := true, laidKinds := [.data, .data, .data], laidTests := true, laidLooks := .later }
def ProofOwnCardSaid : Prop := Claim7.holds Tryz.pinned (.plain (OpenSpec.ofChange proofOwnSpec)) proofOwnCard

/-- THE TIED CARD OF 'netwrightlaw27.ProofSteps'. -/
def proofStepsCard : Claim7 := { stood := { row := proofStepsRow, standIns := [], harness := (true, "db014aa389c511178f5fdef70e343ea54f1a2ae7ec592abda5cb90b658dbe54a"), looks := false }, kinds := [], alts := [], laidByText := true, laidKinds := [.data, .data, .data], laidTests := true, laidLooks := .later }
def ProofStepsCardSaid : Prop := Claim7.holds Tryz.pinned (.plain (OpenSpec.ofChange proofStepsSpec)) proofStepsCard

/-- THE TIED CARD OF 'netwrightlaw27.ProofFollowed'. -/
def proofFollowedCard : Claim7 := { stood := { row := proofFollowedRow, standIns := [], harness := (true, "db014aa389c511178f5fdef70e343ea54f1a2ae7ec592abda5cb90b658dbe54a"), looks := false }, kinds := [], alts := [], laidByText := true, laidKinds := [.data, .data, .data], laidTests := true, laidLooks := .later }
def ProofFollowedCardSaid : Prop := Claim7.holds Tryz.pinned (.plain (OpenSpec.ofChange proofFollowedSpec)) proofFollowedCard

/-- THE TIED CARD OF 'netwrightlaw27.ProofMore'. -/
def proofMoreCard : Claim7 := { stood := { row := proofMoreRow, standIns := [], harness := (true, "db014aa389c511178f5fdef70e343ea54f1a2ae7ec592abda5cb90b658dbe54a"), looks := false }, kinds := [], alts := [], laidByText := true, laidKinds := [.data, .data, .data], laidTests := true, laidLooks := .later }
def ProofMoreCardSaid : Prop := Claim7.holds Tryz.pinned (.plain (OpenSpec.ofChange proofMoreSpec)) proofMoreCard

/-- THE TIED CARD OF 'netwrightlaw27.ProofComplete'. -/
def proofCompleteCard : Claim7 := { stood := { row := proofCompleteRow, standIns := [], harness := (true, "db014aa389c511178f5fdef70e343ea54f1a2ae7ec592abda5cb90b658dbe54a"), looks := false }, kinds := [], alts := [], laidByText := true, laidKinds := [.data, .data, .data], laidTests := true, laidLooks := .later }
def ProofCompleteCardSaid : Prop := Claim7.holds Tryz.pinned (.plain (OpenSpec.ofChange proofCompleteSpec)) proofCompleteCard

/-- THE TIED CARD OF 'netwrightlaw27.ProofBetween'. -/
def proofBetweenCard : Claim7 := { stood := { row := proofBetweenRow, standIns := [], harness := (true, "db014aa389c511178f5fdef70e343ea54f1a2ae7ec592abda5cb90b658dbe54a"), looks := false }, kinds := [], alts := [], laidByText := true, laidKinds := [.data, .data, .data], laidTests := true, laidLooks := .later }
def ProofBetweenCardSaid : Prop := Claim7.holds Tryz.pinned (.plain (OpenSpec.ofChange proofBetweenSpec)) proofBetweenCard

/-- THE SECOND FORM's CARD OF 'netwrightlaw27.ProofSound'. -/
def proofSoundUptoCard : Claim7 := { stood := { row := proofSoundUptoRow, standIns := [], harness := (true, "db014aa389c511178f5fdef70e343ea54f1a2ae7ec592abda5cb90b658dbe54a"), looks := false }, kinds := [], alts := [], laidByText := true, laidKinds := [.data, .data, .data], laidTests := true, laidLooks := .later }
def ProofSoundUptoCardSaid : Prop := Claim7.holds Tryz.pinned (.plain (OpenSpec.upto proofSoundSpec)) proofSoundUptoCard

/-- THE SECOND FORM's CARD OF 'netwrightlaw27.ProofCores'. -/
def proofCoresUptoCard : Claim7 := { stood := { row := proofCoresUptoRow, standIns := [], harness := (true, "db014aa389c511178f5fdef70e343ea54f1a2ae7ec592abda5cb90b658dbe54a"), looks := false }, kinds := [], alts := [], laidByText := true, laidKinds := [.data, .data, .data], laidTests := true, laidLooks := .later }
def ProofCoresUptoCardSaid : Prop := Claim7.holds Tryz.pinned (.plain (OpenSpec.upto proofCoresSpec)) proofCoresUptoCard

/-- THE SECOND FORM's CARD OF 'netwrightlaw27.ProofResolves'. -/
def proofResolvesUptoCard : Claim7 := { stood := { row := proofResolvesUptoRow, standIns := [], harness := (true, "db014aa389c511178f5fdef70e343ea54f1a2ae7ec592abda5cb90b658dbe54a"), looks := false }, kinds := [], alts := [], laidByText := true, laidKinds := [.data, .data, .data], laidTests := true, laidLooks := .later }
def ProofResolvesUptoCardSaid : Prop := Claim7.holds Tryz.pinned (.plain (OpenSpec.upto proofResolvesSpec)) proofResolvesUptoCard

/-- THE SECOND FORM's CARD OF 'netwrightlaw27.ProofModels'. -/
def proofModelsUptoCard : Claim7 := { stood := { row := proofModelsUptoRow, standIns := [], harness := (true, "db014aa389c511178f5fdef70e343ea54f1a2ae7ec592abda5cb90b658dbe54a"), looks := false }, kinds := [], alts := [], laidByText := true, laidKinds := [.data, .data, .data], laidTests := true, laidLooks := .later }
def ProofModelsUptoCardSaid : Prop := Claim7.holds Tryz.pinned (.plain (OpenSpec.upto proofModelsSpec)) proofModelsUptoCard

/-- THE SECOND FORM's CARD OF 'netwrightlaw27.ProofExpands'. -/
def proofExpandsUptoCard : Claim7 := { stood := { row := proofExpandsUptoRow, standIns := [], harness := (true, "db014aa389c511178f5fdef70e343ea54f1a2ae7ec592abda5cb90b658dbe54a"), looks := false }, kinds := [], alts := [], laidByText := true, laidKinds := [.data, .data, .data], laidTests := true, laidLooks := .later }
def ProofExpandsUptoCardSaid : Prop := Claim7.holds Tryz.pinned (.plain (OpenSpec.upto proofExpandsSpec)) proofExpandsUptoCard

/-- THE SECOND FORM's CARD OF 'netwrightlaw27.ProofOwn'. -/
def proofOwnUptoCard : Claim7 := { stood := { row := proofOwnUptoRow, standIns := [], harness := (true, "db014aa389c511178f5fdef70e343ea54f1a2ae7ec592abda5cb90b658dbe54a"), looks := false }, kinds := [], alts := [], laidByText := true, laidKinds := [.data, .data, .data], laidTests := true, laidLooks := .later }
def ProofOwnUptoCardSaid : Prop := Claim7.holds Tryz.pinned (.plain (OpenSpec.upto proofOwnSpec)) proofOwnUptoCard

/-- THE SECOND FORM's CARD OF 'netwrightlaw27.ProofSteps'. -/
def proofStepsUptoCard : Claim7 := { stood := { row := proofStepsUptoRow, standIns := [], harness := (true, "db014aa389c511178f5fdef70e343ea54f1a2ae7ec592abda5cb90b658dbe54a"), looks := false }, kinds := [], alts := [], laidByText := true, laidKinds := [.data, .data, .data], laidTests := true, laidLooks := .later }
def ProofStepsUptoCardSaid : Prop := Claim7.holds Tryz.pinned (.plain (OpenSpec.upto proofStepsSpec)) proofStepsUptoCard

/-- THE SECOND FORM's CARD OF 'netwrightlaw27.ProofFollowed'. -/
def proofFollowedUptoCard : Claim7 := { stood := { row := proofFollowedUptoRow, standIns := [], harness := (true, "db014aa389c511178f5fdef70e343ea54f1a2ae7ec592abda5cb90b658dbe54a"), looks := false }, kinds := [], alts := [], laidByText := true, laidKinds := [.data, .data, .data], laidTests := true, laidLooks := .later }
def ProofFollowedUptoCardSaid : Prop := Claim7.holds Tryz.pinned (.plain (OpenSpec.upto proofFollowedSpec)) proofFollowedUptoCard

/-- THE SECOND FORM's CARD OF 'netwrightlaw27.ProofMore'. -/
def proofMoreUptoCard : Claim7 := { stood := { row := proofMoreUptoRow, standIns := [], harness := (true, "db014aa389c511178f5fdef70e343ea54f1a2ae7ec592abda5cb90b658dbe54a"), looks := false }, kinds := [], alts := [], laidByText := true, laidKinds := [.data, .data, .data], laidTests := true, laidLooks := .later }
def ProofMoreUptoCardSaid : Prop := Claim7.holds Tryz.pinned (.plain (OpenSpec.upto proofMoreSpec)) proofMoreUptoCard

/-- THE SECOND FORM's CARD OF 'netwrightlaw27.ProofComplete'. -/
def proofCompleteUptoCard : Claim7 := { stood := { row := proofCompleteUptoRow, standIns := [], harness := (true, "db014aa389c511178f5fdef70e343ea54f1a2ae7ec592abda5cb90b658dbe54a"), looks := false }, kinds := [], alts := [], laidByText := true, laidKinds := [.data, .data, .data], laidTests := true, laidLooks := .later }
def ProofCompleteUptoCardSaid : Prop := Claim7.holds Tryz.pinned (.plain (OpenSpec.upto proofCompleteSpec)) proofCompleteUptoCard

/-- THE SECOND FORM's CARD OF 'netwrightlaw27.ProofBetween'. -/
def proofBetweenUptoCard : Claim7 := { stood := { row := proofBetweenUptoRow, standIns := [], harness := (true, "db014aa389c511178f5fdef70e343ea54f1a2ae7ec592abda5cb90b658dbe54a"), looks := false }, kinds := [], alts := [], laidByText := true, laidKinds := [.data, .data, .data], laidTests := true, laidLooks := .later }
def ProofBetweenUptoCardSaid : Prop := Claim7.holds Tryz.pinned (.plain (OpenSpec.upto proofBetweenSpec)) proofBetweenUptoCard
end Rows
end Go.Proofs.YtfjloafebkjadaaGreatDoor
