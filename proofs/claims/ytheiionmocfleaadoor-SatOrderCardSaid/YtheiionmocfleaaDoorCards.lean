/-
  DERIVED. GIVEN WITH THE SEED: THE CARDS: each row of YtheiionmocfleaaDoorRows.lean that lists a variable, with what it lists TIED to the program's text (the seventh form; the later family's looks); each row that meets fmt, with fmt's text TOLD by the authors' own Lean function (tested against real Go, not proved from fmt's source: count such statements apart). THE CARD IS WHAT COUNTS. Prove the row's statement (the work); the ties are given (YtheiionmocfleaaDoorTie.lean); close each card by the builder's one call (the guide's Derived/Test/ToyasCard.lean, 'card_holds'). Laid BY PROGRAM, IN A SANDBOX (cutbox-door.mjs). By AI agents, Wed Nov 11 2026. No macro, syntax, notation, axiom, sorry.
-/
import Derived.Test.YtheiionmocfleaaDoorRows
import GoSem.ClaimSeven
namespace Go.Proofs.YtheiionmocfleaaDoor
namespace Rows

/-- THE TIED CARD OF 'netwrightlaw26.SatUnits'. -/
def satUnitsCard : Claim7 := { stood := { row := satUnitsRow, standIns := [], harness := (true, "acb7a2cfba61896ac7a7b052507c0d818ee11201fc33a88d8d96054a29989809"), looks := false }, kinds := [], alts := [], laidByText := true, laidKinds := [.data, .data, .data], laidTests := true, laidLooks := .later }
def SatUnitsCardSaid : Prop := Claim7.holds Tryd.pinned (.plain (OpenSpec.ofChange satUnitsSpec)) satUnitsCard

/-- THE TIED CARD OF 'netwrightlaw26.SatSolves'. -/
def satSolvesCard : Claim7 := { stood := { row := satSolvesRow, standIns := [], harness := (true, "acb7a2cfba61896ac7a7b052507c0d818ee11201fc33a88d8d96054a29989809"), looks := false }, kinds := [], alts := [], laidByText := true, laidKinds := [.data, .data, .data], laidTests := true, laidLooks := .later }
def SatSolvesCardSaid : Prop := Claim7.holds Tryd.pinned (.plain (OpenSpec.ofChange satSolvesSpec)) satSolvesCard

/-- THE TIED CARD OF 'netwrightlaw26.SatCounts'. -/
def satCountsCard : Claim7 := { stood := { row := satCountsRow, standIns := [], harness := (true, "acb7a2cfba61896ac7a7b052507c0d818ee11201fc33a88d8d96054a29989809"), looks := false }, kinds := [], alts := [], laidByText := true, laidKinds := [.data, .data, .data], laidTests := true, laidLooks := .later }
def SatCountsCardSaid : Prop := Claim7.holds Tryd.pinned (.plain (OpenSpec.ofChange satCountsSpec)) satCountsCard

/-- THE TIED CARD OF 'netwrightlaw26.SatFollows'. -/
def satFollowsCard : Claim7 := { stood := { row := satFollowsRow, standIns := [], harness := (true, "acb7a2cfba61896ac7a7b052507c0d818ee11201fc33a88d8d96054a29989809"), looks := false }, kinds := [], alts := [], laidByText := true, laidKinds := [.data, .data, .data], laidTests := true, laidLooks := .later }
def SatFollowsCardSaid : Prop := Claim7.holds Tryd.pinned (.plain (OpenSpec.ofChange satFollowsSpec)) satFollowsCard

/-- THE TIED CARD OF 'netwrightlaw26.SatOrder'. -/
def satOrderCard : Claim7 := { stood := { row := satOrderRow, standIns := [], harness := (true, "acb7a2cfba61896ac7a7b052507c0d818ee11201fc33a88d8d96054a29989809"), looks := false }, kinds := [], alts := [], laidByText := true, laidKinds := [.data, .data, .data], laidTests := true, laidLooks := .later }
def SatOrderCardSaid : Prop := Claim7.holds Tryd.pinned (.plain (OpenSpec.ofChange satOrderSpec)) satOrderCard

/-- THE TIED CARD OF 'netwrightlaw26.SatValid'. -/
def satValidCard : Claim7 := { stood := { row := satValidRow, standIns := [], harness := (true, "acb7a2cfba61896ac7a7b052507c0d818ee11201fc33a88d8d96054a29989809"), looks := false }, kinds := [], alts := [], laidByText := true, laidKinds := [.data, .data, .data], laidTests := true, laidLooks := .later }
def SatValidCardSaid : Prop := Claim7.holds Tryd.pinned (.plain (OpenSpec.ofChange satValidSpec)) satValidCard

/-- THE TIED CARD OF 'netwrightlaw26.SatUnder'. -/
def satUnderCard : Claim7 := { stood := { row := satUnderRow, standIns := [], harness := (true, "acb7a2cfba61896ac7a7b052507c0d818ee11201fc33a88d8d96054a29989809"), looks := false }, kinds := [], alts := [], laidByText := true, laidKinds := [.data, .data, .data], laidTests := true, laidLooks := .later }
def SatUnderCardSaid : Prop := Claim7.holds Tryd.pinned (.plain (OpenSpec.ofChange satUnderSpec)) satUnderCard

/-- THE TIED CARD OF 'netwrightlaw26.SatOwn'. -/
def satOwnCard : Claim7 := { stood := { row := satOwnRow, standIns := [], harness := (true, "acb7a2cfba61896ac7a7b052507c0d818ee11201fc33a88d8d96054a29989809"), looks := false }, kinds := [], alts := [], laidByText := true, laidKinds := [.data, .data, .data], laidTests := true, laidLooks := .later }
def SatOwnCardSaid : Prop := Claim7.holds Tryd.pinned (.plain (OpenSpec.ofChange satOwnSpec)) satOwnCard

/-- THE SECOND FORM's CARD OF 'netwrightlaw26.SatUnits'. -/
def satUnitsUptoCard : Claim7 := { stood := { row := satUnitsUptoRow, standIns := [], harness := (true, "acb7a2cfba61896ac7a7b052507c0d818ee11201fc33a88d8d96054a29989809"), looks := false }, kinds := [], alts := [], laidByText := true, laidKinds := [.data, .data, .data], laidTests := true, laidLooks := .later }
def SatUnitsUptoCardSaid : Prop := Claim7.holds Tryd.pinned (.plain (OpenSpec.upto satUnitsSpec)) satUnitsUptoCard

/-- THE SECOND FORM's CARD OF 'netwrightlaw26.SatSolves'. -/
def satSolvesUptoCard : Claim7 := { stood := { row := satSolvesUptoRow, standIns := [], harness := (true, "acb7a2cfba61896ac7a7b052507c0d818ee11201fc33a88d8d96054a29989809"), looks := false }, kinds := [], alts := [], laidByText := true, laidKinds := [.data, .data, .data], laidTests := true, laidLooks := .later }
def SatSolvesUptoCardSaid : Prop := Claim7.holds Tryd.pinned (.plain (OpenSpec.upto satSolvesSpec)) satSolvesUptoCard

/-- THE SECOND FORM's CARD OF 'netwrightlaw26.SatCounts'. -/
def satCountsUptoCard : Claim7 := { stood := { row := satCountsUptoRow, standIns := [], harness := (true, "acb7a2cfba61896ac7a7b052507c0d818ee11201fc33a88d8d96054a29989809"), looks := false }, kinds := [], alts := [], laidByText := true, laidKinds := [.data, .data, .data], laidTests := true, laidLooks := .later }
def SatCountsUptoCardSaid : Prop := Claim7.holds Tryd.pinned (.plain (OpenSpec.upto satCountsSpec)) satCountsUptoCard

/-- THE SECOND FORM's CARD OF 'netwrightlaw26.SatFollows'. -/
def satFollowsUptoCard : Claim7 := { stood := { row := satFollowsUptoRow, standIns := [], harness := (true, "acb7a2cfba61896ac7a7b052507c0d818ee11201fc33a88d8d96054a29989809"), looks := false }, kinds := [], alts := [], laidByText := true, laidKinds := [.data, .data, .data], laidTests := true, laidLooks := .later }
def SatFollowsUptoCardSaid : Prop := Claim7.holds Tryd.pinned (.plain (OpenSpec.upto satFollowsSpec)) satFollowsUptoCard

/-- THE SECOND FORM's CARD OF 'netwrightlaw26.SatOrder'. -/
def satOrderUptoCard : Claim7 := { stood := { row := satOrderUptoRow, standIns := [], harness := (true, "acb7a2cfba61896ac7a7b052507c0d818ee11201fc33a88d8d96054a29989809"), looks := false }, kinds := [], alts := [], laidByText := true, laidKinds := [.data, .data, .data], laidTests := true, laidLooks := .later }
def SatOrderUptoCardSaid : Prop := Claim7.holds Tryd.pinned (.plain (OpenSpec.upto satOrderSpec)) satOrderUptoCard

/-- THE SECOND FORM's CARD OF 'netwrightlaw26.SatValid'. -/
def satValidUptoCard : Claim7 := { stood := { row := satValidUptoRow, standIns := [], harness := (true, "acb7a2cfba61896ac7a7b052507c0d818ee11201fc33a88d8d96054a29989809"), looks := false }, kinds := [], alts := [], laidByText := true, laidKinds := [.data, .data, .data], laidTests := true, laidLooks := .later }
def SatValidUptoCardSaid : Prop := Claim7.holds Tryd.pinned (.plain (OpenSpec.upto satValidSpec)) satValidUptoCard

/-- THE SECOND FORM's CARD OF 'netwrightlaw26.SatUnder'. -/
def satUnderUptoCard : Claim7 := { stood := { row := satUnderUptoRow, standIns := [], harness := (true, "acb7a2cfba61896ac7a7b052507c0d818ee11201fc33a88d8d96054a29989809"), looks := false }, kinds := [], alts := [], laidByText := true, laidKinds := [.data, .data, .data], laidTests := true, laidLooks := .later }
def SatUnderUptoCardSaid : Prop := Claim7.holds Tryd.pinned (.plain (OpenSpec.upto satUnderSpec)) satUnderUptoCard

/-- THE SECOND FORM's CARD OF 'netwrightlaw26.SatOwn'. -/
def satOwnUptoCard : Claim7 := { stood := { row := satOwnUptoRow, standIns := [], harness := (true, "acb7a2cfba61896ac7a7b052507c0d818ee11201fc33a88d8d96054a29989809"), looks := false }, kinds := [], alts := [], laidByText := true, laidKinds := [.data, .data, .data], laidTests := true, laidLooks := .later }
def SatOwnUptoCardSaid : Prop := Claim7.holds Tryd.pinned (.plain (OpenSpec.upto satOwnSpec)) satOwnUptoCard
end Rows
end Go.Proofs.YtheiionmocfleaaDoor
