/-
  DERIVED. GIVEN WITH THE SEED: THE CARDS: each row of YtifcelebfagjbaaGreatDoorRows.lean that lists a variable, with what it lists TIED to the program's text (the seventh form; the later family's looks); each row that meets fmt, with fmt's text TOLD by the authors' own Lean function (tested against real Go, not proved from fmt's source: count such statements apart). THE CARD IS WHAT COUNTS. Prove the row's statement (the work); the ties are given (YtifcelebfagjbaaGreatDoorTie.lean); close each card by the builder's one call (the guide's Derived/Test/ToyasCard.lean, 'card_holds'). Laid BY PROGRAM, IN A SANDBOX (cutbox-door.mjs). By AI agents, Wed Nov 11 2026. No macro, syntax, notation, axiom, sorry.
-/
import Derived.Test.YtifcelebfagjbaaGreatDoorRows
import GoSem.ClaimSeven
namespace Go.Proofs.YtifcelebfagjbaaGreatDoor
namespace Rows

/-- THE TIED CARD OF 'tollwaylaw37.PostEntries'. -/
def postEntriesCard : Claim7 := { stood := { row := postEntriesRow, standIns := [], harness := (true, "bfc6f10494a15554166fc6dc9c487a38c7761dbcf1ab71ea92e7becd53be55ec"), looks := false }, kinds := [], alts := [], laidByText := true, laidKinds := [.data, .data, .data], laidTests := true, laidLooks := .later }
def PostEntriesCardSaid : Prop := Claim7.holds Tryz.pinned (.plain (OpenSpec.ofChange postEntriesSpec)) postEntriesCard

/-- THE TIED CARD OF 'tollwaylaw37.PostPlays'. -/
def postPlaysCard : Claim7 := { stood := { row := postPlaysRow, standIns := [], harness := (true, "bfc6f10494a15554166fc6dc9c487a38c7761dbcf1ab71ea92e7becd53be55ec"), looks := false }, kinds := [], alts := [], laidByText := true, laidKinds := [.data, .data, .data], laidTests := true, laidLooks := .later }
def PostPlaysCardSaid : Prop := Claim7.holds Tryz.pinned (.plain (OpenSpec.ofChange postPlaysSpec)) postPlaysCard

/-- THE TIED CARD OF 'tollwaylaw37.PostChecks'. -/
def postChecksCard : Claim7 := { stood := { row := postChecksRow, standIns := [], harness := (true, "bfc6f10494a15554166fc6dc9c487a38c7761dbcf1ab71ea92e7becd53be55ec"), looks := false }, kinds := [], alts := [], laidByText := true, laidKinds := [.data, .data, .data], laidTests := true, laidLooks := .later }
def PostChecksCardSaid : Prop := Claim7.holds Tryz.pinned (.plain (OpenSpec.ofChange postChecksSpec)) postChecksCard

/-- THE TIED CARD OF 'tollwaylaw37.PostTwice'. -/
def postTwiceCard : Claim7 := { stood := { row := postTwiceRow, standIns := [], harness := (true, "bfc6f10494a15554166fc6dc9c487a38c7761dbcf1ab71ea92e7becd53be55ec"), looks := false }, kinds := [], alts := [], laidByText := true, laidKinds := [.data, .data, .data], laidTests := true, laidLooks := .later }
def PostTwiceCardSaid : Prop := Claim7.holds Tryz.pinned (.plain (OpenSpec.ofChange postTwiceSpec)) postTwiceCard

/-- THE TIED CARD OF 'tollwaylaw37.PostBalances'. -/
def postBalancesCard : Claim7 := { stood := { row := postBalancesRow, standIns := [], harness := (true, "bfc6f10494a15554166fc6dc9c487a38c7761dbcf1ab71ea92e7becd53be55ec"), looks := false }, kinds := [], alts := [], laidByText := true, laidKinds := [.data, .data, .data], laidTests := true, laidLooks := .later }
def PostBalancesCardSaid : Prop := Claim7.holds Tryz.pinned (.plain (OpenSpec.ofChange postBalancesSpec)) postBalancesCard

/-- THE TIED CARD OF 'tollwaylaw37.PostPaths'. -/
def postPathsCard : Claim7 := { stood := { row := postPathsRow, standIns := [], harness := (true, "bfc6f10494a15554166fc6dc9c487a38c7761dbcf1ab71ea92e7becd53be55ec"), looks := false }, kinds := [], alts := [], laidByText := true, laidKinds := [.data, .data, .data], laidTests := true, laidLooks := .later }
def PostPathsCardSaid : Prop := Claim7.holds Tryz.pinned (.plain (OpenSpec.ofChange postPathsSpec)) postPathsCard

/-- THE SECOND FORM's CARD OF 'tollwaylaw37.PostEntries'. -/
def postEntriesUptoCard : Claim7 := { stood := { row := postEntriesUptoRow, standIns := [], harness := (true, "bfc6f10494a15554166fc6dc9c487a38c7761dbcf1ab71ea92e7becd53be55ec"), looks := false }, kinds := [], alts := [], laidByText := true, laidKinds := [.data, .data, .data], laidTests := true, laidLooks := .later }
def PostEntriesUptoCardSaid : Prop := Claim7.holds Tryz.pinned (.plain (OpenSpec.upto postEntriesSpec)) postEntriesUptoCard

/-- THE SECOND FORM's CARD OF 'tollwaylaw37.PostPlays'. -/
def postPlaysUptoCard : Claim7 := { stood := { row := postPlaysUptoRow, standIns := [], harness := (true, "bfc6f10494a15554166fc6dc9c487a38c7761dbcf1ab71ea92e7becd53be55ec"), looks := false }, kinds := [], alts := [], laidByText := true, laidKinds := [.data, .data, .data], laidTests := true, laidLooks := .later }
def PostPlaysUptoCardSaid : Prop := Claim7.holds Tryz.pinned (.plain (OpenSpec.upto postPlaysSpec)) postPlaysUptoCard

/-- THE SECOND FORM's CARD OF 'tollwaylaw37.PostChecks'. -/
def postChecksUptoCard : Claim7 := { stood := { row := postChecksUptoRow, standIns := [], harness := (true, "bfc6f10494a15554166fc6dc9c487a38c7761dbcf1ab71ea92e7becd53be55ec"), looks := false }, kinds := [], alts := [], laidByText := true, laidKinds := [.data, .data, .data], laidTests := true, laidLooks := .later }
def PostChecksUptoCardSaid : Prop := Claim7.holds Tryz.pinned (.plain (OpenSpec.upto postChecksSpec)) postChecksUptoCard

/-- THE SECOND FORM's CARD OF 'tollwaylaw37.PostTwice'. -/
def postTwiceUptoCard : Claim7 := { stood := { row := postTwiceUptoRow, standIns := [], harness := (true, "bfc6f10494a15554166fc6dc9c487a38c7761dbcf1ab71ea92e7becd53be55ec"), looks := false }, kinds := [], alts := [], laidByText := true, laidKinds := [.data, .data, .data], laidTests := true, laidLooks := .later }
def PostTwiceUptoCardSaid : Prop := Claim7.holds Tryz.pinned (.plain (OpenSpec.upto postTwiceSpec)) postTwiceUptoCard

/-- THE SECOND FORM's CARD OF 'tollwaylaw37.PostBalances'. -/
def postBalancesUptoCard : Claim7 := { stood := { row := postBalancesUptoRow, standIns := [], harness := (true, "bfc6f10494a15554166fc6dc9c487a38c7761dbcf1ab71ea92e7becd53be55ec"), looks := false }, kinds := [], alts := [], laidByText := true, laidKinds := [.data, .data, .data], laidTests := true, laidLooks := .later }
def PostBalancesUptoCardSaid : Prop := Claim7.holds Tryz.pinned (.plain (OpenSpec.upto postBalancesSpec)) postBalancesUptoCard

/-- THE SECOND FORM's CARD OF 'tollwaylaw37.PostPaths'. -/
def postPathsUptoCard : Claim7 := { stood := { row := postPathsUptoRow, standIns := [], harness := (true, "bfc6f10494a15554166fc6dc9c487a38c7761dbcf1ab71ea92e7becd53be55ec"), looks := false }, kinds := [], alts := [], laidByText := true, laidKinds := [.data, .data, .data], laidTests := true, laidLooks := .later }
def PostPathsUptoCardSaid : Prop := Claim7.holds Tryz.pinned (.plain (OpenSpec.upto postPathsSpec)) postPathsUptoCard
end Rows
end Go.Proofs.YtifcelebfagjbaaGreatDoor
