/-
  DERIVED. GIVEN WITH THE SEED: THE CARDS: each row of YtmblejfjbnoodaaGreatDoorRows.lean that lists a variable, with what it lists TIED to the program's text (the seventh form; the later family's looks); each row that meets fmt, with fmt's text TOLD by the authors' own Lean function (tested against real Go, not proved from fmt's source: count such statements apart). THE CARD IS WHAT COUNTS. Prove the row's statement (the work); the ties are given (YtmblejfjbnoodaaGreatDoorTie.lean); close each card by the builder's one call (the guide's Derived/Test/ToyasCard.lean, 'card_holds'). Laid BY PROGRAM, IN A SANDBOX (cutbox-door.mjs). By AI agents, Wed Nov 11 2026. No macro, syntax, notation, axiom, sorry.
-/
import Derived.Test.YtmblejfjbnoodaaGreatDoorRows
import GoSem.ClaimSeven
namespace Go.Proofs.YtmblejfjbnoodaaGreatDoor
namespace Rows

/-- THE TIED CARD OF 'bitemporallaw21.SnapshotChecks'. -/
def snapshotChecksCard : Claim7 := { stood := { row := snapshotChecksRow, standIns := [], harness := (true, "5df2d613077d01c261e39854280875a1a3094570ea9023d7979ba7653d31e361"), looks := false }, kinds := [], alts := [], laidByText := true, laidKinds := [.data, .data, .data], laidTests := true, laidLooks := .later }
def SnapshotChecksCardSaid : Prop := Claim7.holds Tryz.pinned (.plain (OpenSpec.ofChange snapshotChecksSpec)) snapshotChecksCard

/-- THE TIED CARD OF 'bitemporallaw21.SnapshotGroups'. -/
def snapshotGroupsCard : Claim7 := { stood := { row := snapshotGroupsRow, standIns := [], harness := (true, "5df2d613077d01c261e39854280875a1a3094570ea9023d7979ba7653d31e361"), looks := false }, kinds := [], alts := [], laidByText := true, laidKinds := [.data, .data, .data], laidTests := true, laidLooks := .later }
def SnapshotGroupsCardSaid : Prop := Claim7.holds Tryz.pinned (.plain (OpenSpec.ofChange snapshotGroupsSpec)) snapshotGroupsCard

/-- THE TIED CARD OF 'bitemporallaw21.SnapshotCounts'. -/
def snapshotCountsCard : Claim7 := { stood := { row := snapshotCountsRow, standIns := [], harness := (true, "5df2d613077d01c261e39854280875a1a3094570ea9023d7979ba7653d31e361"), looks := false }, kinds := [], alts := [], laidByText := true, laidKinds := [.data, .data, .data], laidTests := true, laidLooks := .later }
def SnapshotCountsCardSaid : Prop := Claim7.holds Tryz.pinned (.plain (OpenSpec.ofChange snapshotCountsSpec)) snapshotCountsCard

/-- THE TIED CARD OF 'bitemporallaw21.SnapshotSets'. -/
def snapshotSetsCard : Claim7 := { stood := { row := snapshotSetsRow, standIns := [], harness := (true, "5df2d613077d01c261e39854280875a1a3094570ea9023d7979ba7653d31e361"), looks := false }, kinds := [], alts := [], laidByText := true, laidKinds := [.data, .data, .data], laidTests := true, laidLooks := .later }
def SnapshotSetsCardSaid : Prop := Claim7.holds Tryz.pinned (.plain (OpenSpec.ofChange snapshotSetsSpec)) snapshotSetsCard

/-- THE TIED CARD OF 'bitemporallaw21.SnapshotRows'. -/
def snapshotRowsCard : Claim7 := { stood := { row := snapshotRowsRow, standIns := [], harness := (true, "5df2d613077d01c261e39854280875a1a3094570ea9023d7979ba7653d31e361"), looks := false }, kinds := [], alts := [], laidByText := true, laidKinds := [.data, .data, .data], laidTests := true, laidLooks := .later }
def SnapshotRowsCardSaid : Prop := Claim7.holds Tryz.pinned (.plain (OpenSpec.ofChange snapshotRowsSpec)) snapshotRowsCard

/-- THE TIED CARD OF 'bitemporallaw21.SnapshotAlgebra'. -/
def snapshotAlgebraCard : Claim7 := { stood := { row := snapshotAlgebraRow, standIns := [], harness := (true, "5df2d613077d01c261e39854280875a1a3094570ea9023d7979ba7653d31e361"), looks := false }, kinds := [], alts := [], laidByText := true, laidKinds := [.data, .data, .data], laidTests := true, laidLooks := .later }
def SnapshotAlgebraCardSaid : Prop := Claim7.holds Tryz.pinned (.plain (OpenSpec.ofChange snapshotAlgebraSpec)) snapshotAlgebraCard

/-- THE TIED CARD OF 'bitemporallaw21.SnapshotJoins'. -/
def snapshotJoinsCard : Claim7 := { stood := { row := snapshotJoinsRow, standIns := [], harness := (true, "5df2d613077d01c261e39854280875a1a3094570ea9023d7979ba7653d31e361"), looks := false }, kinds := [], alts := [], laidByText := true, laidKinds := [.data, .data, .data], laidTests := true, laidLooks := .later }
def SnapshotJoinsCardSaid : Prop := Claim7.holds Tryz.pinned (.plain (OpenSpec.ofChange snapshotJoinsSpec)) snapshotJoinsCard

/-- THE SECOND FORM's CARD OF 'bitemporallaw21.SnapshotChecks'. -/
def snapshotChecksUptoCard : Claim7 := { stood := { row := snapshotChecksUptoRow, standIns := [], harness := (true, "5df2d613077d01c261e39854280875a1a3094570ea9023d7979ba7653d31e361"), looks := false }, kinds := [], alts := [], laidByText := true, laidKinds := [.data, .data, .data], laidTests := true, laidLooks := .later }
def SnapshotChecksUptoCardSaid : Prop := Claim7.holds Tryz.pinned (.plain (OpenSpec.upto snapshotChecksSpec)) snapshotChecksUptoCard

/-- THE SECOND FORM's CARD OF 'bitemporallaw21.SnapshotGroups'. -/
def snapshotGroupsUptoCard : Claim7 := { stood := { row := snapshotGroupsUptoRow, standIns := [], harness := (true, "5df2d613077d01c261e39854280875a1a3094570ea9023d7979ba7653d31e361"), looks := false }, kinds := [], alts := [], laidByText := true, laidKinds := [.data, .data, .data], laidTests := true, laidLooks := .later }
def SnapshotGroupsUptoCardSaid : Prop := Claim7.holds Tryz.pinned (.plain (OpenSpec.upto snapshotGroupsSpec)) snapshotGroupsUptoCard

/-- THE SECOND FORM's CARD OF 'bitemporallaw21.SnapshotCounts'. -/
def snapshotCountsUptoCard : Claim7 := { stood := { row := snapshotCountsUptoRow, standIns := [], harness := (true, "5df2d613077d01c261e39854280875a1a3094570ea9023d7979ba7653d31e361"), looks := false }, kinds := [], alts := [], laidByText := true, laidKinds := [.data, .data, .data], laidTests := true, laidLooks := .later }
def SnapshotCountsUptoCardSaid : Prop := Claim7.holds Tryz.pinned (.plain (OpenSpec.upto snapshotCountsSpec)) snapshotCountsUptoCard

/-- THE SECOND FORM's CARD OF 'bitemporallaw21.SnapshotSets'. -/
def snapshotSetsUptoCard : Claim7 := { stood := { row := snapshotSetsUptoRow, standIns := [], harness := (true, "5df2d613077d01c261e39854280875a1a3094570ea9023d7979ba7653d31e361"), looks := false }, kinds := [], alts := [], laidByText := true, laidKinds := [.data, .data, .data], laidTests := true, laidLooks := .later }
def SnapshotSetsUptoCardSaid : Prop := Claim7.holds Tryz.pinned (.plain (OpenSpec.upto snapshotSetsSpec)) snapshotSetsUptoCard

/-- THE SECOND FORM's CARD OF 'bitemporallaw21.SnapshotRows'. -/
def snapshotRowsUptoCard : Claim7 := { stood := { row := snapshotRowsUptoRow, standIns := [], harness := (true, "5df2d613077d01c261e39854280875a1a3094570ea9023d7979ba7653d31e361"), looks := false }, kinds := [], alts := [], laidByText := true, laidKinds := [.data, .data, .data], laidTests := true, laidLooks := .later }
def SnapshotRowsUptoCardSaid : Prop := Claim7.holds Tryz.pinned (.plain (OpenSpec.upto snapshotRowsSpec)) snapshotRowsUptoCard

/-- THE SECOND FORM's CARD OF 'bitemporallaw21.SnapshotAlgebra'. -/
def snapshotAlgebraUptoCard : Claim7 := { stood := { row := snapshotAlgebraUptoRow, standIns := [], harness := (true, "5df2d613077d01c261e39854280875a1a3094570ea9023d7979ba7653d31e361"), looks := false }, kinds := [], alts := [], laidByText := true, laidKinds := [.data, .data, .data], laidTests := true, laidLooks := .later }
def SnapshotAlgebraUptoCardSaid : Prop := Claim7.holds Tryz.pinned (.plain (OpenSpec.upto snapshotAlgebraSpec)) snapshotAlgebraUptoCard

/-- THE SECOND FORM's CARD OF 'bitemporallaw21.SnapshotJoins'. -/
def snapshotJoinsUptoCard : Claim7 := { stood := { row := snapshotJoinsUptoRow, standIns := [], harness := (true, "5df2d613077d01c261e39854280875a1a3094570ea9023d7979ba7653d31e361"), looks := false }, kinds := [], alts := [], laidByText := true, laidKinds := [.data, .data, .data], laidTests := true, laidLooks := .later }
def SnapshotJoinsUptoCardSaid : Prop := Claim7.holds Tryz.pinned (.plain (OpenSpec.upto snapshotJoinsSpec)) snapshotJoinsUptoCard
end Rows
end Go.Proofs.YtmblejfjbnoodaaGreatDoor
