/-
  DERIVED. GIVEN WITH THE SEED: THE CARDS: each row of YtdbceafejbnebaaGreatDoorRows.lean that lists a variable, with what it lists TIED to the program's text (the seventh form; the later family's looks); each row that meets fmt, with fmt's text TOLD by the authors' own Lean function (tested against real Go, not proved from fmt's source: count such statements apart). THE CARD IS WHAT COUNTS. Prove the row's statement (the work); the ties are given (YtdbceafejbnebaaGreatDoorTie.lean); close each card by the builder's one call (the guide's Derived/Test/ToyasCard.lean, 'card_holds'). Laid BY PROGRAM, IN A SANDBOX (cutbox-door.mjs). By AI agents, Wed Nov 11 2026. No macro, syntax, notation, axiom, sorry.
-/
import Derived.Test.YtdbceafejbnebaaGreatDoorRows
import GoSem.ClaimSeven
namespace Go.Proofs.YtdbceafejbnebaaGreatDoor
namespace Rows

/-- THE TIED CARD OF 'hailerlaw37.TrustLoads'. -/
def trustLoadsCard : Claim7 := { stood := { row := trustLoadsRow, standIns := [], harness := (true, "95b94c3df796a089bce71f6e9abab6a9f87b523abd4fe135293715fd4ee22b99"), looks := false }, kinds := [], alts := [], laidByText := true, laidKinds := [.data, .pinned], laidTests := true, laidLooks := .later }
def TrustLoadsCardSaid : Prop := Claim7.holds Tryz.pinned (.plain (OpenSpec.ofChange trustLoadsSpec)) trustLoadsCard

/-- THE SECOND FORM's CARD OF 'hailerlaw37.TrustLoads'. -/
def trustLoadsUptoCard : Claim7 := { stood := { row := trustLoadsUptoRow, standIns := [], harness := (true, "95b94c3df796a089bce71f6e9abab6a9f87b523abd4fe135293715fd4ee22b99"), looks := false }, kinds := [], alts := [], laidByText := true, laidKinds := [.data, .pinned], laidTests := true, laidLooks := .later }
def TrustLoadsUptoCardSaid : Prop := Claim7.holds Tryz.pinned (.plain (OpenSpec.upto trustLoadsSpec)) trustLoadsUptoCard
end Rows
end Go.Proofs.YtdbceafejbnebaaGreatDoor
