/-
  DERIVED. GIVEN WITH THE SEED: THE CARDS: each row of YtnomonahdnoniaaGreatDoorRows.lean that lists a variable, with what it lists TIED to the program's text (the seventh form; the later family's looks); each row that meets fmt, with fmt's text TOLD by the authors' own Lean function (tested against real Go, not proved from fmt's source: count such statements apart). THE CARD IS WHAT COUNTS. Prove the row's statement (the work); the ties are given (YtnomonahdnoniaaGreatDoorTie.lean); close each card by the builder's one call (the guide's Derived/Test/ToyasCard.lean, 'card_holds'). Laid BY PROGRAM, IN A SANDBOX (cutbox-door.mjs). By AI agents, Wed Nov 11 2026. No macro, syntax, notation, axiom, sorry.
-/
import Derived.Test.YtnomonahdnoniaaGreatDoorRows
import GoSem.ClaimSeven
namespace Go.Proofs.YtnomonahdnoniaaGreatDoor
namespace Rows

/-- THE TIED CARD OF 'bellmanlaw28.GatewayNone'. -/
def gatewayNoneCard : Claim7 := { stood := { row := gatewayNoneRow, standIns := [], harness := (true, "e0afb3e8ae4ce7cb43b28aeab54323ab8a27eb73d86d64fa2265ee35a564f676"), looks := true }, kinds := [], alts := [], laidByText := true, laidKinds := [.pinned, .data, .data, .data, .data, .pinned], laidTests := true, laidLooks := .later }
def GatewayNoneCardSaid : Prop := Claim7.holds Tryz.pinned (.plain (OpenSpec.ofChange gatewayNoneSpec)) gatewayNoneCard

/-- THE SECOND FORM's CARD OF 'bellmanlaw28.GatewayNone'. -/
def gatewayNoneUptoCard : Claim7 := { stood := { row := gatewayNoneUptoRow, standIns := [], harness := (true, "e0afb3e8ae4ce7cb43b28aeab54323ab8a27eb73d86d64fa2265ee35a564f676"), looks := true }, kinds := [], alts := [], laidByText := true, laidKinds := [.pinned, .data, .data, .data, .data, .pinned], laidTests := true, laidLooks := .later }
def GatewayNoneUptoCardSaid : Prop := Claim7.holds Tryz.pinned (.plain (OpenSpec.upto gatewayNoneSpec)) gatewayNoneUptoCard
end Rows
end Go.Proofs.YtnomonahdnoniaaGreatDoor
