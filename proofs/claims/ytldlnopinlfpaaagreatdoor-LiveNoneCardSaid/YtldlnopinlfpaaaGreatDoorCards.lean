/-
  DERIVED. GIVEN WITH THE SEED: THE CARDS: each row of YtldlnopinlfpaaaGreatDoorRows.lean that lists a variable, with what it lists TIED to the program's text (the seventh form; the later family's looks); each row that meets fmt, with fmt's text TOLD by the authors' own Lean function (tested against real Go, not proved from fmt's source: count such statements apart). THE CARD IS WHAT COUNTS. Prove the row's statement (the work); the ties are given (YtldlnopinlfpaaaGreatDoorTie.lean); close each card by the builder's one call (the guide's Derived/Test/ToyasCard.lean, 'card_holds'). Laid BY PROGRAM, IN A SANDBOX (cutbox-door.mjs). By AI agents, Wed Nov 11 2026. No macro, syntax, notation, axiom, sorry.
-/
import Derived.Test.YtldlnopinlfpaaaGreatDoorRows
import GoSem.ClaimSeven
namespace Go.Proofs.YtldlnopinlfpaaaGreatDoor
namespace Rows

/-- THE TIED CARD OF 'bellmanlaw31.LiveTells'. -/
def liveTellsCard : Claim7 := { stood := { row := liveTellsRow, standIns := [], harness := (true, "461cf2e4580a305a84b7cb171e0c805678d65b2f3b3c093703dda9ae33f534d3"), looks := true }, kinds := [], alts := [], laidByText := true, laidKinds := [.pinned, .data, .data, .data, .data, .pinned], laidTests := true, laidLooks := .later }
def LiveTellsCardSaid : Prop := Claim7.holds Tryz.pinned (.plain (OpenSpec.ofChange liveTellsSpec)) liveTellsCard

/-- THE TIED CARD OF 'bellmanlaw31.LiveNone'. -/
def liveNoneCard : Claim7 := { stood := { row := liveNoneRow, standIns := [], harness := (true, "461cf2e4580a305a84b7cb171e0c805678d65b2f3b3c093703dda9ae33f534d3"), looks := true }, kinds := [], alts := [], laidByText := true, laidKinds := [.pinned, .data, .data, .data, .data, .pinned], laidTests := true, laidLooks := .later }
def LiveNoneCardSaid : Prop := Claim7.holds Tryz.pinned (.plain (OpenSpec.ofChange liveNoneSpec)) liveNoneCard

/-- THE SECOND FORM's CARD OF 'bellmanlaw31.LiveTells'. -/
def liveTellsUptoCard : Claim7 := { stood := { row := liveTellsUptoRow, standIns := [], harness := (true, "461cf2e4580a305a84b7cb171e0c805678d65b2f3b3c093703dda9ae33f534d3"), looks := true }, kinds := [], alts := [], laidByText := true, laidKinds := [.pinned, .data, .data, .data, .data, .pinned], laidTests := true, laidLooks := .later }
def LiveTellsUptoCardSaid : Prop := Claim7.holds Tryz.pinned (.plain (OpenSpec.upto liveTellsSpec)) liveTellsUptoCard

/-- THE SECOND FORM's CARD OF 'bellmanlaw31.LiveNone'. -/
def liveNoneUptoCard : Claim7 := { stood := { row := liveNoneUptoRow, standIns := [], harness := (true, "461cf2e4580a305a84b7cb171e0c805678d65b2f3b3c093703dda9ae33f534d3"), looks := true }, kinds := [], alts := [], laidByText := true, laidKinds := [.pinned, .data, .data, .data, .data, .pinned], laidTests := true, laidLooks := .later }
def LiveNoneUptoCardSaid : Prop := Claim7.holds Tryz.pinned (.plain (OpenSpec.upto liveNoneSpec)) liveNoneUptoCard
end Rows
end Go.Proofs.YtldlnopinlfpaaaGreatDoor
