/-
  DERIVED. GIVEN WITH THE SEED: THE CARDS: each row of YthimonfebncooaaGreatDoorRows.lean that lists a variable, with what it lists TIED to the program's text (the seventh form; the later family's looks); each row that meets fmt, with fmt's text TOLD by the authors' own Lean function (tested against real Go, not proved from fmt's source: count such statements apart). THE CARD IS WHAT COUNTS. Prove the row's statement (the work); the ties are given (YthimonfebncooaaGreatDoorTie.lean); close each card by the builder's one call (the guide's Derived/Test/ToyasCard.lean, 'card_holds'). Laid BY PROGRAM, IN A SANDBOX (cutbox-door.mjs). By AI agents, Wed Nov 11 2026. No macro, syntax, notation, axiom, sorry.
-/
import Derived.Test.YthimonfebncooaaGreatDoorRows
import GoSem.ClaimSeven
namespace Go.Proofs.YthimonfebncooaaGreatDoor
namespace Rows

/-- THE TIED CARD OF 'neumelaw26.PrefixKeys'. -/
def prefixKeysCard : Claim7 := { stood := { row := prefixKeysRow, standIns := [], harness := (true, "c772879cac19ec23fae82a6d8f341904d2847415b1bcf5b83c839b4de23bfef1"), looks := true }, kinds := [], alts := [], laidByText := true, laidKinds := [.handle], laidTests := true, laidLooks := .later }
def PrefixKeysCardSaid : Prop := Claim7.holds Tryz.pinned (.plain (OpenSpec.ofChange prefixKeysSpec)) prefixKeysCard

/-- THE SECOND FORM's CARD OF 'neumelaw26.PrefixKeys'. -/
def prefixKeysUptoCard : Claim7 := { stood := { row := prefixKeysUptoRow, standIns := [], harness := (true, "c772879cac19ec23fae82a6d8f341904d2847415b1bcf5b83c839b4de23bfef1"), looks := true }, kinds := [], alts := [], laidByText := true, laidKinds := [.handle], laidTests := true, laidLooks := .later }
def PrefixKeysUptoCardSaid : Prop := Claim7.holds Tryz.pinned (.plain (OpenSpec.upto prefixKeysSpec)) prefixKeysUptoCard
end Rows
end Go.Proofs.YthimonfebncooaaGreatDoor
