/-
  DERIVED. GIVEN WITH THE SEED: THE CARDS: each row of YtboekjaagbbjdaaDoorRows.lean that lists a variable, with what it lists TIED to the program's text (the seventh form; the later family's looks); each row that meets fmt, with fmt's text TOLD by the authors' own Lean function (tested against real Go, not proved from fmt's source: count such statements apart). THE CARD IS WHAT COUNTS. Prove the row's statement (the work); the ties are given (YtboekjaagbbjdaaDoorTie.lean); close each card by the builder's one call (the guide's Derived/Test/ToyasCard.lean, 'card_holds'). Laid BY PROGRAM, IN A SANDBOX (cutbox-door.mjs). By AI agents, Wed Nov 11 2026. No macro, syntax, notation, axiom, sorry.
-/
import Derived.Test.YtboekjaagbbjdaaDoorRows
import GoSem.ClaimSeven
namespace Go.Proofs.YtboekjaagbbjdaaDoor
namespace Rows

/-- THE TIED CARD OF 'larderlaw08.LockSets'. -/
def lockSetsCard : Claim7 := { stood := { row := lockSetsRow, standIns := [], harness := (true, "ef7684417b43068ade201c1af3ae3a93e0f1ac0d3faf8102fd6bc19c216a527a"), looks := false }, kinds := [], alts := [], laidByText := true, laidKinds := [.data], laidTests := true, laidLooks := .later }
def LockSetsCardSaid : Prop := Claim7.holds Tryd.pinned (.plain (OpenSpec.ofChange lockSetsSpec)) lockSetsCard

/-- THE TIED CARD OF 'larderlaw08.LockSpread'. -/
def lockSpreadCard : Claim7 := { stood := { row := lockSpreadRow, standIns := [], harness := (true, "ef7684417b43068ade201c1af3ae3a93e0f1ac0d3faf8102fd6bc19c216a527a"), looks := false }, kinds := [], alts := [], laidByText := true, laidKinds := [.data], laidTests := true, laidLooks := .later }
def LockSpreadCardSaid : Prop := Claim7.holds Tryd.pinned (.plain (OpenSpec.ofChange lockSpreadSpec)) lockSpreadCard

/-- THE SECOND FORM's CARD OF 'larderlaw08.LockSets'. -/
def lockSetsUptoCard : Claim7 := { stood := { row := lockSetsUptoRow, standIns := [], harness := (true, "ef7684417b43068ade201c1af3ae3a93e0f1ac0d3faf8102fd6bc19c216a527a"), looks := false }, kinds := [], alts := [], laidByText := true, laidKinds := [.data], laidTests := true, laidLooks := .later }
def LockSetsUptoCardSaid : Prop := Claim7.holds Tryd.pinned (.plain (OpenSpec.upto lockSetsSpec)) lockSetsUptoCard

/-- THE SECOND FORM's CARD OF 'larderlaw08.LockSpread'. -/
def lockSpreadUptoCard : Claim7 := { stood := { row := lockSpreadUptoRow, standIns := [], harness := (true, "ef7684417b43068ade201c1af3ae3a93e0f1ac0d3faf8102fd6bc19c216a527a"), looks := false }, kinds := [], alts := [], laidByText := true, laidKinds := [.data], laidTests := true, laidLooks := .later }
def LockSpreadUptoCardSaid : Prop := Claim7.holds Tryd.pinned (.plain (OpenSpec.upto lockSpreadSpec)) lockSpreadUptoCard
end Rows
end Go.Proofs.YtboekjaagbbjdaaDoor
