/-
  DERIVED. GIVEN WITH THE SEED: THE CARDS: each row of YtinomleiihbfiaaDoorRows.lean that lists a variable, with what it lists TIED to the program's text (the seventh form; the later family's looks); each row that meets fmt, with fmt's text TOLD by the authors' own Lean function (tested against real Go, not proved from fmt's source: count such statements apart). THE CARD IS WHAT COUNTS. Prove the row's statement (the work); the ties are given (YtinomleiihbfiaaDoorTie.lean); close each card by the builder's one call (the guide's Derived/Test/ToyasCard.lean, 'card_holds'). Laid BY PROGRAM, IN A SANDBOX (cutbox-door.mjs). By AI agents, Wed Nov 11 2026. No macro, syntax, notation, axiom, sorry.
-/
import Derived.Test.YtinomleiihbfiaaDoorRows
import GoSem.ClaimSeven
namespace Go.Proofs.YtinomleiihbfiaaDoor
namespace Rows

/-- THE TIED CARD OF 'seneschallaw17.StoreVoid'. -/
def storeVoidCard : Claim7 := { stood := { row := storeVoidRow, standIns := [], harness := (true, "8a85cddbeb38f5ac4a5cf7c68cfa58a2f9257038c1c4533a4bb36d09786b5ba7"), looks := true }, kinds := [], alts := [], laidByText := true, laidKinds := [.data], laidTests := true, laidLooks := .later }
def StoreVoidCardSaid : Prop := Claim7.holds Tryd.pinned (.plain (OpenSpec.ofChange storeVoidSpec)) storeVoidCard

/-- THE TIED CARD OF 'seneschallaw17.StoreWhole'. -/
def storeWholeCard : Claim7 := { stood := { row := storeWholeRow, standIns := [], harness := (true, "8a85cddbeb38f5ac4a5cf7c68cfa58a2f9257038c1c4533a4bb36d09786b5ba7"), looks := true }, kinds := [], alts := [], laidByText := true, laidKinds := [.data], laidTests := true, laidLooks := .later }
def StoreWholeCardSaid : Prop := Claim7.holds Tryd.pinned (.plain (OpenSpec.ofChange storeWholeSpec)) storeWholeCard

/-- THE TIED CARD OF 'seneschallaw17.StoreTorn'. -/
def storeTornCard : Claim7 := { stood := { row := storeTornRow, standIns := [], harness := (true, "8a85cddbeb38f5ac4a5cf7c68cfa58a2f9257038c1c4533a4bb36d09786b5ba7"), looks := true }, kinds := [], alts := [], laidByText := true, laidKinds := [.data], laidTests := true, laidLooks := .later }
def StoreTornCardSaid : Prop := Claim7.holds Tryd.pinned (.plain (OpenSpec.ofChange storeTornSpec)) storeTornCard

/-- THE TIED CARD OF 'seneschallaw17.StoreBounds'. -/
def storeBoundsCard : Claim7 := { stood := { row := storeBoundsRow, standIns := [], harness := (true, "8a85cddbeb38f5ac4a5cf7c68cfa58a2f9257038c1c4533a4bb36d09786b5ba7"), looks := true }, kinds := [], alts := [], laidByText := true, laidKinds := [.data], laidTests := true, laidLooks := .later }
def StoreBoundsCardSaid : Prop := Claim7.holds Tryd.pinned (.plain (OpenSpec.ofChange storeBoundsSpec)) storeBoundsCard

/-- THE TIED CARD OF 'seneschallaw17.StoreErased'. -/
def storeErasedCard : Claim7 := { stood := { row := storeErasedRow, standIns := [], harness := (true, "8a85cddbeb38f5ac4a5cf7c68cfa58a2f9257038c1c4533a4bb36d09786b5ba7"), looks := true }, kinds := [], alts := [], laidByText := true, laidKinds := [.data], laidTests := true, laidLooks := .later }
def StoreErasedCardSaid : Prop := Claim7.holds Tryd.pinned (.plain (OpenSpec.ofChange storeErasedSpec)) storeErasedCard

/-- THE SECOND FORM's CARD OF 'seneschallaw17.StoreVoid'. -/
def storeVoidUptoCard : Claim7 := { stood := { row := storeVoidUptoRow, standIns := [], harness := (true, "8a85cddbeb38f5ac4a5cf7c68cfa58a2f9257038c1c4533a4bb36d09786b5ba7"), looks := true }, kinds := [], alts := [], laidByText := true, laidKinds := [.data], laidTests := true, laidLooks := .later }
def StoreVoidUptoCardSaid : Prop := Claim7.holds Tryd.pinned (.plain (OpenSpec.upto storeVoidSpec)) storeVoidUptoCard

/-- THE SECOND FORM's CARD OF 'seneschallaw17.StoreWhole'. -/
def storeWholeUptoCard : Claim7 := { stood := { row := storeWholeUptoRow, standIns := [], harness := (true, "8a85cddbeb38f5ac4a5cf7c68cfa58a2f9257038c1c4533a4bb36d09786b5ba7"), looks := true }, kinds := [], alts := [], laidByText := true, laidKinds := [.data], laidTests := true, laidLooks := .later }
def StoreWholeUptoCardSaid : Prop := Claim7.holds Tryd.pinned (.plain (OpenSpec.upto storeWholeSpec)) storeWholeUptoCard

/-- THE SECOND FORM's CARD OF 'seneschallaw17.StoreTorn'. -/
def storeTornUptoCard : Claim7 := { stood := { row := storeTornUptoRow, standIns := [], harness := (true, "8a85cddbeb38f5ac4a5cf7c68cfa58a2f9257038c1c4533a4bb36d09786b5ba7"), looks := true }, kinds := [], alts := [], laidByText := true, laidKinds := [.data], laidTests := true, laidLooks := .later }
def StoreTornUptoCardSaid : Prop := Claim7.holds Tryd.pinned (.plain (OpenSpec.upto storeTornSpec)) storeTornUptoCard

/-- THE SECOND FORM's CARD OF 'seneschallaw17.StoreBounds'. -/
def storeBoundsUptoCard : Claim7 := { stood := { row := storeBoundsUptoRow, standIns := [], harness := (true, "8a85cddbeb38f5ac4a5cf7c68cfa58a2f9257038c1c4533a4bb36d09786b5ba7"), looks := true }, kinds := [], alts := [], laidByText := true, laidKinds := [.data], laidTests := true, laidLooks := .later }
def StoreBoundsUptoCardSaid : Prop := Claim7.holds Tryd.pinned (.plain (OpenSpec.upto storeBoundsSpec)) storeBoundsUptoCard

/-- THE SECOND FORM's CARD OF 'seneschallaw17.StoreErased'. -/
def storeErasedUptoCard : Claim7 := { stood := { row := storeErasedUptoRow, standIns := [], harness := (true, "8a85cddbeb38f5ac4a5cf7c68cfa58a2f9257038c1c4533a4bb36d09786b5ba7"), looks := true }, kinds := [], alts := [], laidByText := true, laidKinds := [.data], laidTests := true, laidLooks := .later }
def StoreErasedUptoCardSaid : Prop := Claim7.holds Tryd.pinned (.plain (OpenSpec.upto storeErasedSpec)) storeErasedUptoCard
end Rows
end Go.Proofs.YtinomleiihbfiaaDoor
