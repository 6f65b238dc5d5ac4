/-
  DERIVED. GIVEN WITH THE SEED: THE CARDS: each row of YteplaginenhfkaaDoorRows.lean that lists a variable, with what it lists TIED to the program's text (the seventh form; the later family's looks); each row that meets fmt, with fmt's text TOLD by the authors' own Lean function (tested against real Go, not proved from fmt's source: count such statements apart). THE CARD IS WHAT COUNTS. Prove the row's statement (the work); the ties are given (YteplaginenhfkaaDoorTie.lean); close each card by the builder's one call (the guide's Derived/Test/ToyasCard.lean, 'card_holds'). Laid BY PROGRAM, IN A SANDBOX (cutbox-door.mjs). By AI agents, Wed Nov 11 2026. No macro, syntax, notation, axiom, sorry.
-/
import Derived.Test.YteplaginenhfkaaDoorRows
import GoSem.ClaimSeven
namespace Go.Proofs.YteplaginenhfkaaDoor
namespace Rows

/-- THE TIED CARD OF 'seneschallaw19.WhoChecks'. -/
def whoChecksCard : Claim7 := { stood := { row := whoChecksRow, standIns := [], harness := (true, "ff7d8145810a7c309a792e50fb7902b97149fa200475d8625a2fc896e4d09ad1"), looks := false }, kinds := [], alts := [], laidByText := true, laidKinds := [.data], laidTests := true, laidLooks := .later }
def WhoChecksCardSaid : Prop := Claim7.holds Tryd.pinned (.plain (OpenSpec.ofChange whoChecksSpec)) whoChecksCard

/-- THE TIED CARD OF 'seneschallaw19.WhoGrants'. -/
def whoGrantsCard : Claim7 := { stood := { row := whoGrantsRow, standIns := [], harness := (true, "ff7d8145810a7c309a792e50fb7902b97149fa200475d8625a2fc896e4d09ad1"), looks := false }, kinds := [], alts := [], laidByText := true, laidKinds := [.data], laidTests := true, laidLooks := .later }
def WhoGrantsCardSaid : Prop := Claim7.holds Tryd.pinned (.plain (OpenSpec.ofChange whoGrantsSpec)) whoGrantsCard

/-- THE TIED CARD OF 'seneschallaw19.WhoLasts'. -/
def whoLastsCard : Claim7 := { stood := { row := whoLastsRow, standIns := [], harness := (true, "ff7d8145810a7c309a792e50fb7902b97149fa200475d8625a2fc896e4d09ad1"), looks := false }, kinds := [], alts := [], laidByText := true, laidKinds := [.data], laidTests := true, laidLooks := .later }
def WhoLastsCardSaid : Prop := Claim7.holds Tryd.pinned (.plain (OpenSpec.ofChange whoLastsSpec)) whoLastsCard

/-- THE TIED CARD OF 'seneschallaw19.WhoProves'. -/
def whoProvesCard : Claim7 := { stood := { row := whoProvesRow, standIns := [], harness := (true, "ff7d8145810a7c309a792e50fb7902b97149fa200475d8625a2fc896e4d09ad1"), looks := false }, kinds := [], alts := [], laidByText := true, laidKinds := [.data], laidTests := true, laidLooks := .later }
def WhoProvesCardSaid : Prop := Claim7.holds Tryd.pinned (.plain (OpenSpec.ofChange whoProvesSpec)) whoProvesCard

/-- THE TIED CARD OF 'seneschallaw19.WhoMay'. -/
def whoMayCard : Claim7 := { stood := { row := whoMayRow, standIns := [], harness := (true, "ff7d8145810a7c309a792e50fb7902b97149fa200475d8625a2fc896e4d09ad1"), looks := false }, kinds := [], alts := [], laidByText := true, laidKinds := [.data], laidTests := true, laidLooks := .later }
def WhoMayCardSaid : Prop := Claim7.holds Tryd.pinned (.plain (OpenSpec.ofChange whoMaySpec)) whoMayCard

/-- THE TIED CARD OF 'seneschallaw19.WhoBooks'. -/
def whoBooksCard : Claim7 := { stood := { row := whoBooksRow, standIns := [], harness := (true, "ff7d8145810a7c309a792e50fb7902b97149fa200475d8625a2fc896e4d09ad1"), looks := false }, kinds := [], alts := [], laidByText := true, laidKinds := [.data], laidTests := true, laidLooks := .later }
def WhoBooksCardSaid : Prop := Claim7.holds Tryd.pinned (.plain (OpenSpec.ofChange whoBooksSpec)) whoBooksCard

/-- THE TIED CARD OF 'seneschallaw19.WhoVoid'. -/
def whoVoidCard : Claim7 := { stood := { row := whoVoidRow, standIns := [], harness := (true, "ff7d8145810a7c309a792e50fb7902b97149fa200475d8625a2fc896e4d09ad1"), looks := false }, kinds := [], alts := [], laidByText := true, laidKinds := [.data], laidTests := true, laidLooks := .later }
def WhoVoidCardSaid : Prop := Claim7.holds Tryd.pinned (.plain (OpenSpec.ofChange whoVoidSpec)) whoVoidCard

/-- THE SECOND FORM's CARD OF 'seneschallaw19.WhoChecks'. -/
def whoChecksUptoCard : Claim7 := { stood := { row := whoChecksUptoRow, standIns := [], harness := (true, "ff7d8145810a7c309a792e50fb7902b97149fa200475d8625a2fc896e4d09ad1"), looks := false }, kinds := [], alts := [], laidByText := true, laidKinds := [.data], laidTests := true, laidLooks := .later }
def WhoChecksUptoCardSaid : Prop := Claim7.holds Tryd.pinned (.plain (OpenSpec.upto whoChecksSpec)) whoChecksUptoCard

/-- THE SECOND FORM's CARD OF 'seneschallaw19.WhoGrants'. -/
def whoGrantsUptoCard : Claim7 := { stood := { row := whoGrantsUptoRow, standIns := [], harness := (true, "ff7d8145810a7c309a792e50fb7902b97149fa200475d8625a2fc896e4d09ad1"), looks := false }, kinds := [], alts := [], laidByText := true, laidKinds := [.data], laidTests := true, laidLooks := .later }
def WhoGrantsUptoCardSaid : Prop := Claim7.holds Tryd.pinned (.plain (OpenSpec.upto whoGrantsSpec)) whoGrantsUptoCard

/-- THE SECOND FORM's CARD OF 'seneschallaw19.WhoLasts'. -/
def whoLastsUptoCard : Claim7 := { stood := { row := whoLastsUptoRow, standIns := [], harness := (true, "ff7d8145810a7c309a792e50fb7902b97149fa200475d8625a2fc896e4d09ad1"), looks := false }, kinds := [], alts := [], laidByText := true, laidKinds := [.data], laidTests := true, laidLooks := .later }
def WhoLastsUptoCardSaid : Prop := Claim7.holds Tryd.pinned (.plain (OpenSpec.upto whoLastsSpec)) whoLastsUptoCard

/-- THE SECOND FORM's CARD OF 'seneschallaw19.WhoProves'. -/
def whoProvesUptoCard : Claim7 := { stood := { row := whoProvesUptoRow, standIns := [], harness := (true, "ff7d8145810a7c309a792e50fb7902b97149fa200475d8625a2fc896e4d09ad1"), looks := false }, kinds := [], alts := [], laidByText := true, laidKinds := [.data], laidTests := true, laidLooks := .later }
def WhoProvesUptoCardSaid : Prop := Claim7.holds Tryd.pinned (.plain (OpenSpec.upto whoProvesSpec)) whoProvesUptoCard

/-- THE SECOND FORM's CARD OF 'seneschallaw19.WhoMay'. -/
def whoMayUptoCard : Claim7 := { stood := { row := whoMayUptoRow, standIns := [], harness := (true, "ff7d8145810a7c309a792e50fb7902b97149fa200475d8625a2fc896e4d09ad1"), looks := false }, kinds := [], alts := [], laidByText := true, laidKinds := [.data], laidTests := true, laidLooks := .later }
def WhoMayUptoCardSaid : Prop := Claim7.holds Tryd.pinned (.plain (OpenSpec.upto whoMaySpec)) whoMayUptoCard

/-- THE SECOND FORM's CARD OF 'seneschallaw19.WhoBooks'. -/
def whoBooksUptoCard : Claim7 := { stood := { row := whoBooksUptoRow, standIns := [], harness := (true, "ff7d8145810a7c309a792e50fb7902b97149fa200475d8625a2fc896e4d09ad1"), looks := false }, kinds := [], alts := [], laidByText := true, laidKinds := [.data], laidTests := true, laidLooks := .later }
def WhoBooksUptoCardSaid : Prop := Claim7.holds Tryd.pinned (.plain (OpenSpec.upto whoBooksSpec)) whoBooksUptoCard

/-- THE SECOND FORM's CARD OF 'seneschallaw19.WhoVoid'. -/
def whoVoidUptoCard : Claim7 := { stood := { row := whoVoidUptoRow, standIns := [], harness := (true, "ff7d8145810a7c309a792e50fb7902b97149fa200475d8625a2fc896e4d09ad1"), looks := false }, kinds := [], alts := [], laidByText := true, laidKinds := [.data], laidTests := true, laidLooks := .later }
def WhoVoidUptoCardSaid : Prop := Claim7.holds Tryd.pinned (.plain (OpenSpec.upto whoVoidSpec)) whoVoidUptoCard
end Rows
end Go.Proofs.YteplaginenhfkaaDoor
