/-
  DERIVED. GIVEN WITH THE SEED: THE CARDS: each row of YthgmhlpjbednpaaDoorRows.lean that lists a variable, with what it lists TIED to the program's text (the seventh form; the later family's looks); each row that meets fmt, with fmt's text TOLD by the authors' own Lean function (tested against real Go, not proved from fmt's source: count such statements apart). THE CARD IS WHAT COUNTS. Prove the row's statement (the work); the ties are given (YthgmhlpjbednpaaDoorTie.lean); close each card by the builder's one call (the guide's Derived/Test/ToyasCard.lean, 'card_holds'). Laid BY PROGRAM, IN A SANDBOX (cutbox-door.mjs). By AI agents, Wed Nov 11 2026. No macro, syntax, notation, axiom, sorry.
-/
import Derived.Test.YthgmhlpjbednpaaDoorRows
import GoSem.ClaimSeven
namespace Go.Proofs.YthgmhlpjbednpaaDoor
namespace Rows

/-- THE TIED CARD OF 'accountinglaw16.LocksPlays'. -/
def locksPlaysCard : Claim7 := { stood := { row := locksPlaysRow, standIns := [], harness := (true, "5efddb6f47badd170cfb6ec46cf8324222e7b3173b02ece8e79ed712f74b6ba8"), looks := false }, kinds := [], alts := [], laidByText := true, laidKinds := [.data], laidTests := true, laidLooks := .later }
def LocksPlaysCardSaid : Prop := Claim7.holds Tryd.pinned (.plain (OpenSpec.ofChange locksPlaysSpec)) locksPlaysCard

/-- THE TIED CARD OF 'accountinglaw16.LocksTwo'. -/
def locksTwoCard : Claim7 := { stood := { row := locksTwoRow, standIns := [], harness := (true, "5efddb6f47badd170cfb6ec46cf8324222e7b3173b02ece8e79ed712f74b6ba8"), looks := false }, kinds := [], alts := [], laidByText := true, laidKinds := [.data], laidTests := true, laidLooks := .later }
def LocksTwoCardSaid : Prop := Claim7.holds Tryd.pinned (.plain (OpenSpec.ofChange locksTwoSpec)) locksTwoCard

/-- THE TIED CARD OF 'accountinglaw16.LocksApart'. -/
def locksApartCard : Claim7 := { stood := { row := locksApartRow, standIns := [], harness := (true, "5efddb6f47badd170cfb6ec46cf8324222e7b3173b02ece8e79ed712f74b6ba8"), looks := false }, kinds := [], alts := [], laidByText := true, laidKinds := [.data], laidTests := true, laidLooks := .later }
def LocksApartCardSaid : Prop := Claim7.holds Tryd.pinned (.plain (OpenSpec.ofChange locksApartSpec)) locksApartCard

/-- THE TIED CARD OF 'accountinglaw16.LocksLater'. -/
def locksLaterCard : Claim7 := { stood := { row := locksLaterRow, standIns := [], harness := (true, "5efddb6f47badd170cfb6ec46cf8324222e7b3173b02ece8e79ed712f74b6ba8"), looks := false }, kinds := [], alts := [], laidByText := true, laidKinds := [.data], laidTests := true, laidLooks := .later }
def LocksLaterCardSaid : Prop := Claim7.holds Tryd.pinned (.plain (OpenSpec.ofChange locksLaterSpec)) locksLaterCard

/-- THE TIED CARD OF 'accountinglaw16.LocksNews'. -/
def locksNewsCard : Claim7 := { stood := { row := locksNewsRow, standIns := [], harness := (true, "5efddb6f47badd170cfb6ec46cf8324222e7b3173b02ece8e79ed712f74b6ba8"), looks := false }, kinds := [], alts := [], laidByText := true, laidKinds := [.data], laidTests := true, laidLooks := .later }
def LocksNewsCardSaid : Prop := Claim7.holds Tryd.pinned (.plain (OpenSpec.ofChange locksNewsSpec)) locksNewsCard

/-- THE TIED CARD OF 'accountinglaw16.LocksNil'. -/
def locksNilCard : Claim7 := { stood := { row := locksNilRow, standIns := [], harness := (true, "5efddb6f47badd170cfb6ec46cf8324222e7b3173b02ece8e79ed712f74b6ba8"), looks := false }, kinds := [], alts := [], laidByText := true, laidKinds := [.data], laidTests := true, laidLooks := .later }
def LocksNilCardSaid : Prop := Claim7.holds Tryd.pinned (.plain (OpenSpec.ofChange locksNilSpec)) locksNilCard

/-- THE SECOND FORM's CARD OF 'accountinglaw16.LocksPlays'. -/
def locksPlaysUptoCard : Claim7 := { stood := { row := locksPlaysUptoRow, standIns := [], harness := (true, "5efddb6f47badd170cfb6ec46cf8324222e7b3173b02ece8e79ed712f74b6ba8"), looks := false }, kinds := [], alts := [], laidByText := true, laidKinds := [.data], laidTests := true, laidLooks := .later }
def LocksPlaysUptoCardSaid : Prop := Claim7.holds Tryd.pinned (.plain (OpenSpec.upto locksPlaysSpec)) locksPlaysUptoCard

/-- THE SECOND FORM's CARD OF 'accountinglaw16.LocksTwo'. -/
def locksTwoUptoCard : Claim7 := { stood := { row := locksTwoUptoRow, standIns := [], harness := (true, "5efddb6f47badd170cfb6ec46cf8324222e7b3173b02ece8e79ed712f74b6ba8"), looks := false }, kinds := [], alts := [], laidByText := true, laidKinds := [.data], laidTests := true, laidLooks := .later }
def LocksTwoUptoCardSaid : Prop := Claim7.holds Tryd.pinned (.plain (OpenSpec.upto locksTwoSpec)) locksTwoUptoCard

/-- THE SECOND FORM's CARD OF 'accountinglaw16.LocksApart'. -/
def locksApartUptoCard : Claim7 := { stood := { row := locksApartUptoRow, standIns := [], harness := (true, "5efddb6f47badd170cfb6ec46cf8324222e7b3173b02ece8e79ed712f74b6ba8"), looks := false }, kinds := [], alts := [], laidByText := true, laidKinds := [.data], laidTests := true, laidLooks := .later }
def LocksApartUptoCardSaid : Prop := Claim7.holds Tryd.pinned (.plain (OpenSpec.upto locksApartSpec)) locksApartUptoCard

/-- THE SECOND FORM's CARD OF 'accountinglaw16.LocksLater'. -/
def locksLaterUptoCard : Claim7 := { stood := { row := locksLaterUptoRow, standIns := [], harness := (true, "5efddb6f47badd170cfb6ec46cf8324222e7b3173b02ece8e79ed712f74b6ba8"), looks := false }, kinds := [], alts := [], laidByText := true, laidKinds := [.data], laidTests := true, laidLooks := .later }
def LocksLaterUptoCardSaid : Prop := Claim7.holds Tryd.pinned (.plain (OpenSpec.upto locksLaterSpec)) locksLaterUptoCard

/-- THE SECOND FORM's CARD OF 'accountinglaw16.LocksNews'. -/
def locksNewsUptoCard : Claim7 := { stood := { row := locksNewsUptoRow, standIns := [], harness := (true, "5efddb6f47badd170cfb6ec46cf8324222e7b3173b02ece8e79ed712f74b6ba8"), looks := false }, kinds := [], alts := [], laidByText := true, laidKinds := [.data], laidTests := true, laidLooks := .later }
def LocksNewsUptoCardSaid : Prop := Claim7.holds Tryd.pinned (.plain (OpenSpec.upto locksNewsSpec)) locksNewsUptoCard

/-- THE SECOND FORM's CARD OF 'accountinglaw16.LocksNil'. -/
def locksNilUptoCard : Claim7 := { stood := { row := locksNilUptoRow, standIns := [], harness := (true, "5efddb6f47badd170cfb6ec46cf8324222e7b3173b02ece8e79ed712f74b6ba8"), looks := false }, kinds := [], alts := [], laidByText := true, laidKinds := [.data], laidTests := true, laidLooks := .later }
def LocksNilUptoCardSaid : Prop := Claim7.holds Tryd.pinned (.plain (OpenSpec.upto locksNilSpec)) locksNilUptoCard
end Rows
end Go.Proofs.YthgmhlpjbednpaaDoor
