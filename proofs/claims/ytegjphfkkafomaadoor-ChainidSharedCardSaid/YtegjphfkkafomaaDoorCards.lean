/-
  DERIVED. GIVEN WITH THE SEED: THE CARDS: each row of YtegjphfkkafomaaDoorRows.lean that lists a variable, with what it lists TIED to the program's text (the seventh form; the later family's looks); each row that meets fmt, with fmt's text TOLD by the authors' own Lean function (tested against real Go, not proved from fmt's source: count such statements apart). THE CARD IS WHAT COUNTS. Prove the row's statement (the work); the ties are given (YtegjphfkkafomaaDoorTie.lean); close each card by the builder's one call (the guide's Derived/Test/ToyasCard.lean, 'card_holds'). Laid BY PROGRAM, IN A SANDBOX (cutbox-door.mjs). By AI agents, Wed Nov 11 2026. No macro, syntax, notation, axiom, sorry.
-/
import Derived.Test.YtegjphfkkafomaaDoorRows
import GoSem.ClaimSeven
namespace Go.Proofs.YtegjphfkkafomaaDoor
namespace Rows

/-- THE TIED CARD OF 'lighterlaw04.ShaOf'. -/
def shaOfCard : Claim7 := { stood := { row := shaOfRow, standIns := [], harness := (true, "8c9ca4c98246e656f23aee3d3048eb5c9289cea505c506c42c0ec4669c8a7a26"), looks := false }, kinds := [], alts := [], laidByText := true, laidKinds := [.data, .data], laidTests := true, laidLooks := .later }
def ShaOfCardSaid : Prop := Claim7.holds Tryd.pinned (.plain (OpenSpec.ofChange shaOfSpec)) shaOfCard

/-- THE TIED CARD OF 'lighterlaw04.ShaParts'. -/
def shaPartsCard : Claim7 := { stood := { row := shaPartsRow, standIns := [], harness := (true, "8c9ca4c98246e656f23aee3d3048eb5c9289cea505c506c42c0ec4669c8a7a26"), looks := false }, kinds := [], alts := [], laidByText := true, laidKinds := [.data, .data], laidTests := true, laidLooks := .later }
def ShaPartsCardSaid : Prop := Claim7.holds Tryd.pinned (.plain (OpenSpec.ofChange shaPartsSpec)) shaPartsCard

/-- THE TIED CARD OF 'lighterlaw04.ShaNone'. -/
def shaNoneCard : Claim7 := { stood := { row := shaNoneRow, standIns := [], harness := (true, "8c9ca4c98246e656f23aee3d3048eb5c9289cea505c506c42c0ec4669c8a7a26"), looks := false }, kinds := [], alts := [], laidByText := true, laidKinds := [.data, .data], laidTests := true, laidLooks := .later }
def ShaNoneCardSaid : Prop := Claim7.holds Tryd.pinned (.plain (OpenSpec.ofChange shaNoneSpec)) shaNoneCard

/-- THE TIED CARD OF 'lighterlaw04.ShaApart'. -/
def shaApartCard : Claim7 := { stood := { row := shaApartRow, standIns := [], harness := (true, "8c9ca4c98246e656f23aee3d3048eb5c9289cea505c506c42c0ec4669c8a7a26"), looks := false }, kinds := [], alts := [], laidByText := true, laidKinds := [.data, .data], laidTests := true, laidLooks := .later }
def ShaApartCardSaid : Prop := Claim7.holds Tryd.pinned (.plain (OpenSpec.ofChange shaApartSpec)) shaApartCard

/-- THE TIED CARD OF 'lighterlaw17.ChainidTell'. -/
def chainidTellCard : Claim7 := { stood := { row := chainidTellRow, standIns := [], harness := (true, "8c9ca4c98246e656f23aee3d3048eb5c9289cea505c506c42c0ec4669c8a7a26"), looks := false }, kinds := [], alts := [], laidByText := true, laidKinds := [.data, .data], laidTests := true, laidLooks := .later }
def ChainidTellCardSaid : Prop := Claim7.holds Tryd.pinned (.plain (OpenSpec.ofChange chainidTellSpec)) chainidTellCard

/-- THE TIED CARD OF 'lighterlaw17.ChainidShared'. -/
def chainidSharedCard : Claim7 := { stood := { row := chainidSharedRow, standIns := [], harness := (true, "8c9ca4c98246e656f23aee3d3048eb5c9289cea505c506c42c0ec4669c8a7a26"), looks := false }, kinds := [], alts := [], laidByText := true, laidKinds := [.data, .data], laidTests := true, laidLooks := .later }
def ChainidSharedCardSaid : Prop := Claim7.holds Tryd.pinned (.plain (OpenSpec.ofChange chainidSharedSpec)) chainidSharedCard

/-- THE SECOND FORM's CARD OF 'lighterlaw04.ShaOf'. -/
def shaOfUptoCard : Claim7 := { stood := { row := shaOfUptoRow, standIns := [], harness := (true, "8c9ca4c98246e656f23aee3d3048eb5c9289cea505c506c42c0ec4669c8a7a26"), looks := false }, kinds := [], alts := [], laidByText := true, laidKinds := [.data, .data], laidTests := true, laidLooks := .later }
def ShaOfUptoCardSaid : Prop := Claim7.holds Tryd.pinned (.plain (OpenSpec.upto shaOfSpec)) shaOfUptoCard

/-- THE SECOND FORM's CARD OF 'lighterlaw04.ShaParts'. -/
def shaPartsUptoCard : Claim7 := { stood := { row := shaPartsUptoRow, standIns := [], harness := (true, "8c9ca4c98246e656f23aee3d3048eb5c9289cea505c506c42c0ec4669c8a7a26"), looks := false }, kinds := [], alts := [], laidByText := true, laidKinds := [.data, .data], laidTests := true, laidLooks := .later }
def ShaPartsUptoCardSaid : Prop := Claim7.holds Tryd.pinned (.plain (OpenSpec.upto shaPartsSpec)) shaPartsUptoCard

/-- THE SECOND FORM's CARD OF 'lighterlaw04.ShaNone'. -/
def shaNoneUptoCard : Claim7 := { stood := { row := shaNoneUptoRow, standIns := [], harness := (true, "8c9ca4c98246e656f23aee3d3048eb5c9289cea505c506c42c0ec4669c8a7a26"), looks := false }, kinds := [], alts := [], laidByText := true, laidKinds := [.data, .data], laidTests := true, laidLooks := .later }
def ShaNoneUptoCardSaid : Prop := Claim7.holds Tryd.pinned (.plain (OpenSpec.upto shaNoneSpec)) shaNoneUptoCard

/-- THE SECOND FORM's CARD OF 'lighterlaw04.ShaApart'. -/
def shaApartUptoCard : Claim7 := { stood := { row := shaApartUptoRow, standIns := [], harness := (true, "8c9ca4c98246e656f23aee3d3048eb5c9289cea505c506c42c0ec4669c8a7a26"), looks := false }, kinds := [], alts := [], laidByText := true, laidKinds := [.data, .data], laidTests := true, laidLooks := .later }
def ShaApartUptoCardSaid : Prop := Claim7.holds Tryd.pinned (.plain (OpenSpec.upto shaApartSpec)) shaApartUptoCard

/-- THE SECOND FORM's CARD OF 'lighterlaw17.ChainidTell'. -/
def chainidTellUptoCard : Claim7 := { stood := { row := chainidTellUptoRow, standIns := [], harness := (true, "8c9ca4c98246e656f23aee3d3048eb5c9289cea505c506c42c0ec4669c8a7a26"), looks := false }, kinds := [], alts := [], laidByText := true, laidKinds := [.data, .data], laidTests := true, laidLooks := .later }
def ChainidTellUptoCardSaid : Prop := Claim7.holds Tryd.pinned (.plain (OpenSpec.upto chainidTellSpec)) chainidTellUptoCard

/-- THE SECOND FORM's CARD OF 'lighterlaw17.ChainidShared'. -/
def chainidSharedUptoCard : Claim7 := { stood := { row := chainidSharedUptoRow, standIns := [], harness := (true, "8c9ca4c98246e656f23aee3d3048eb5c9289cea505c506c42c0ec4669c8a7a26"), looks := false }, kinds := [], alts := [], laidByText := true, laidKinds := [.data, .data], laidTests := true, laidLooks := .later }
def ChainidSharedUptoCardSaid : Prop := Claim7.holds Tryd.pinned (.plain (OpenSpec.upto chainidSharedSpec)) chainidSharedUptoCard
end Rows
end Go.Proofs.YtegjphfkkafomaaDoor
