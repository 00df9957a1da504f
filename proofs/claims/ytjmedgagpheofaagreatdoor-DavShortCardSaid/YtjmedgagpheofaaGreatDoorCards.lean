/-
  DERIVED. GIVEN WITH THE SEED: THE CARDS: each row of YtjmedgagpheofaaGreatDoorRows.lean that lists a variable, with what it lists TIED to the program's text (the seventh form; the later family's looks); each row that meets fmt, with fmt's text TOLD by the authors' own Lean function (tested against real Go, not proved from fmt's source: count such statements apart). THE CARD IS WHAT COUNTS. Prove the row's statement (the work); the ties are given (YtjmedgagpheofaaGreatDoorTie.lean); close each card by the builder's one call (the guide's Derived/Test/ToyasCard.lean, 'card_holds'). Laid BY PROGRAM, IN A SANDBOX (cutbox-door.mjs). By AI agents, Wed Nov 11 2026. No macro, syntax, notation, axiom, sorry.
-/
import Derived.Test.YtjmedgagpheofaaGreatDoorRows
import GoSem.ClaimSeven
namespace Go.Proofs.YtjmedgagpheofaaGreatDoor
namespace Rows

/-- THE TIED CARD OF 'cardcaselaw13.DavRequests'. -/
def davRequestsCard : Claim7 := { stood := { row := davRequestsRow, standIns := [], harness := (true, "1c62044d69c5e9468fc0707d064db1507b57e341ddb458e32f0375b265e49f8d"), looks := true }, kinds := [], alts := [], laidByText := true, laidKinds := [.data, .data, .data, .data, .sentinel, .sentinel, .pinned], laidTests := true, laidLooks := .later }
def DavRequestsCardSaid : Prop := Claim7.holds Tryz.pinned (.plain (OpenSpec.ofChange davRequestsSpec)) davRequestsCard

/-- THE TIED CARD OF 'cardcaselaw13.DavOf'. -/
def davOfCard : Claim7 := { stood := { row := davOfRow, standIns := [], harness := (true, "1c62044d69c5e9468fc0707d064db1507b57e341ddb458e32f0375b265e49f8d"), looks := true }, kinds := [], alts := [], laidByText := true, laidKinds := [.data, .data, .data, .data, .sentinel, .sentinel, .pinned], laidTests := true, laidLooks := .later }
def DavOfCardSaid : Prop := Claim7.holds Tryz.pinned (.plain (OpenSpec.ofChange davOfSpec)) davOfCard

/-- THE TIED CARD OF 'cardcaselaw13.DavReplies'. -/
def davRepliesCard : Claim7 := { stood := { row := davRepliesRow, standIns := [], harness := (true, "1c62044d69c5e9468fc0707d064db1507b57e341ddb458e32f0375b265e49f8d"), looks := true }, kinds := [], alts := [], laidByText := true, laidKinds := [.data, .data, .data, .data, .sentinel, .sentinel, .pinned], laidTests := true, laidLooks := .later }
def DavRepliesCardSaid : Prop := Claim7.holds Tryz.pinned (.plain (OpenSpec.ofChange davRepliesSpec)) davRepliesCard

/-- THE TIED CARD OF 'cardcaselaw13.DavOrder'. -/
def davOrderCard : Claim7 := { stood := { row := davOrderRow, standIns := [], harness := (true, "1c62044d69c5e9468fc0707d064db1507b57e341ddb458e32f0375b265e49f8d"), looks := true }, kinds := [], alts := [], laidByText := true, laidKinds := [.data, .data, .data, .data, .sentinel, .sentinel, .pinned], laidTests := true, laidLooks := .later }
def DavOrderCardSaid : Prop := Claim7.holds Tryz.pinned (.plain (OpenSpec.ofChange davOrderSpec)) davOrderCard

/-- THE TIED CARD OF 'cardcaselaw13.DavReads'. -/
def davReadsCard : Claim7 := { stood := { row := davReadsRow, standIns := [], harness := (true, "1c62044d69c5e9468fc0707d064db1507b57e341ddb458e32f0375b265e49f8d"), looks := true }, kinds := [], alts := [], laidByText := true, laidKinds := [.data, .data, .data, .data, .sentinel, .sentinel, .pinned], laidTests := true, laidLooks := .later }
def DavReadsCardSaid : Prop := Claim7.holds Tryz.pinned (.plain (OpenSpec.ofChange davReadsSpec)) davReadsCard

/-- THE TIED CARD OF 'cardcaselaw13.DavShort'. -/
def davShortCard : Claim7 := { stood := { row := davShortRow, standIns := [], harness := (true, "1c62044d69c5e9468fc0707d064db1507b57e341ddb458e32f0375b265e49f8d"), looks := true }, kinds := [], alts := [], laidByText := true, laidKinds := [.data, .data, .data, .data, .sentinel, .sentinel, .pinned], laidTests := true, laidLooks := .later }
def DavShortCardSaid : Prop := Claim7.holds Tryz.pinned (.plain (OpenSpec.ofChange davShortSpec)) davShortCard

/-- THE SECOND FORM's CARD OF 'cardcaselaw13.DavRequests'. -/
def davRequestsUptoCard : Claim7 := { stood := { row := davRequestsUptoRow, standIns := [], harness := (true, "1c62044d69c5e9468fc0707d064db1507b57e341ddb458e32f0375b265e49f8d"), looks := true }, kinds := [], alts := [], laidByText := true, laidKinds := [.data, .data, .data, .data, .sentinel, .sentinel, .pinned], laidTests := true, laidLooks := .later }
def DavRequestsUptoCardSaid : Prop := Claim7.holds Tryz.pinned (.plain (OpenSpec.upto davRequestsSpec)) davRequestsUptoCard

/-- THE SECOND FORM's CARD OF 'cardcaselaw13.DavOf'. -/
def davOfUptoCard : Claim7 := { stood := { row := davOfUptoRow, standIns := [], harness := (true, "1c62044d69c5e9468fc0707d064db1507b57e341ddb458e32f0375b265e49f8d"), looks := true }, kinds := [], alts := [], laidByText := true, laidKinds := [.data, .data, .data, .data, .sentinel, .sentinel, .pinned], laidTests := true, laidLooks := .later }
def DavOfUptoCardSaid : Prop := Claim7.holds Tryz.pinned (.plain (OpenSpec.upto davOfSpec)) davOfUptoCard

/-- THE SECOND FORM's CARD OF 'cardcaselaw13.DavReplies'. -/
def davRepliesUptoCard : Claim7 := { stood := { row := davRepliesUptoRow, standIns := [], harness := (true, "1c62044d69c5e9468fc0707d064db1507b57e341ddb458e32f0375b265e49f8d"), looks := true }, kinds := [], alts := [], laidByText := true, laidKinds := [.data, .data, .data, .data, .sentinel, .sentinel, .pinned], laidTests := true, laidLooks := .later }
def DavRepliesUptoCardSaid : Prop := Claim7.holds Tryz.pinned (.plain (OpenSpec.upto davRepliesSpec)) davRepliesUptoCard

/-- THE SECOND FORM's CARD OF 'cardcaselaw13.DavOrder'. -/
def davOrderUptoCard : Claim7 := { stood := { row := davOrderUptoRow, standIns := [], harness := (true, "1c62044d69c5e9468fc0707d064db1507b57e341ddb458e32f0375b265e49f8d"), looks := true }, kinds := [], alts := [], laidByText := true, laidKinds := [.data, .data, .data, .data, .sentinel, .sentinel, .pinned], laidTests := true, laidLooks := .later }
def DavOrderUptoCardSaid : Prop := Claim7.holds Tryz.pinned (.plain (OpenSpec.upto davOrderSpec)) davOrderUptoCard

/-- THE SECOND FORM's CARD OF 'cardcaselaw13.DavReads'. -/
def davReadsUptoCard : Claim7 := { stood := { row := davReadsUptoRow, standIns := [], harness := (true, "1c62044d69c5e9468fc0707d064db1507b57e341ddb458e32f0375b265e49f8d"), looks := true }, kinds := [], alts := [], laidByText := true, laidKinds := [.data, .data, .data, .data, .sentinel, .sentinel, .pinned], laidTests := true, laidLooks := .later }
def DavReadsUptoCardSaid : Prop := Claim7.holds Tryz.pinned (.plain (OpenSpec.upto davReadsSpec)) davReadsUptoCard

/-- THE SECOND FORM's CARD OF 'cardcaselaw13.DavShort'. -/
def davShortUptoCard : Claim7 := { stood := { row := davShortUptoRow, standIns := [], harness := (true, "1c62044d69c5e9468fc0707d064db1507b57e341ddb458e32f0375b265e49f8d"), looks := true }, kinds := [], alts := [], laidByText := true, laidKinds := [.data, .data, .data, .data, .sentinel, .sentinel, .pinned], laidTests := true, laidLooks := .later }
def DavShortUptoCardSaid : Prop := Claim7.holds Tryz.pinned (.plain (OpenSpec.upto davShortSpec)) davShortUptoCard
end Rows
end Go.Proofs.YtjmedgagpheofaaGreatDoor
