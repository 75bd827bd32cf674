/-
  DERIVED. GIVEN WITH THE SEED: THE CARDS: each row of YtcmlppknfbndaaaDoorRows.lean that lists a variable, with what it lists TIED to the program's text (the seventh form; the later family's looks); each row that meets fmt, with fmt's text TOLD by the authors' own Lean function (tested against real Go, not proved from fmt's source: count such statements apart). THE CARD IS WHAT COUNTS. Prove the row's statement (the work); the ties are given (YtcmlppknfbndaaaDoorTie.lean); close each card by the builder's one call (the guide's Derived/Test/ToyasCard.lean, 'card_holds'). Laid BY PROGRAM, IN A SANDBOX (cutbox-door.mjs). By AI agents, Wed Nov 11 2026. No macro, syntax, notation, axiom, sorry.
-/
import Derived.Test.YtcmlppknfbndaaaDoorRows
import GoSem.ClaimSeven
namespace Go.Proofs.YtcmlppknfbndaaaDoor
namespace Rows

/-- THE TIED CARD OF 'scantlinglaw06.JsonShort'. -/
def jsonShortCard : Claim7 := { stood := { row := jsonShortRow, standIns := [], harness := (true, "323abdd0ce1c17b99c7514270c55b24d66d609fdc3a062e7197c3a71c2d325c3"), looks := true }, kinds := [], alts := [], laidByText := true, laidKinds := [.data, .data, .data, .data, .sentinel, .sentinel, .pinned], laidTests := true, laidLooks := .later }
def JsonShortCardSaid : Prop := Claim7.holds Tryd.pinned (.plain (OpenSpec.ofChange jsonShortSpec)) jsonShortCard

/-- THE TIED CARD OF 'scantlinglaw06.JsonBlanks'. -/
def jsonBlanksCard : Claim7 := { stood := { row := jsonBlanksRow, standIns := [], harness := (true, "323abdd0ce1c17b99c7514270c55b24d66d609fdc3a062e7197c3a71c2d325c3"), looks := true }, kinds := [], alts := [], laidByText := true, laidKinds := [.data, .data, .data, .data, .sentinel, .sentinel, .pinned], laidTests := true, laidLooks := .later }
def JsonBlanksCardSaid : Prop := Claim7.holds Tryd.pinned (.plain (OpenSpec.ofChange jsonBlanksSpec)) jsonBlanksCard

/-- THE TIED CARD OF 'scantlinglaw06.JsonNests'. -/
def jsonNestsCard : Claim7 := { stood := { row := jsonNestsRow, standIns := [], harness := (true, "323abdd0ce1c17b99c7514270c55b24d66d609fdc3a062e7197c3a71c2d325c3"), looks := true }, kinds := [], alts := [], laidByText := true, laidKinds := [.data, .data, .data, .data, .sentinel, .sentinel, .pinned], laidTests := true, laidLooks := .later }
def JsonNestsCardSaid : Prop := Claim7.holds Tryd.pinned (.plain (OpenSpec.ofChange jsonNestsSpec)) jsonNestsCard

/-- THE SECOND FORM's CARD OF 'scantlinglaw06.JsonShort'. -/
def jsonShortUptoCard : Claim7 := { stood := { row := jsonShortUptoRow, standIns := [], harness := (true, "323abdd0ce1c17b99c7514270c55b24d66d609fdc3a062e7197c3a71c2d325c3"), looks := true }, kinds := [], alts := [], laidByText := true, laidKinds := [.data, .data, .data, .data, .sentinel, .sentinel, .pinned], laidTests := true, laidLooks := .later }
def JsonShortUptoCardSaid : Prop := Claim7.holds Tryd.pinned (.plain (OpenSpec.upto jsonShortSpec)) jsonShortUptoCard

/-- THE SECOND FORM's CARD OF 'scantlinglaw06.JsonBlanks'. -/
def jsonBlanksUptoCard : Claim7 := { stood := { row := jsonBlanksUptoRow, standIns := [], harness := (true, "323abdd0ce1c17b99c7514270c55b24d66d609fdc3a062e7197c3a71c2d325c3"), looks := true }, kinds := [], alts := [], laidByText := true, laidKinds := [.data, .data, .data, .data, .sentinel, .sentinel, .pinned], laidTests := true, laidLooks := .later }
def JsonBlanksUptoCardSaid : Prop := Claim7.holds Tryd.pinned (.plain (OpenSpec.upto jsonBlanksSpec)) jsonBlanksUptoCard

/-- THE SECOND FORM's CARD OF 'scantlinglaw06.JsonNests'. -/
def jsonNestsUptoCard : Claim7 := { stood := { row := jsonNestsUptoRow, standIns := [], harness := (true, "323abdd0ce1c17b99c7514270c55b24d66d609fdc3a062e7197c3a71c2d325c3"), looks := true }, kinds := [], alts := [], laidByText := true, laidKinds := [.data, .data, .data, .data, .sentinel, .sentinel, .pinned], laidTests := true, laidLooks := .later }
def JsonNestsUptoCardSaid : Prop := Claim7.holds Tryd.pinned (.plain (OpenSpec.upto jsonNestsSpec)) jsonNestsUptoCard
end Rows
end Go.Proofs.YtcmlppknfbndaaaDoor
