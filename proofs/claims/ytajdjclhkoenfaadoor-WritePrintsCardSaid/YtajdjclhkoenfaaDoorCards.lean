/-
  DERIVED. GIVEN WITH THE SEED: THE CARDS: each row of YtajdjclhkoenfaaDoorRows.lean that lists a variable, with what it lists TIED to the program's text (the seventh form; the later family's looks); each row that meets fmt, with fmt's text TOLD by the authors' own Lean function (tested against real Go, not proved from fmt's source: count such statements apart). THE CARD IS WHAT COUNTS. Prove the row's statement (the work); the ties are given (YtajdjclhkoenfaaDoorTie.lean); close each card by the builder's one call (the guide's Derived/Test/ToyasCard.lean, 'card_holds'). Laid BY PROGRAM, IN A SANDBOX (cutbox-door.mjs). By AI agents, Wed Nov 11 2026. No macro, syntax, notation, axiom, sorry.
-/
import Derived.Test.YtajdjclhkoenfaaDoorRows
import GoSem.ClaimSeven
namespace Go.Proofs.YtajdjclhkoenfaaDoor
namespace Rows

/-- THE TIED CARD OF 'heliographlaw04.WritePrints'. -/
def writePrintsCard : Claim7 := { stood := { row := writePrintsRow, standIns := [], harness := (true, "784ce94683acfd1ff300bbde848b9debaa2f85735eb31fa706dcff12affe8aeb"), looks := true }, kinds := [], alts := [], laidByText := true, laidKinds := [.data, .pinned], laidTests := true, laidLooks := .later }
def WritePrintsCardSaid : Prop := Claim7.holds Tryd.pinned (.plain (OpenSpec.ofChange writePrintsSpec)) writePrintsCard

/-- THE TIED CARD OF 'heliographtop.TopStream'. -/
def topStreamCard : Claim7 := { stood := { row := topStreamRow, standIns := [], harness := (true, "784ce94683acfd1ff300bbde848b9debaa2f85735eb31fa706dcff12affe8aeb"), looks := true }, kinds := [], alts := [], laidByText := true, laidKinds := [.data, .pinned], laidTests := true, laidLooks := .later }
def TopStreamCardSaid : Prop := Claim7.holds Tryd.pinned (.plain (OpenSpec.ofChange topStreamSpec)) topStreamCard

/-- THE TIED CARD OF 'heliographlaw04.WriteBack'. -/
def writeBackCard : Claim7 := { stood := { row := writeBackRow, standIns := [], harness := (true, "784ce94683acfd1ff300bbde848b9debaa2f85735eb31fa706dcff12affe8aeb"), looks := true }, kinds := [], alts := [], laidByText := true, laidKinds := [.data, .pinned], laidTests := true, laidLooks := .later }
def WriteBackCardSaid : Prop := Claim7.holds Tryd.pinned (.plain (OpenSpec.ofChange writeBackSpec)) writeBackCard

/-- THE TIED CARD OF 'heliographtop.TopCarried'. -/
def topCarriedCard : Claim7 := { stood := { row := topCarriedRow, standIns := [], harness := (true, "784ce94683acfd1ff300bbde848b9debaa2f85735eb31fa706dcff12affe8aeb"), looks := true }, kinds := [], alts := [], laidByText := true, laidKinds := [.data, .pinned], laidTests := true, laidLooks := .later }
def TopCarriedCardSaid : Prop := Claim7.holds Tryd.pinned (.plain (OpenSpec.ofChange topCarriedSpec)) topCarriedCard

/-- THE TIED CARD OF 'heliographlaw06.StanzaReads'. -/
def stanzaReadsCard : Claim7 := { stood := { row := stanzaReadsRow, standIns := [], harness := (true, "784ce94683acfd1ff300bbde848b9debaa2f85735eb31fa706dcff12affe8aeb"), looks := true }, kinds := [], alts := [], laidByText := true, laidKinds := [.data, .pinned], laidTests := true, laidLooks := .later }
def StanzaReadsCardSaid : Prop := Claim7.holds Tryd.pinned (.plain (OpenSpec.ofChange stanzaReadsSpec)) stanzaReadsCard

/-- THE TIED CARD OF 'heliographlaw13.RequestOne'. -/
def requestOneCard : Claim7 := { stood := { row := requestOneRow, standIns := [], harness := (true, "784ce94683acfd1ff300bbde848b9debaa2f85735eb31fa706dcff12affe8aeb"), looks := true }, kinds := [], alts := [], laidByText := true, laidKinds := [.data, .data, .data, .sentinel, .sentinel], laidTests := true, laidLooks := .later }
def RequestOneCardSaid : Prop := Claim7.holds Tryd.pinned (.plain (OpenSpec.ofChange requestOneSpec)) requestOneCard

/-- THE TIED CARD OF 'heliographlaw13.RequestExact'. -/
def requestExactCard : Claim7 := { stood := { row := requestExactRow, standIns := [], harness := (true, "784ce94683acfd1ff300bbde848b9debaa2f85735eb31fa706dcff12affe8aeb"), looks := true }, kinds := [], alts := [], laidByText := true, laidKinds := [.data, .data, .data, .sentinel, .sentinel], laidTests := true, laidLooks := .later }
def RequestExactCardSaid : Prop := Claim7.holds Tryd.pinned (.plain (OpenSpec.ofChange requestExactSpec)) requestExactCard

/-- THE TIED CARD OF 'heliographlaw13.RequestBack'. -/
def requestBackCard : Claim7 := { stood := { row := requestBackRow, standIns := [], harness := (true, "784ce94683acfd1ff300bbde848b9debaa2f85735eb31fa706dcff12affe8aeb"), looks := true }, kinds := [], alts := [], laidByText := true, laidKinds := [.data, .data, .data, .data, .sentinel, .sentinel, .pinned], laidTests := true, laidLooks := .later }
def RequestBackCardSaid : Prop := Claim7.holds Tryd.pinned (.plain (OpenSpec.ofChange requestBackSpec)) requestBackCard

/-- THE TIED CARD OF 'heliographlaw13.RequestEvents'. -/
def requestEventsCard : Claim7 := { stood := { row := requestEventsRow, standIns := [], harness := (true, "784ce94683acfd1ff300bbde848b9debaa2f85735eb31fa706dcff12affe8aeb"), looks := true }, kinds := [], alts := [], laidByText := true, laidKinds := [.data, .data, .data, .data, .sentinel, .sentinel, .pinned], laidTests := true, laidLooks := .later }
def RequestEventsCardSaid : Prop := Claim7.holds Tryd.pinned (.plain (OpenSpec.ofChange requestEventsSpec)) requestEventsCard

/-- THE TIED CARD OF 'heliographtop.TopSent'. -/
def topSentCard : Claim7 := { stood := { row := topSentRow, standIns := [], harness := (true, "784ce94683acfd1ff300bbde848b9debaa2f85735eb31fa706dcff12affe8aeb"), looks := true }, kinds := [], alts := [], laidByText := true, laidKinds := [.data, .pinned], laidTests := true, laidLooks := .later }
def TopSentCardSaid : Prop := Claim7.holds Tryd.pinned (.plain (OpenSpec.ofChange topSentSpec)) topSentCard

/-- THE SECOND FORM's CARD OF 'heliographlaw04.WritePrints'. -/
def writePrintsUptoCard : Claim7 := { stood := { row := writePrintsUptoRow, standIns := [], harness := (true, "784ce94683acfd1ff300bbde848b9debaa2f85735eb31fa706dcff12affe8aeb"), looks := true }, kinds := [], alts := [], laidByText := true, laidKinds := [.data, .pinned], laidTests := true, laidLooks := .later }
def WritePrintsUptoCardSaid : Prop := Claim7.holds Tryd.pinned (.plain (OpenSpec.upto writePrintsSpec)) writePrintsUptoCard

/-- THE SECOND FORM's CARD OF 'heliographtop.TopStream'. -/
def topStreamUptoCard : Claim7 := { stood := { row := topStreamUptoRow, standIns := [], harness := (true, "784ce94683acfd1ff300bbde848b9debaa2f85735eb31fa706dcff12affe8aeb"), looks := true }, kinds := [], alts := [], laidByText := true, laidKinds := [.data, .pinned], laidTests := true, laidLooks := .later }
def TopStreamUptoCardSaid : Prop := Claim7.holds Tryd.pinned (.plain (OpenSpec.upto topStreamSpec)) topStreamUptoCard

/-- THE SECOND FORM's CARD OF 'heliographlaw04.WriteBack'. -/
def writeBackUptoCard : Claim7 := { stood := { row := writeBackUptoRow, standIns := [], harness := (true, "784ce94683acfd1ff300bbde848b9debaa2f85735eb31fa706dcff12affe8aeb"), looks := true }, kinds := [], alts := [], laidByText := true, laidKinds := [.data, .pinned], laidTests := true, laidLooks := .later }
def WriteBackUptoCardSaid : Prop := Claim7.holds Tryd.pinned (.plain (OpenSpec.upto writeBackSpec)) writeBackUptoCard

/-- THE SECOND FORM's CARD OF 'heliographtop.TopCarried'. -/
def topCarriedUptoCard : Claim7 := { stood := { row := topCarriedUptoRow, standIns := [], harness := (true, "784ce94683acfd1ff300bbde848b9debaa2f85735eb31fa706dcff12affe8aeb"), looks := true }, kinds := [], alts := [], laidByText := true, laidKinds := [.data, .pinned], laidTests := true, laidLooks := .later }
def TopCarriedUptoCardSaid : Prop := Claim7.holds Tryd.pinned (.plain (OpenSpec.upto topCarriedSpec)) topCarriedUptoCard

/-- THE SECOND FORM's CARD OF 'heliographlaw06.StanzaReads'. -/
def stanzaReadsUptoCard : Claim7 := { stood := { row := stanzaReadsUptoRow, standIns := [], harness := (true, "784ce94683acfd1ff300bbde848b9debaa2f85735eb31fa706dcff12affe8aeb"), looks := true }, kinds := [], alts := [], laidByText := true, laidKinds := [.data, .pinned], laidTests := true, laidLooks := .later }
def StanzaReadsUptoCardSaid : Prop := Claim7.holds Tryd.pinned (.plain (OpenSpec.upto stanzaReadsSpec)) stanzaReadsUptoCard

/-- THE SECOND FORM's CARD OF 'heliographlaw13.RequestOne'. -/
def requestOneUptoCard : Claim7 := { stood := { row := requestOneUptoRow, standIns := [], harness := (true, "784ce94683acfd1ff300bbde848b9debaa2f85735eb31fa706dcff12affe8aeb"), looks := true }, kinds := [], alts := [], laidByText := true, laidKinds := [.data, .data, .data, .sentinel, .sentinel], laidTests := true, laidLooks := .later }
def RequestOneUptoCardSaid : Prop := Claim7.holds Tryd.pinned (.plain (OpenSpec.upto requestOneSpec)) requestOneUptoCard

/-- THE SECOND FORM's CARD OF 'heliographlaw13.RequestExact'. -/
def requestExactUptoCard : Claim7 := { stood := { row := requestExactUptoRow, standIns := [], harness := (true, "784ce94683acfd1ff300bbde848b9debaa2f85735eb31fa706dcff12affe8aeb"), looks := true }, kinds := [], alts := [], laidByText := true, laidKinds := [.data, .data, .data, .sentinel, .sentinel], laidTests := true, laidLooks := .later }
def RequestExactUptoCardSaid : Prop := Claim7.holds Tryd.pinned (.plain (OpenSpec.upto requestExactSpec)) requestExactUptoCard

/-- THE SECOND FORM's CARD OF 'heliographlaw13.RequestBack'. -/
def requestBackUptoCard : Claim7 := { stood := { row := requestBackUptoRow, standIns := [], harness := (true, "784ce94683acfd1ff300bbde848b9debaa2f85735eb31fa706dcff12affe8aeb"), looks := true }, kinds := [], alts := [], laidByText := true, laidKinds := [.data, .data, .data, .data, .sentinel, .sentinel, .pinned], laidTests := true, laidLooks := .later }
def RequestBackUptoCardSaid : Prop := Claim7.holds Tryd.pinned (.plain (OpenSpec.upto requestBackSpec)) requestBackUptoCard

/-- THE SECOND FORM's CARD OF 'heliographlaw13.RequestEvents'. -/
def requestEventsUptoCard : Claim7 := { stood := { row := requestEventsUptoRow, standIns := [], harness := (true, "784ce94683acfd1ff300bbde848b9debaa2f85735eb31fa706dcff12affe8aeb"), looks := true }, kinds := [], alts := [], laidByText := true, laidKinds := [.data, .data, .data, .data, .sentinel, .sentinel, .pinned], laidTests := true, laidLooks := .later }
def RequestEventsUptoCardSaid : Prop := Claim7.holds Tryd.pinned (.plain (OpenSpec.upto requestEventsSpec)) requestEventsUptoCard

/-- THE SECOND FORM's CARD OF 'heliographtop.TopSent'. -/
def topSentUptoCard : Claim7 := { stood := { row := topSentUptoRow, standIns := [], harness := (true, "784ce94683acfd1ff300bbde848b9debaa2f85735eb31fa706dcff12affe8aeb"), looks := true }, kinds := [], alts := [], laidByText := true, laidKinds := [.data, .pinned], laidTests := true, laidLooks := .later }
def TopSentUptoCardSaid : Prop := Claim7.holds Tryd.pinned (.plain (OpenSpec.upto topSentSpec)) topSentUptoCard
end Rows
end Go.Proofs.YtajdjclhkoenfaaDoor
