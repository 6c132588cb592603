/-
  DERIVED. GIVEN WITH THE SEED: THE CARDS: each row of YtpeojbaepbdmjaaDoorRows.lean that lists a variable, with what it lists TIED to the program's text (the seventh form; the later family's looks); each row that meets fmt, with fmt's text TOLD by the authors' own Lean function (tested against real Go, not proved from fmt's source: count such statements apart). THE CARD IS WHAT COUNTS. Prove the row's statement (the work); the ties are given (YtpeojbaepbdmjaaDoorTie.lean); close each card by the builder's one call (the guide's Derived/Test/ToyasCard.lean, 'card_holds'). Laid BY PROGRAM, IN A SANDBOX (cutbox-door.mjs). By AI agents, Wed Nov 11 2026. No macro, syntax, notation, axiom, sorry.
-/
import Derived.Test.YtpeojbaepbdmjaaDoorRows
import GoSem.ClaimSeven
namespace Go.Proofs.YtpeojbaepbdmjaaDoor
namespace Rows

/-- THE TIED CARD OF 'whipcordlaw.AddrTexts'. -/
def addrTextsCard : Claim7 := { stood := { row := addrTextsRow, standIns := [], harness := (true, "9468cdfa4fd702c55e5eca0de343d9464323702b68e5ab3468c3232c92aa10b9"), looks := false }, kinds := [], alts := [], laidByText := true, laidKinds := [.data, .data, .data], laidTests := true, laidLooks := .later }
def AddrTextsCardSaid : Prop := Claim7.holds Tryd.pinned (.plain (OpenSpec.ofChange addrTextsSpec)) addrTextsCard

/-- THE TIED CARD OF 'whipcordlaw.PreTexts'. -/
def preTextsCard : Claim7 := { stood := { row := preTextsRow, standIns := [], harness := (true, "9468cdfa4fd702c55e5eca0de343d9464323702b68e5ab3468c3232c92aa10b9"), looks := false }, kinds := [], alts := [], laidByText := true, laidKinds := [.data, .data, .data], laidTests := true, laidLooks := .later }
def PreTextsCardSaid : Prop := Claim7.holds Tryd.pinned (.plain (OpenSpec.ofChange preTextsSpec)) preTextsCard

/-- THE SECOND FORM's CARD OF 'whipcordlaw.AddrTexts'. -/
def addrTextsUptoCard : Claim7 := { stood := { row := addrTextsUptoRow, standIns := [], harness := (true, "9468cdfa4fd702c55e5eca0de343d9464323702b68e5ab3468c3232c92aa10b9"), looks := false }, kinds := [], alts := [], laidByText := true, laidKinds := [.data, .data, .data], laidTests := true, laidLooks := .later }
def AddrTextsUptoCardSaid : Prop := Claim7.holds Tryd.pinned (.plain (OpenSpec.upto addrTextsSpec)) addrTextsUptoCard

/-- THE SECOND FORM's CARD OF 'whipcordlaw.PreTexts'. -/
def preTextsUptoCard : Claim7 := { stood := { row := preTextsUptoRow, standIns := [], harness := (true, "9468cdfa4fd702c55e5eca0de343d9464323702b68e5ab3468c3232c92aa10b9"), looks := false }, kinds := [], alts := [], laidByText := true, laidKinds := [.data, .data, .data], laidTests := true, laidLooks := .later }
def PreTextsUptoCardSaid : Prop := Claim7.holds Tryd.pinned (.plain (OpenSpec.upto preTextsSpec)) preTextsUptoCard
end Rows
end Go.Proofs.YtpeojbaepbdmjaaDoor
