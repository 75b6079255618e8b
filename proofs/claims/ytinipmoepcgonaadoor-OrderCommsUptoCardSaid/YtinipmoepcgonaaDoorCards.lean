/-
  DERIVED. GIVEN WITH THE SEED: THE CARDS: each row of YtinipmoepcgonaaDoorRows.lean that lists a variable, with what it lists TIED to the program's text (the seventh form; the later family's looks); each row that meets fmt, with fmt's text TOLD by the authors' own Lean function (tested against real Go, not proved from fmt's source: count such statements apart). THE CARD IS WHAT COUNTS. Prove the row's statement (the work); the ties are given (YtinipmoepcgonaaDoorTie.lean); close each card by the builder's one call (the guide's Derived/Test/ToyasCard.lean, 'card_holds'). Laid BY PROGRAM, IN A SANDBOX (cutbox-door.mjs). By AI agents, Wed Nov 11 2026. No macro, syntax, notation, axiom, sorry.
-/
import Derived.Test.YtinipmoepcgonaaDoorRows
import GoSem.ClaimSeven
namespace Go.Proofs.YtinipmoepcgonaaDoor
namespace Rows

/-- THE TIED CARD OF 'tinsellaw16.OrderComms'. -/
def orderCommsCard : Claim7 := { stood := { row := orderCommsRow, standIns := [], harness := (true, "fbfa7b3ee23b59702e776631692b5325b424cc4d9d588052381402e0b965e3ee"), looks := false }, kinds := [], alts := [], laidByText := true, laidKinds := [.data, .pinned], laidTests := true, laidLooks := .later }
def OrderCommsCardSaid : Prop := Claim7.holds Tryd.pinned (.plain (OpenSpec.ofChange orderCommsSpec)) orderCommsCard

/-- THE TIED CARD OF 'tinsellaw16.OrderHalves'. -/
def orderHalvesCard : Claim7 := { stood := { row := orderHalvesRow, standIns := [], harness := (true, "fbfa7b3ee23b59702e776631692b5325b424cc4d9d588052381402e0b965e3ee"), looks := false }, kinds := [], alts := [], laidByText := true, laidKinds := [.data, .pinned], laidTests := true, laidLooks := .later }
def OrderHalvesCardSaid : Prop := Claim7.holds Tryd.pinned (.plain (OpenSpec.ofChange orderHalvesSpec)) orderHalvesCard

/-- THE TIED CARD OF 'tinsellaw16.OrderJoins'. -/
def orderJoinsCard : Claim7 := { stood := { row := orderJoinsRow, standIns := [], harness := (true, "fbfa7b3ee23b59702e776631692b5325b424cc4d9d588052381402e0b965e3ee"), looks := false }, kinds := [], alts := [], laidByText := true, laidKinds := [.data, .pinned], laidTests := true, laidLooks := .later }
def OrderJoinsCardSaid : Prop := Claim7.holds Tryd.pinned (.plain (OpenSpec.ofChange orderJoinsSpec)) orderJoinsCard

/-- THE SECOND FORM's CARD OF 'tinsellaw16.OrderComms'. -/
def orderCommsUptoCard : Claim7 := { stood := { row := orderCommsUptoRow, standIns := [], harness := (true, "fbfa7b3ee23b59702e776631692b5325b424cc4d9d588052381402e0b965e3ee"), looks := false }, kinds := [], alts := [], laidByText := true, laidKinds := [.data, .pinned], laidTests := true, laidLooks := .later }
def OrderCommsUptoCardSaid : Prop := Claim7.holds Tryd.pinned (.plain (OpenSpec.upto orderCommsSpec)) orderCommsUptoCard

/-- THE SECOND FORM's CARD OF 'tinsellaw16.OrderHalves'. -/
def orderHalvesUptoCard : Claim7 := { stood := { row := orderHalvesUptoRow, standIns := [], harness := (true, "fbfa7b3ee23b59702e776631692b5325b424cc4d9d588052381402e0b965e3ee"), looks := false }, kinds := [], alts := [], laidByText := true, laidKinds := [.data, .pinned], laidTests := true, laidLooks := .later }
def OrderHalvesUptoCardSaid : Prop := Claim7.holds Tryd.pinned (.plain (OpenSpec.upto orderHalvesSpec)) orderHalvesUptoCard

/-- THE SECOND FORM's CARD OF 'tinsellaw16.OrderJoins'. -/
def orderJoinsUptoCard : Claim7 := { stood := { row := orderJoinsUptoRow, standIns := [], harness := (true, "fbfa7b3ee23b59702e776631692b5325b424cc4d9d588052381402e0b965e3ee"), looks := false }, kinds := [], alts := [], laidByText := true, laidKinds := [.data, .pinned], laidTests := true, laidLooks := .later }
def OrderJoinsUptoCardSaid : Prop := Claim7.holds Tryd.pinned (.plain (OpenSpec.upto orderJoinsSpec)) orderJoinsUptoCard
end Rows
end Go.Proofs.YtinipmoepcgonaaDoor
