/-
  DERIVED. GIVEN WITH THE SEED: THE CARDS: each row of YtmfoddeecplibaaDoorRows.lean that lists a variable, with what it lists TIED to the program's text (the seventh form; the later family's looks); each row that meets fmt, with fmt's text TOLD by the authors' own Lean function (tested against real Go, not proved from fmt's source: count such statements apart). THE CARD IS WHAT COUNTS. Prove the row's statement (the work); the ties are given (YtmfoddeecplibaaDoorTie.lean); close each card by the builder's one call (the guide's Derived/Test/ToyasCard.lean, 'card_holds'). Laid BY PROGRAM, IN A SANDBOX (cutbox-door.mjs). By AI agents, Wed Nov 11 2026. No macro, syntax, notation, axiom, sorry.
-/
import Derived.Test.YtmfoddeecplibaaDoorRows
import GoSem.ClaimSeven
namespace Go.Proofs.YtmfoddeecplibaaDoor
namespace Rows

/-- THE TIED CARD OF 'laws.FnExactValText'. -/
def fnExactValTextCard : Claim7 := { stood := { row := fnExactValTextRow, standIns := [], harness := (true, "b68b556c542a58586b148fee0b1dd6d0bdf69ffcaf7437fea257d1c9e441a51f"), looks := false }, kinds := [], alts := [], laidByText := true, laidKinds := [.data, .data, .data], laidTests := true, laidLooks := .later }
def FnExactValTextCardSaid : Prop := Claim7.holds Tryd.pinned (.plain (OpenSpec.ofChange fnExactValTextSpec)) fnExactValTextCard

/-- THE TIED CARD OF 'laws.FnExactBindText'. -/
def fnExactBindTextCard : Claim7 := { stood := { row := fnExactBindTextRow, standIns := [], harness := (true, "b68b556c542a58586b148fee0b1dd6d0bdf69ffcaf7437fea257d1c9e441a51f"), looks := false }, kinds := [], alts := [], laidByText := true, laidKinds := [.data, .data, .data], laidTests := true, laidLooks := .later }
def FnExactBindTextCardSaid : Prop := Claim7.holds Tryd.pinned (.plain (OpenSpec.ofChange fnExactBindTextSpec)) fnExactBindTextCard

/-- THE TIED CARD OF 'laws.FnExactPduText'. -/
def fnExactPduTextCard : Claim7 := { stood := { row := fnExactPduTextRow, standIns := [], harness := (true, "b68b556c542a58586b148fee0b1dd6d0bdf69ffcaf7437fea257d1c9e441a51f"), looks := false }, kinds := [], alts := [], laidByText := true, laidKinds := [.data, .data, .data], laidTests := true, laidLooks := .later }
def FnExactPduTextCardSaid : Prop := Claim7.holds Tryd.pinned (.plain (OpenSpec.ofChange fnExactPduTextSpec)) fnExactPduTextCard

/-- THE SECOND FORM's CARD OF 'laws.FnExactValText'. -/
def fnExactValTextUptoCard : Claim7 := { stood := { row := fnExactValTextUptoRow, standIns := [], harness := (true, "b68b556c542a58586b148fee0b1dd6d0bdf69ffcaf7437fea257d1c9e441a51f"), looks := false }, kinds := [], alts := [], laidByText := true, laidKinds := [.data, .data, .data], laidTests := true, laidLooks := .later }
def FnExactValTextUptoCardSaid : Prop := Claim7.holds Tryd.pinned (.plain (OpenSpec.upto fnExactValTextSpec)) fnExactValTextUptoCard

/-- THE SECOND FORM's CARD OF 'laws.FnExactBindText'. -/
def fnExactBindTextUptoCard : Claim7 := { stood := { row := fnExactBindTextUptoRow, standIns := [], harness := (true, "b68b556c542a58586b148fee0b1dd6d0bdf69ffcaf7437fea257d1c9e441a51f"), looks := false }, kinds := [], alts := [], laidByText := true, laidKinds := [.data, .data, .data], laidTests := true, laidLooks := .later }
def FnExactBindTextUptoCardSaid : Prop := Claim7.holds Tryd.pinned (.plain (OpenSpec.upto fnExactBindTextSpec)) fnExactBindTextUptoCard

/-- THE SECOND FORM's CARD OF 'laws.FnExactPduText'. -/
def fnExactPduTextUptoCard : Claim7 := { stood := { row := fnExactPduTextUptoRow, standIns := [], harness := (true, "b68b556c542a58586b148fee0b1dd6d0bdf69ffcaf7437fea257d1c9e441a51f"), looks := false }, kinds := [], alts := [], laidByText := true, laidKinds := [.data, .data, .data], laidTests := true, laidLooks := .later }
def FnExactPduTextUptoCardSaid : Prop := Claim7.holds Tryd.pinned (.plain (OpenSpec.upto fnExactPduTextSpec)) fnExactPduTextUptoCard
end Rows
end Go.Proofs.YtmfoddeecplibaaDoor
