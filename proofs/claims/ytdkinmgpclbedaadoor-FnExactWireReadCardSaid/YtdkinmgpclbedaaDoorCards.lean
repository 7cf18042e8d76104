/-
  DERIVED. GIVEN WITH THE SEED: THE CARDS: each row of YtdkinmgpclbedaaDoorRows.lean that lists a variable, with what it lists TIED to the program's text (the seventh form; the later family's looks); each row that meets fmt, with fmt's text TOLD by the authors' own Lean function (tested against real Go, not proved from fmt's source: count such statements apart). THE CARD IS WHAT COUNTS. Prove the row's statement (the work); the ties are given (YtdkinmgpclbedaaDoorTie.lean); close each card by the builder's one call (the guide's Derived/Test/ToyasCard.lean, 'card_holds'). Laid BY PROGRAM, IN A SANDBOX (cutbox-door.mjs). By AI agents, Wed Nov 11 2026. No macro, syntax, notation, axiom, sorry.
-/
import Derived.Test.YtdkinmgpclbedaaDoorRows
import GoSem.ClaimSeven
namespace Go.Proofs.YtdkinmgpclbedaaDoor
namespace Rows

/-- THE TIED CARD OF 'laws.FnExactTidyMap'. -/
def fnExactTidyMapCard : Claim7 := { stood := { row := fnExactTidyMapRow, standIns := [], harness := (true, "ec37ec1dac5ed9857a7389bd53fb50e02ab1b23e79ca251eb7b697608fc8fd56"), looks := true }, kinds := [], alts := [], laidByText := true, laidKinds := [.data, .data, .data], laidTests := true, laidLooks := .later }
def FnExactTidyMapCardSaid : Prop := Claim7.holds Tryd.pinned (.plain (OpenSpec.ofChange fnExactTidyMapSpec)) fnExactTidyMapCard

/-- THE TIED CARD OF 'laws.FnTidyMap'. -/
def fnTidyMapCard : Claim7 := { stood := { row := fnTidyMapRow, standIns := [], harness := (true, "ec37ec1dac5ed9857a7389bd53fb50e02ab1b23e79ca251eb7b697608fc8fd56"), looks := true }, kinds := [], alts := [], laidByText := true, laidKinds := [.data, .data, .data], laidTests := true, laidLooks := .later }
def FnTidyMapCardSaid : Prop := Claim7.holds Tryd.pinned (.plain (OpenSpec.ofChange fnTidyMapSpec)) fnTidyMapCard

/-- THE TIED CARD OF 'laws.FnTidySum'. -/
def fnTidySumCard : Claim7 := { stood := { row := fnTidySumRow, standIns := [], harness := (true, "ec37ec1dac5ed9857a7389bd53fb50e02ab1b23e79ca251eb7b697608fc8fd56"), looks := true }, kinds := [], alts := [], laidByText := true, laidKinds := [.data, .data, .data], laidTests := true, laidLooks := .later }
def FnTidySumCardSaid : Prop := Claim7.holds Tryd.pinned (.plain (OpenSpec.ofChange fnTidySumSpec)) fnTidySumCard

/-- THE TIED CARD OF 'laws.FnExactWireWord'. -/
def fnExactWireWordCard : Claim7 := { stood := { row := fnExactWireWordRow, standIns := [], harness := (true, "ec37ec1dac5ed9857a7389bd53fb50e02ab1b23e79ca251eb7b697608fc8fd56"), looks := true }, kinds := [], alts := [], laidByText := true, laidKinds := [.data, .data, .data], laidTests := true, laidLooks := .later }
def FnExactWireWordCardSaid : Prop := Claim7.holds Tryd.pinned (.plain (OpenSpec.ofChange fnExactWireWordSpec)) fnExactWireWordCard

/-- THE TIED CARD OF 'laws.FnExactWireText'. -/
def fnExactWireTextCard : Claim7 := { stood := { row := fnExactWireTextRow, standIns := [], harness := (true, "ec37ec1dac5ed9857a7389bd53fb50e02ab1b23e79ca251eb7b697608fc8fd56"), looks := true }, kinds := [], alts := [], laidByText := true, laidKinds := [.data, .data, .data], laidTests := true, laidLooks := .later }
def FnExactWireTextCardSaid : Prop := Claim7.holds Tryd.pinned (.plain (OpenSpec.ofChange fnExactWireTextSpec)) fnExactWireTextCard

/-- THE TIED CARD OF 'laws.FnExactWireRead'. -/
def fnExactWireReadCard : Claim7 := { stood := { row := fnExactWireReadRow, standIns := [], harness := (true, "ec37ec1dac5ed9857a7389bd53fb50e02ab1b23e79ca251eb7b697608fc8fd56"), looks := true }, kinds := [], alts := [], laidByText := true, laidKinds := [.data, .data, .data, .data, .sentinel, .sentinel, .pinned], laidTests := true, laidLooks := .later }
def FnExactWireReadCardSaid : Prop := Claim7.holds Tryd.pinned (.plain (OpenSpec.ofChange fnExactWireReadSpec)) fnExactWireReadCard

/-- THE SECOND FORM's CARD OF 'laws.FnExactTidyMap'. -/
def fnExactTidyMapUptoCard : Claim7 := { stood := { row := fnExactTidyMapUptoRow, standIns := [], harness := (true, "ec37ec1dac5ed9857a7389bd53fb50e02ab1b23e79ca251eb7b697608fc8fd56"), looks := true }, kinds := [], alts := [], laidByText := true, laidKinds := [.data, .data, .data], laidTests := true, laidLooks := .later }
def FnExactTidyMapUptoCardSaid : Prop := Claim7.holds Tryd.pinned (.plain (OpenSpec.upto fnExactTidyMapSpec)) fnExactTidyMapUptoCard

/-- THE SECOND FORM's CARD OF 'laws.FnTidyMap'. -/
def fnTidyMapUptoCard : Claim7 := { stood := { row := fnTidyMapUptoRow, standIns := [], harness := (true, "ec37ec1dac5ed9857a7389bd53fb50e02ab1b23e79ca251eb7b697608fc8fd56"), looks := true }, kinds := [], alts := [], laidByText := true, laidKinds := [.data, .data, .data], laidTests := true, laidLooks := .later }
def FnTidyMapUptoCardSaid : Prop := Claim7.holds Tryd.pinned (.plain (OpenSpec.upto fnTidyMapSpec)) fnTidyMapUptoCard

/-- THE SECOND FORM's CARD OF 'laws.FnTidySum'. -/
def fnTidySumUptoCard : Claim7 := { stood := { row := fnTidySumUptoRow, standIns := [], harness := (true, "ec37ec1dac5ed9857a7389bd53fb50e02ab1b23e79ca251eb7b697608fc8fd56"), looks := true }, kinds := [], alts := [], laidByText := true, laidKinds := [.data, .data, .data], laidTests := true, laidLooks := .later }
def FnTidySumUptoCardSaid : Prop := Claim7.holds Tryd.pinned (.plain (OpenSpec.upto fnTidySumSpec)) fnTidySumUptoCard

/-- THE SECOND FORM's CARD OF 'laws.FnExactWireWord'. -/
def fnExactWireWordUptoCard : Claim7 := { stood := { row := fnExactWireWordUptoRow, standIns := [], harness := (true, "ec37ec1dac5ed9857a7389bd53fb50e02ab1b23e79ca251eb7b697608fc8fd56"), looks := true }, kinds := [], alts := [], laidByText := true, laidKinds := [.data, .data, .data], laidTests := true, laidLooks := .later }
def FnExactWireWordUptoCardSaid : Prop := Claim7.holds Tryd.pinned (.plain (OpenSpec.upto fnExactWireWordSpec)) fnExactWireWordUptoCard

/-- THE SECOND FORM's CARD OF 'laws.FnExactWireText'. -/
def fnExactWireTextUptoCard : Claim7 := { stood := { row := fnExactWireTextUptoRow, standIns := [], harness := (true, "ec37ec1dac5ed9857a7389bd53fb50e02ab1b23e79ca251eb7b697608fc8fd56"), looks := true }, kinds := [], alts := [], laidByText := true, laidKinds := [.data, .data, .data], laidTests := true, laidLooks := .later }
def FnExactWireTextUptoCardSaid : Prop := Claim7.holds Tryd.pinned (.plain (OpenSpec.upto fnExactWireTextSpec)) fnExactWireTextUptoCard

/-- THE SECOND FORM's CARD OF 'laws.FnExactWireRead'. -/
def fnExactWireReadUptoCard : Claim7 := { stood := { row := fnExactWireReadUptoRow, standIns := [], harness := (true, "ec37ec1dac5ed9857a7389bd53fb50e02ab1b23e79ca251eb7b697608fc8fd56"), looks := true }, kinds := [], alts := [], laidByText := true, laidKinds := [.data, .data, .data, .data, .sentinel, .sentinel, .pinned], laidTests := true, laidLooks := .later }
def FnExactWireReadUptoCardSaid : Prop := Claim7.holds Tryd.pinned (.plain (OpenSpec.upto fnExactWireReadSpec)) fnExactWireReadUptoCard
end Rows
end Go.Proofs.YtdkinmgpclbedaaDoor
