/-
  DERIVED. GIVEN WITH THE SEED: THE CARDS: each row of YtmeoclkngjboiaaDoorRows.lean that lists a variable, with what it lists TIED to the program's text (the seventh form; the later family's looks); each row that meets fmt, with fmt's text TOLD by the authors' own Lean function (tested against real Go, not proved from fmt's source: count such statements apart). THE CARD IS WHAT COUNTS. Prove the row's statement (the work); the ties are given (YtmeoclkngjboiaaDoorTie.lean); close each card by the builder's one call (the guide's Derived/Test/ToyasCard.lean, 'card_holds'). Laid BY PROGRAM, IN A SANDBOX (cutbox-door.mjs). By AI agents, Wed Nov 11 2026. No macro, syntax, notation, axiom, sorry.
-/
import Derived.Test.YtmeoclkngjboiaaDoorRows
import GoSem.ClaimSeven
namespace Go.Proofs.YtmeoclkngjboiaaDoor
namespace Rows

/-- THE TIED CARD OF 'laws.FnExactParseProgram'. -/
def fnExactParseProgramCard : Claim7 := { stood := { row := fnExactParseProgramRow, standIns := [], harness := (true, "b3c79b555e40f8c38fcabaf181c69505ac1baa10c30cdb9882d47fc87dc10240"), looks := false }, kinds := [], alts := [], laidByText := true, laidKinds := [.data, .pinned], laidTests := true, laidLooks := .later }
def FnExactParseProgramCardSaid : Prop := Claim7.holds Tryd.pinned (.plain (OpenSpec.ofChange fnExactParseProgramSpec)) fnExactParseProgramCard

/-- THE TIED CARD OF 'laws.FnProgramText'. -/
def fnProgramTextCard : Claim7 := { stood := { row := fnProgramTextRow, standIns := [], harness := (true, "b3c79b555e40f8c38fcabaf181c69505ac1baa10c30cdb9882d47fc87dc10240"), looks := false }, kinds := [], alts := [], laidByText := true, laidKinds := [.data, .pinned], laidTests := true, laidLooks := .later }
def FnProgramTextCardSaid : Prop := Claim7.holds Tryd.pinned (.plain (OpenSpec.ofChange fnProgramTextSpec)) fnProgramTextCard

/-- THE TIED CARD OF 'laws.FnExactFormatRel'. -/
def fnExactFormatRelCard : Claim7 := { stood := { row := fnExactFormatRelRow, standIns := [], harness := (true, "b3c79b555e40f8c38fcabaf181c69505ac1baa10c30cdb9882d47fc87dc10240"), looks := false }, kinds := [], alts := [], laidByText := true, laidKinds := [.data, .data, .data], laidTests := true, laidLooks := .later }
def FnExactFormatRelCardSaid : Prop := Claim7.holds Tryd.pinned (.plain (OpenSpec.ofChange fnExactFormatRelSpec)) fnExactFormatRelCard

/-- THE TIED CARD OF 'laws.FnFormatRel'. -/
def fnFormatRelCard : Claim7 := { stood := { row := fnFormatRelRow, standIns := [], harness := (true, "b3c79b555e40f8c38fcabaf181c69505ac1baa10c30cdb9882d47fc87dc10240"), looks := false }, kinds := [], alts := [], laidByText := true, laidKinds := [.data, .data, .data], laidTests := true, laidLooks := .later }
def FnFormatRelCardSaid : Prop := Claim7.holds Tryd.pinned (.plain (OpenSpec.ofChange fnFormatRelSpec)) fnFormatRelCard

/-- THE SECOND FORM's CARD OF 'laws.FnExactParseProgram'. -/
def fnExactParseProgramUptoCard : Claim7 := { stood := { row := fnExactParseProgramUptoRow, standIns := [], harness := (true, "b3c79b555e40f8c38fcabaf181c69505ac1baa10c30cdb9882d47fc87dc10240"), looks := false }, kinds := [], alts := [], laidByText := true, laidKinds := [.data, .pinned], laidTests := true, laidLooks := .later }
def FnExactParseProgramUptoCardSaid : Prop := Claim7.holds Tryd.pinned (.plain (OpenSpec.upto fnExactParseProgramSpec)) fnExactParseProgramUptoCard

/-- THE SECOND FORM's CARD OF 'laws.FnProgramText'. -/
def fnProgramTextUptoCard : Claim7 := { stood := { row := fnProgramTextUptoRow, standIns := [], harness := (true, "b3c79b555e40f8c38fcabaf181c69505ac1baa10c30cdb9882d47fc87dc10240"), looks := false }, kinds := [], alts := [], laidByText := true, laidKinds := [.data, .pinned], laidTests := true, laidLooks := .later }
def FnProgramTextUptoCardSaid : Prop := Claim7.holds Tryd.pinned (.plain (OpenSpec.upto fnProgramTextSpec)) fnProgramTextUptoCard

/-- THE SECOND FORM's CARD OF 'laws.FnExactFormatRel'. -/
def fnExactFormatRelUptoCard : Claim7 := { stood := { row := fnExactFormatRelUptoRow, standIns := [], harness := (true, "b3c79b555e40f8c38fcabaf181c69505ac1baa10c30cdb9882d47fc87dc10240"), looks := false }, kinds := [], alts := [], laidByText := true, laidKinds := [.data, .data, .data], laidTests := true, laidLooks := .later }
def FnExactFormatRelUptoCardSaid : Prop := Claim7.holds Tryd.pinned (.plain (OpenSpec.upto fnExactFormatRelSpec)) fnExactFormatRelUptoCard

/-- THE SECOND FORM's CARD OF 'laws.FnFormatRel'. -/
def fnFormatRelUptoCard : Claim7 := { stood := { row := fnFormatRelUptoRow, standIns := [], harness := (true, "b3c79b555e40f8c38fcabaf181c69505ac1baa10c30cdb9882d47fc87dc10240"), looks := false }, kinds := [], alts := [], laidByText := true, laidKinds := [.data, .data, .data], laidTests := true, laidLooks := .later }
def FnFormatRelUptoCardSaid : Prop := Claim7.holds Tryd.pinned (.plain (OpenSpec.upto fnFormatRelSpec)) fnFormatRelUptoCard
end Rows
end Go.Proofs.YtmeoclkngjboiaaDoor
