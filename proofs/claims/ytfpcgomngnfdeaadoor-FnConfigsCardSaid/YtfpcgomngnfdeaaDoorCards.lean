/-
  DERIVED. GIVEN WITH THE SEED: THE CARDS: each row of YtfpcgomngnfdeaaDoorRows.lean that lists a variable, with what it lists TIED to the program's text (the seventh form; the later family's looks); each row that meets fmt, with fmt's text TOLD by the authors' own Lean function (tested against real Go, not proved from fmt's source: count such statements apart). THE CARD IS WHAT COUNTS. Prove the row's statement (the work); the ties are given (YtfpcgomngnfdeaaDoorTie.lean); close each card by the builder's one call (the guide's Derived/Test/ToyasCard.lean, 'card_holds'). Laid BY PROGRAM, IN A SANDBOX (cutbox-door.mjs). By AI agents, Wed Nov 11 2026. No macro, syntax, notation, axiom, sorry.
-/
import Derived.Test.YtfpcgomngnfdeaaDoorRows
import GoSem.ClaimSeven
namespace Go.Proofs.YtfpcgomngnfdeaaDoor
namespace Rows

/-- THE TIED CARD OF 'laws.FnExactParseConfig'. -/
def fnExactParseConfigCard : Claim7 := { stood := { row := fnExactParseConfigRow, standIns := [], harness := (true, "1f241e2adc527af2bcf7cff4bba606fd314b1886076ce2f32c918a42733ff3c7"), looks := true }, kinds := [], alts := [], laidByText := true, laidKinds := [.data, .data, .data, .data, .sentinel, .sentinel, .pinned], laidTests := true, laidLooks := .later }
def FnExactParseConfigCardSaid : Prop := Claim7.holds Tryd.pinned (.plain (OpenSpec.ofChange fnExactParseConfigSpec)) fnExactParseConfigCard

/-- THE TIED CARD OF 'laws.FnExactConfigText'. -/
def fnExactConfigTextCard : Claim7 := { stood := { row := fnExactConfigTextRow, standIns := [], harness := (true, "1f241e2adc527af2bcf7cff4bba606fd314b1886076ce2f32c918a42733ff3c7"), looks := true }, kinds := [], alts := [], laidByText := true, laidKinds := [.data, .data, .data], laidTests := true, laidLooks := .later }
def FnExactConfigTextCardSaid : Prop := Claim7.holds Tryd.pinned (.plain (OpenSpec.ofChange fnExactConfigTextSpec)) fnExactConfigTextCard

/-- THE TIED CARD OF 'laws.FnConfigs'. -/
def fnConfigsCard : Claim7 := { stood := { row := fnConfigsRow, standIns := [], harness := (true, "1f241e2adc527af2bcf7cff4bba606fd314b1886076ce2f32c918a42733ff3c7"), looks := true }, kinds := [], alts := [], laidByText := true, laidKinds := [.data, .data, .data, .data, .sentinel, .sentinel, .pinned], laidTests := true, laidLooks := .later }
def FnConfigsCardSaid : Prop := Claim7.holds Tryd.pinned (.plain (OpenSpec.ofChange fnConfigsSpec)) fnConfigsCard

/-- THE SECOND FORM's CARD OF 'laws.FnExactParseConfig'. -/
def fnExactParseConfigUptoCard : Claim7 := { stood := { row := fnExactParseConfigUptoRow, standIns := [], harness := (true, "1f241e2adc527af2bcf7cff4bba606fd314b1886076ce2f32c918a42733ff3c7"), looks := true }, kinds := [], alts := [], laidByText := true, laidKinds := [.data, .data, .data, .data, .sentinel, .sentinel, .pinned], laidTests := true, laidLooks := .later }
def FnExactParseConfigUptoCardSaid : Prop := Claim7.holds Tryd.pinned (.plain (OpenSpec.upto fnExactParseConfigSpec)) fnExactParseConfigUptoCard

/-- THE SECOND FORM's CARD OF 'laws.FnExactConfigText'. -/
def fnExactConfigTextUptoCard : Claim7 := { stood := { row := fnExactConfigTextUptoRow, standIns := [], harness := (true, "1f241e2adc527af2bcf7cff4bba606fd314b1886076ce2f32c918a42733ff3c7"), looks := true }, kinds := [], alts := [], laidByText := true, laidKinds := [.data, .data, .data], laidTests := true, laidLooks := .later }
def FnExactConfigTextUptoCardSaid : Prop := Claim7.holds Tryd.pinned (.plain (OpenSpec.upto fnExactConfigTextSpec)) fnExactConfigTextUptoCard

/-- THE SECOND FORM's CARD OF 'laws.FnConfigs'. -/
def fnConfigsUptoCard : Claim7 := { stood := { row := fnConfigsUptoRow, standIns := [], harness := (true, "1f241e2adc527af2bcf7cff4bba606fd314b1886076ce2f32c918a42733ff3c7"), looks := true }, kinds := [], alts := [], laidByText := true, laidKinds := [.data, .data, .data, .data, .sentinel, .sentinel, .pinned], laidTests := true, laidLooks := .later }
def FnConfigsUptoCardSaid : Prop := Claim7.holds Tryd.pinned (.plain (OpenSpec.upto fnConfigsSpec)) fnConfigsUptoCard
end Rows
end Go.Proofs.YtfpcgomngnfdeaaDoor
