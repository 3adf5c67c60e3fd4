/-
  DERIVED. GIVEN WITH THE SEED: THE CARDS: each row of YtgjdionnbbnmpaaDoorRows.lean that lists a variable, with what it lists TIED to the program's text (the seventh form; the later family's looks); each row that meets fmt, with fmt's text TOLD by the authors' own Lean function (tested against real Go, not proved from fmt's source: count such statements apart). THE CARD IS WHAT COUNTS. Prove the row's statement (the work); the ties are given (YtgjdionnbbnmpaaDoorTie.lean); close each card by the builder's one call (the guide's Derived/Test/ToyasCard.lean, 'card_holds'). Laid BY PROGRAM, IN A SANDBOX (cutbox-door.mjs). By AI agents, Wed Nov 11 2026. No macro, syntax, notation, axiom, sorry.
-/
import Derived.Test.YtgjdionnbbnmpaaDoorRows
import GoSem.ClaimSeven
namespace Go.Proofs.YtgjdionnbbnmpaaDoor
namespace Rows

/-- THE TIED CARD OF 'laws.FnExactFormatKeys'. -/
def fnExactFormatKeysCard : Claim7 := { stood := { row := fnExactFormatKeysRow, standIns := [], harness := (true, "4d88aa019396370bf47fde3a24003e4ba5739af7deff6516b22d3ad9185ebe0b"), looks := false }, kinds := [], alts := [], laidByText := true, laidKinds := [.data, .data, .data], laidTests := true, laidLooks := .later }
def FnExactFormatKeysCardSaid : Prop := Claim7.holds Tryd.pinned (.plain (OpenSpec.ofChange fnExactFormatKeysSpec)) fnExactFormatKeysCard

/-- THE TIED CARD OF 'laws.FnExactFormatEntry'. -/
def fnExactFormatEntryCard : Claim7 := { stood := { row := fnExactFormatEntryRow, standIns := [], harness := (true, "4d88aa019396370bf47fde3a24003e4ba5739af7deff6516b22d3ad9185ebe0b"), looks := false }, kinds := [], alts := [], laidByText := true, laidKinds := [.data, .data, .data], laidTests := true, laidLooks := .later }
def FnExactFormatEntryCardSaid : Prop := Claim7.holds Tryd.pinned (.plain (OpenSpec.ofChange fnExactFormatEntrySpec)) fnExactFormatEntryCard

/-- THE TIED CARD OF 'laws.FnExactFormatHead'. -/
def fnExactFormatHeadCard : Claim7 := { stood := { row := fnExactFormatHeadRow, standIns := [], harness := (true, "4d88aa019396370bf47fde3a24003e4ba5739af7deff6516b22d3ad9185ebe0b"), looks := false }, kinds := [], alts := [], laidByText := true, laidKinds := [.data, .data, .data], laidTests := true, laidLooks := .later }
def FnExactFormatHeadCardSaid : Prop := Claim7.holds Tryd.pinned (.plain (OpenSpec.ofChange fnExactFormatHeadSpec)) fnExactFormatHeadCard

/-- THE TIED CARD OF 'laws.FnExactFormatDecision'. -/
def fnExactFormatDecisionCard : Claim7 := { stood := { row := fnExactFormatDecisionRow, standIns := [], harness := (true, "4d88aa019396370bf47fde3a24003e4ba5739af7deff6516b22d3ad9185ebe0b"), looks := false }, kinds := [], alts := [], laidByText := true, laidKinds := [.data, .data, .data], laidTests := true, laidLooks := .later }
def FnExactFormatDecisionCardSaid : Prop := Claim7.holds Tryd.pinned (.plain (OpenSpec.ofChange fnExactFormatDecisionSpec)) fnExactFormatDecisionCard

/-- THE TIED CARD OF 'laws.FnExactFormatTrace'. -/
def fnExactFormatTraceCard : Claim7 := { stood := { row := fnExactFormatTraceRow, standIns := [], harness := (true, "4d88aa019396370bf47fde3a24003e4ba5739af7deff6516b22d3ad9185ebe0b"), looks := false }, kinds := [], alts := [], laidByText := true, laidKinds := [.data, .data, .data], laidTests := true, laidLooks := .later }
def FnExactFormatTraceCardSaid : Prop := Claim7.holds Tryd.pinned (.plain (OpenSpec.ofChange fnExactFormatTraceSpec)) fnExactFormatTraceCard

/-- THE SECOND FORM's CARD OF 'laws.FnExactFormatKeys'. -/
def fnExactFormatKeysUptoCard : Claim7 := { stood := { row := fnExactFormatKeysUptoRow, standIns := [], harness := (true, "4d88aa019396370bf47fde3a24003e4ba5739af7deff6516b22d3ad9185ebe0b"), looks := false }, kinds := [], alts := [], laidByText := true, laidKinds := [.data, .data, .data], laidTests := true, laidLooks := .later }
def FnExactFormatKeysUptoCardSaid : Prop := Claim7.holds Tryd.pinned (.plain (OpenSpec.upto fnExactFormatKeysSpec)) fnExactFormatKeysUptoCard

/-- THE SECOND FORM's CARD OF 'laws.FnExactFormatEntry'. -/
def fnExactFormatEntryUptoCard : Claim7 := { stood := { row := fnExactFormatEntryUptoRow, standIns := [], harness := (true, "4d88aa019396370bf47fde3a24003e4ba5739af7deff6516b22d3ad9185ebe0b"), looks := false }, kinds := [], alts := [], laidByText := true, laidKinds := [.data, .data, .data], laidTests := true, laidLooks := .later }
def FnExactFormatEntryUptoCardSaid : Prop := Claim7.holds Tryd.pinned (.plain (OpenSpec.upto fnExactFormatEntrySpec)) fnExactFormatEntryUptoCard

/-- THE SECOND FORM's CARD OF 'laws.FnExactFormatHead'. -/
def fnExactFormatHeadUptoCard : Claim7 := { stood := { row := fnExactFormatHeadUptoRow, standIns := [], harness := (true, "4d88aa019396370bf47fde3a24003e4ba5739af7deff6516b22d3ad9185ebe0b"), looks := false }, kinds := [], alts := [], laidByText := true, laidKinds := [.data, .data, .data], laidTests := true, laidLooks := .later }
def FnExactFormatHeadUptoCardSaid : Prop := Claim7.holds Tryd.pinned (.plain (OpenSpec.upto fnExactFormatHeadSpec)) fnExactFormatHeadUptoCard

/-- THE SECOND FORM's CARD OF 'laws.FnExactFormatDecision'. -/
def fnExactFormatDecisionUptoCard : Claim7 := { stood := { row := fnExactFormatDecisionUptoRow, standIns := [], harness := (true, "4d88aa019396370bf47fde3a24003e4ba5739af7deff6516b22d3ad9185ebe0b"), looks := false }, kinds := [], alts := [], laidByText := true, laidKinds := [.data, .data, .data], laidTests := true, laidLooks := .later }
def FnExactFormatDecisionUptoCardSaid : Prop := Claim7.holds Tryd.pinned (.plain (OpenSpec.upto fnExactFormatDecisionSpec)) fnExactFormatDecisionUptoCard

/-- THE SECOND FORM's CARD OF 'laws.FnExactFormatTrace'. -/
def fnExactFormatTraceUptoCard : Claim7 := { stood := { row := fnExactFormatTraceUptoRow, standIns := [], harness := (true, "4d88aa019396370bf47fde3a24003e4ba5739af7deff6516b22d3ad9185ebe0b"), looks := false }, kinds := [], alts := [], laidByText := true, laidKinds := [.data, .data, .data], laidTests := true, laidLooks := .later }
def FnExactFormatTraceUptoCardSaid : Prop := Claim7.holds Tryd.pinned (.plain (OpenSpec.upto fnExactFormatTraceSpec)) fnExactFormatTraceUptoCard
end Rows
end Go.Proofs.YtgjdionnbbnmpaaDoor
