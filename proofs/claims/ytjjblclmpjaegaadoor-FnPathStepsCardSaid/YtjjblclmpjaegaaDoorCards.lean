/-
  DERIVED. GIVEN WITH THE SEED: THE CARDS: each row of YtjjblclmpjaegaaDoorRows.lean that lists a variable, with what it lists TIED to the program's text (the seventh form; the later family's looks); each row that meets fmt, with fmt's text TOLD by the authors' own Lean function (tested against real Go, not proved from fmt's source: count such statements apart). THE CARD IS WHAT COUNTS. Prove the row's statement (the work); the ties are given (YtjjblclmpjaegaaDoorTie.lean); close each card by the builder's one call (the guide's Derived/Test/ToyasCard.lean, 'card_holds'). Laid BY PROGRAM, IN A SANDBOX (cutbox-door.mjs). By AI agents, Wed Nov 11 2026. No macro, syntax, notation, axiom, sorry.
-/
import Derived.Test.YtjjblclmpjaegaaDoorRows
import GoSem.ClaimSeven
namespace Go.Proofs.YtjjblclmpjaegaaDoor
namespace Rows

/-- THE TIED CARD OF 'laws.FnExactPathSteps'. -/
def fnExactPathStepsCard : Claim7 := { stood := { row := fnExactPathStepsRow, standIns := [], harness := (true, "d48e42355ca5fef528adfb24ecd9f518e58cd781d26148629500fc3dd92f6e4c"), looks := false }, kinds := [], alts := [], laidByText := true, laidKinds := [.data, .pinned], laidTests := true, laidLooks := .later }
def FnExactPathStepsCardSaid : Prop := Claim7.holds Tryd.pinned (.plain (OpenSpec.ofChange fnExactPathStepsSpec)) fnExactPathStepsCard

/-- THE TIED CARD OF 'laws.FnPathSteps'. -/
def fnPathStepsCard : Claim7 := { stood := { row := fnPathStepsRow, standIns := [], harness := (true, "d48e42355ca5fef528adfb24ecd9f518e58cd781d26148629500fc3dd92f6e4c"), looks := false }, kinds := [], alts := [], laidByText := true, laidKinds := [.data, .pinned], laidTests := true, laidLooks := .later }
def FnPathStepsCardSaid : Prop := Claim7.holds Tryd.pinned (.plain (OpenSpec.ofChange fnPathStepsSpec)) fnPathStepsCard

/-- THE SECOND FORM's CARD OF 'laws.FnExactPathSteps'. -/
def fnExactPathStepsUptoCard : Claim7 := { stood := { row := fnExactPathStepsUptoRow, standIns := [], harness := (true, "d48e42355ca5fef528adfb24ecd9f518e58cd781d26148629500fc3dd92f6e4c"), looks := false }, kinds := [], alts := [], laidByText := true, laidKinds := [.data, .pinned], laidTests := true, laidLooks := .later }
def FnExactPathStepsUptoCardSaid : Prop := Claim7.holds Tryd.pinned (.plain (OpenSpec.upto fnExactPathStepsSpec)) fnExactPathStepsUptoCard

/-- THE SECOND FORM's CARD OF 'laws.FnPathSteps'. -/
def fnPathStepsUptoCard : Claim7 := { stood := { row := fnPathStepsUptoRow, standIns := [], harness := (true, "d48e42355ca5fef528adfb24ecd9f518e58cd781d26148629500fc3dd92f6e4c"), looks := false }, kinds := [], alts := [], laidByText := true, laidKinds := [.data, .pinned], laidTests := true, laidLooks := .later }
def FnPathStepsUptoCardSaid : Prop := Claim7.holds Tryd.pinned (.plain (OpenSpec.upto fnPathStepsSpec)) fnPathStepsUptoCard
end Rows
end Go.Proofs.YtjjblclmpjaegaaDoor
