/-
  DERIVED. GIVEN WITH THE SEED: THE CARDS: each row of YtfflmmkkgcijgaaDoorRows.lean that lists a variable, with what it lists TIED to the program's text (the seventh form; the later family's looks); each row that meets fmt, with fmt's text TOLD by the authors' own Lean function (tested against real Go, not proved from fmt's source: count such statements apart). THE CARD IS WHAT COUNTS. Prove the row's statement (the work); the ties are given (YtfflmmkkgcijgaaDoorTie.lean); close each card by the builder's one call (the guide's Derived/Test/ToyasCard.lean, 'card_holds'). Laid BY PROGRAM, IN A SANDBOX (cutbox-door.mjs). By AI agents, Wed Nov 11 2026. No macro, syntax, notation, axiom, sorry.
-/
import Derived.Test.YtfflmmkkgcijgaaDoorRows
import GoSem.ClaimSeven
namespace Go.Proofs.YtfflmmkkgcijgaaDoor
namespace Rows

/-- THE TIED CARD OF 'laws.FnExactRowText'. -/
def fnExactRowTextCard : Claim7 := { stood := { row := fnExactRowTextRow, standIns := [], harness := (true, "3e043a2013ef29d620571a6e8653eb0659eef357be9a0ee192519950a739e066"), looks := false }, kinds := [], alts := [], laidByText := true, laidKinds := [.data, .pinned], laidTests := true, laidLooks := .later }
def FnExactRowTextCardSaid : Prop := Claim7.holds Tryd.pinned (.plain (OpenSpec.ofChange fnExactRowTextSpec)) fnExactRowTextCard

/-- THE TIED CARD OF 'laws.FnExactActionText'. -/
def fnExactActionTextCard : Claim7 := { stood := { row := fnExactActionTextRow, standIns := [], harness := (true, "3e043a2013ef29d620571a6e8653eb0659eef357be9a0ee192519950a739e066"), looks := false }, kinds := [], alts := [], laidByText := true, laidKinds := [.data, .data, .data], laidTests := true, laidLooks := .later }
def FnExactActionTextCardSaid : Prop := Claim7.holds Tryd.pinned (.plain (OpenSpec.ofChange fnExactActionTextSpec)) fnExactActionTextCard

/-- THE SECOND FORM's CARD OF 'laws.FnExactRowText'. -/
def fnExactRowTextUptoCard : Claim7 := { stood := { row := fnExactRowTextUptoRow, standIns := [], harness := (true, "3e043a2013ef29d620571a6e8653eb0659eef357be9a0ee192519950a739e066"), looks := false }, kinds := [], alts := [], laidByText := true, laidKinds := [.data, .pinned], laidTests := true, laidLooks := .later }
def FnExactRowTextUptoCardSaid : Prop := Claim7.holds Tryd.pinned (.plain (OpenSpec.upto fnExactRowTextSpec)) fnExactRowTextUptoCard

/-- THE SECOND FORM's CARD OF 'laws.FnExactActionText'. -/
def fnExactActionTextUptoCard : Claim7 := { stood := { row := fnExactActionTextUptoRow, standIns := [], harness := (true, "3e043a2013ef29d620571a6e8653eb0659eef357be9a0ee192519950a739e066"), looks := false }, kinds := [], alts := [], laidByText := true, laidKinds := [.data, .data, .data], laidTests := true, laidLooks := .later }
def FnExactActionTextUptoCardSaid : Prop := Claim7.holds Tryd.pinned (.plain (OpenSpec.upto fnExactActionTextSpec)) fnExactActionTextUptoCard
end Rows
end Go.Proofs.YtfflmmkkgcijgaaDoor
