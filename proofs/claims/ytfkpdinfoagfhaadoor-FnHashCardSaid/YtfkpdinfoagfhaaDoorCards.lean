/-
  DERIVED. GIVEN WITH THE SEED: THE CARDS: each row of YtfkpdinfoagfhaaDoorRows.lean that lists a variable, with what it lists TIED to the program's text (the seventh form; the later family's looks); each row that meets fmt, with fmt's text TOLD by the authors' own Lean function (tested against real Go, not proved from fmt's source: count such statements apart). THE CARD IS WHAT COUNTS. Prove the row's statement (the work); the ties are given (YtfkpdinfoagfhaaDoorTie.lean); close each card by the builder's one call (the guide's Derived/Test/ToyasCard.lean, 'card_holds'). Laid BY PROGRAM, IN A SANDBOX (cutbox-door.mjs). By AI agents, Wed Nov 11 2026. No macro, syntax, notation, axiom, sorry.
-/
import Derived.Test.YtfkpdinfoagfhaaDoorRows
import GoSem.ClaimSeven
namespace Go.Proofs.YtfkpdinfoagfhaaDoor
namespace Rows

/-- THE TIED CARD OF 'laws.FnExactHash'. -/
def fnExactHashCard : Claim7 := { stood := { row := fnExactHashRow, standIns := [], harness := (true, "db4937c0a298b274927639e81e8b321befba0df33dd9b3876609c4a6b98cc636"), looks := true }, kinds := [], alts := [], laidByText := true, laidKinds := [.data, .data], laidTests := true, laidLooks := .later }
def FnExactHashCardSaid : Prop := Claim7.holds Tryd.pinned (.plain (OpenSpec.ofChange fnExactHashSpec)) fnExactHashCard

/-- THE TIED CARD OF 'laws.FnHash'. -/
def fnHashCard : Claim7 := { stood := { row := fnHashRow, standIns := [], harness := (true, "db4937c0a298b274927639e81e8b321befba0df33dd9b3876609c4a6b98cc636"), looks := true }, kinds := [], alts := [], laidByText := true, laidKinds := [.data, .data, .data, .sentinel, .sentinel, .data, .data], laidTests := true, laidLooks := .later }
def FnHashCardSaid : Prop := Claim7.holds Tryd.pinned (.plain (OpenSpec.ofChange fnHashSpec)) fnHashCard

/-- THE TIED CARD OF 'laws.FnExactHmac'. -/
def fnExactHmacCard : Claim7 := { stood := { row := fnExactHmacRow, standIns := [], harness := (true, "db4937c0a298b274927639e81e8b321befba0df33dd9b3876609c4a6b98cc636"), looks := true }, kinds := [], alts := [], laidByText := true, laidKinds := [.data, .data], laidTests := true, laidLooks := .later }
def FnExactHmacCardSaid : Prop := Claim7.holds Tryd.pinned (.plain (OpenSpec.ofChange fnExactHmacSpec)) fnExactHmacCard

/-- THE TIED CARD OF 'laws.FnHmac'. -/
def fnHmacCard : Claim7 := { stood := { row := fnHmacRow, standIns := [], harness := (true, "db4937c0a298b274927639e81e8b321befba0df33dd9b3876609c4a6b98cc636"), looks := true }, kinds := [], alts := [], laidByText := true, laidKinds := [.data, .data], laidTests := true, laidLooks := .later }
def FnHmacCardSaid : Prop := Claim7.holds Tryd.pinned (.plain (OpenSpec.ofChange fnHmacSpec)) fnHmacCard

/-- THE TIED CARD OF 'laws.FnExactReadHash'. -/
def fnExactReadHashCard : Claim7 := { stood := { row := fnExactReadHashRow, standIns := [], harness := (true, "db4937c0a298b274927639e81e8b321befba0df33dd9b3876609c4a6b98cc636"), looks := true }, kinds := [], alts := [], laidByText := true, laidKinds := [.data, .data, .data, .sentinel, .sentinel], laidTests := true, laidLooks := .later }
def FnExactReadHashCardSaid : Prop := Claim7.holds Tryd.pinned (.plain (OpenSpec.ofChange fnExactReadHashSpec)) fnExactReadHashCard

/-- THE SECOND FORM's CARD OF 'laws.FnExactHash'. -/
def fnExactHashUptoCard : Claim7 := { stood := { row := fnExactHashUptoRow, standIns := [], harness := (true, "db4937c0a298b274927639e81e8b321befba0df33dd9b3876609c4a6b98cc636"), looks := true }, kinds := [], alts := [], laidByText := true, laidKinds := [.data, .data], laidTests := true, laidLooks := .later }
def FnExactHashUptoCardSaid : Prop := Claim7.holds Tryd.pinned (.plain (OpenSpec.upto fnExactHashSpec)) fnExactHashUptoCard

/-- THE SECOND FORM's CARD OF 'laws.FnHash'. -/
def fnHashUptoCard : Claim7 := { stood := { row := fnHashUptoRow, standIns := [], harness := (true, "db4937c0a298b274927639e81e8b321befba0df33dd9b3876609c4a6b98cc636"), looks := true }, kinds := [], alts := [], laidByText := true, laidKinds := [.data, .data, .data, .sentinel, .sentinel, .data, .data], laidTests := true, laidLooks := .later }
def FnHashUptoCardSaid : Prop := Claim7.holds Tryd.pinned (.plain (OpenSpec.upto fnHashSpec)) fnHashUptoCard

/-- THE SECOND FORM's CARD OF 'laws.FnExactHmac'. -/
def fnExactHmacUptoCard : Claim7 := { stood := { row := fnExactHmacUptoRow, standIns := [], harness := (true, "db4937c0a298b274927639e81e8b321befba0df33dd9b3876609c4a6b98cc636"), looks := true }, kinds := [], alts := [], laidByText := true, laidKinds := [.data, .data], laidTests := true, laidLooks := .later }
def FnExactHmacUptoCardSaid : Prop := Claim7.holds Tryd.pinned (.plain (OpenSpec.upto fnExactHmacSpec)) fnExactHmacUptoCard

/-- THE SECOND FORM's CARD OF 'laws.FnHmac'. -/
def fnHmacUptoCard : Claim7 := { stood := { row := fnHmacUptoRow, standIns := [], harness := (true, "db4937c0a298b274927639e81e8b321befba0df33dd9b3876609c4a6b98cc636"), looks := true }, kinds := [], alts := [], laidByText := true, laidKinds := [.data, .data], laidTests := true, laidLooks := .later }
def FnHmacUptoCardSaid : Prop := Claim7.holds Tryd.pinned (.plain (OpenSpec.upto fnHmacSpec)) fnHmacUptoCard

/-- THE SECOND FORM's CARD OF 'laws.FnExactReadHash'. -/
def fnExactReadHashUptoCard : Claim7 := { stood := { row := fnExactReadHashUptoRow, standIns := [], harness := (true, "db4937c0a298b274927639e81e8b321befba0df33dd9b3876609c4a6b98cc636"), looks := true }, kinds := [], alts := [], laidByText := true, laidKinds := [.data, .data, .data, .sentinel, .sentinel], laidTests := true, laidLooks := .later }
def FnExactReadHashUptoCardSaid : Prop := Claim7.holds Tryd.pinned (.plain (OpenSpec.upto fnExactReadHashSpec)) fnExactReadHashUptoCard
end Rows
end Go.Proofs.YtfkpdinfoagfhaaDoor
