/-
  DERIVED. GIVEN WITH THE SEED: THE CARDS: each row of YtobelgghegmhhaaGreatDoorRows.lean that lists a variable, with what it lists TIED to the program's text (the seventh form; the later family's looks); each row that meets fmt, with fmt's text TOLD by the authors' own Lean function (tested against real Go, not proved from fmt's source: count such statements apart). THE CARD IS WHAT COUNTS. Prove the row's statement (the work); the ties are given (YtobelgghegmhhaaGreatDoorTie.lean); close each card by the builder's one call (the guide's Derived/Test/ToyasCard.lean, 'card_holds'). Laid BY PROGRAM, IN A SANDBOX (cutbox-door.mjs). By AI agents, Wed Nov 11 2026. No macro, syntax, notation, axiom, sorry.
-/
import Derived.Test.YtobelgghegmhhaaGreatDoorRows
import GoSem.ClaimSeven
namespace Go.Proofs.YtobelgghegmhhaaGreatDoor
namespace Rows

/-- THE TIED CARD OF 'camletlaw10.SchemeOf'. -/
def schemeOfCard : Claim7 := { stood := { row := schemeOfRow, standIns := [], harness := (true, "59c5eab92c1cc4e136f64a07a190d267c0a26bd4fdf7ffd093ca18123ef38bc8"), looks := false }, kinds := [], alts := [], laidByText := true, laidKinds := [.data, .data, .data, .widerDeep, .widerDeep], laidTests := true, laidLooks := .later }
def SchemeOfCardSaid : Prop := Claim7.holds Tryz.pinned (.plain (OpenSpec.ofChange schemeOfSpec)) schemeOfCard

/-- THE TIED CARD OF 'camletlaw10.SchemeInst'. -/
def schemeInstCard : Claim7 := { stood := { row := schemeInstRow, standIns := [], harness := (true, "59c5eab92c1cc4e136f64a07a190d267c0a26bd4fdf7ffd093ca18123ef38bc8"), looks := false }, kinds := [], alts := [], laidByText := true, laidKinds := [.data, .data, .data, .widerDeep, .widerDeep], laidTests := true, laidLooks := .later }
def SchemeInstCardSaid : Prop := Claim7.holds Tryz.pinned (.plain (OpenSpec.ofChange schemeInstSpec)) schemeInstCard

/-- THE TIED CARD OF 'camletlaw10.SchemeMore'. -/
def schemeMoreCard : Claim7 := { stood := { row := schemeMoreRow, standIns := [], harness := (true, "59c5eab92c1cc4e136f64a07a190d267c0a26bd4fdf7ffd093ca18123ef38bc8"), looks := false }, kinds := [], alts := [], laidByText := true, laidKinds := [.data, .data, .data, .widerDeep, .widerDeep], laidTests := true, laidLooks := .later }
def SchemeMoreCardSaid : Prop := Claim7.holds Tryz.pinned (.plain (OpenSpec.ofChange schemeMoreSpec)) schemeMoreCard

/-- THE TIED CARD OF 'camletlaw10.SchemeStands'. -/
def schemeStandsCard : Claim7 := { stood := { row := schemeStandsRow, standIns := [], harness := (true, "59c5eab92c1cc4e136f64a07a190d267c0a26bd4fdf7ffd093ca18123ef38bc8"), looks := false }, kinds := [], alts := [], laidByText := true, laidKinds := [.data, .data, .data, .widerDeep, .widerDeep], laidTests := true, laidLooks := .later }
def SchemeStandsCardSaid : Prop := Claim7.holds Tryz.pinned (.plain (OpenSpec.ofChange schemeStandsSpec)) schemeStandsCard

/-- THE TIED CARD OF 'camletlaw10.SchemeOrder'. -/
def schemeOrderCard : Claim7 := { stood := { row := schemeOrderRow, standIns := [], harness := (true, "59c5eab92c1cc4e136f64a07a190d267c0a26bd4fdf7ffd093ca18123ef38bc8"), looks := false }, kinds := [], alts := [], laidByText := true, laidKinds := [.data, .data, .data, .widerDeep, .widerDeep], laidTests := true, laidLooks := .later }
def SchemeOrderCardSaid : Prop := Claim7.holds Tryz.pinned (.plain (OpenSpec.ofChange schemeOrderSpec)) schemeOrderCard

/-- THE SECOND FORM's CARD OF 'camletlaw10.SchemeOf'. -/
def schemeOfUptoCard : Claim7 := { stood := { row := schemeOfUptoRow, standIns := [], harness := (true, "59c5eab92c1cc4e136f64a07a190d267c0a26bd4fdf7ffd093ca18123ef38bc8"), looks := false }, kinds := [], alts := [], laidByText := true, laidKinds := [.data, .data, .data, .widerDeep, .widerDeep], laidTests := true, laidLooks := .later }
def SchemeOfUptoCardSaid : Prop := Claim7.holds Tryz.pinned (.plain (OpenSpec.upto schemeOfSpec)) schemeOfUptoCard

/-- THE SECOND FORM's CARD OF 'camletlaw10.SchemeInst'. -/
def schemeInstUptoCard : Claim7 := { stood := { row := schemeInstUptoRow, standIns := [], harness := (true, "59c5eab92c1cc4e136f64a07a190d267c0a26bd4fdf7ffd093ca18123ef38bc8"), looks := false }, kinds := [], alts := [], laidByText := true, laidKinds := [.data, .data, .data, .widerDeep, .widerDeep], laidTests := true, laidLooks := .later }
def SchemeInstUptoCardSaid : Prop := Claim7.holds Tryz.pinned (.plain (OpenSpec.upto schemeInstSpec)) schemeInstUptoCard

/-- THE SECOND FORM's CARD OF 'camletlaw10.SchemeMore'. -/
def schemeMoreUptoCard : Claim7 := { stood := { row := schemeMoreUptoRow, standIns := [], harness := (true, "59c5eab92c1cc4e136f64a07a190d267c0a26bd4fdf7ffd093ca18123ef38bc8"), looks := false }, kinds := [], alts := [], laidByText := true, laidKinds := [.data, .data, .data, .widerDeep, .widerDeep], laidTests := true, laidLooks := .later }
def SchemeMoreUptoCardSaid : Prop := Claim7.holds Tryz.pinned (.plain (OpenSpec.upto schemeMoreSpec)) schemeMoreUptoCard

/-- THE SECOND FORM's CARD OF 'camletlaw10.SchemeStands'. -/
def schemeStandsUptoCard : Claim7 := { stood := { row := schemeStandsUptoRow, standIns := [], harness := (true, "59c5eab92c1cc4e136f64a07a190d267c0a26bd4fdf7ffd093ca18123ef38bc8"), looks := false }, kinds := [], alts := [], laidByText := true, laidKinds := [.data, .data, .data, .widerDeep, .widerDeep], laidTests := true, laidLooks := .later }
def SchemeStandsUptoCardSaid : Prop := Claim7.holds Tryz.pinned (.plain (OpenSpec.upto schemeStandsSpec)) schemeStandsUptoCard

/-- THE SECOND FORM's CARD OF 'camletlaw10.SchemeOrder'. -/
def schemeOrderUptoCard : Claim7 := { stood := { row := schemeOrderUptoRow, standIns := [], harness := (true, "59c5eab92c1cc4e136f64a07a190d267c0a26bd4fdf7ffd093ca18123ef38bc8"), looks := false }, kinds := [], alts := [], laidByText := true, laidKinds := [.data, .data, .data, .widerDeep, .widerDeep], laidTests := true, laidLooks := .later }
def SchemeOrderUptoCardSaid : Prop := Claim7.holds Tryz.pinned (.plain (OpenSpec.upto schemeOrderSpec)) schemeOrderUptoCard
end Rows
end Go.Proofs.YtobelgghegmhhaaGreatDoor
