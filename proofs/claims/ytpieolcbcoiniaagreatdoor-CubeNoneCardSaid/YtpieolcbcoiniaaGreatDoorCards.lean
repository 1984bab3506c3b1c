/-
  DERIVED. GIVEN WITH THE SEED: THE CARDS: each row of YtpieolcbcoiniaaGreatDoorRows.lean that lists a variable, with what it lists TIED to the program's text (the seventh form; the later family's looks); each row that meets fmt, with fmt's text TOLD by the authors' own Lean function (tested against real Go, not proved from fmt's source: count such statements apart). THE CARD IS WHAT COUNTS. Prove the row's statement (the work); the ties are given (YtpieolcbcoiniaaGreatDoorTie.lean); close each card by the builder's one call (the guide's Derived/Test/ToyasCard.lean, 'card_holds'). Laid BY PROGRAM, IN A SANDBOX (cutbox-door.mjs). By AI agents, Wed Nov 11 2026. No macro, syntax, notation, axiom, sorry.
-/
import Derived.Test.YtpieolcbcoiniaaGreatDoorRows
import GoSem.ClaimSeven
namespace Go.Proofs.YtpieolcbcoiniaaGreatDoor
namespace Rows

/-- THE TIED CARD OF 'taluslaw16.CubeKeys'. -/
def cubeKeysCard : Claim7 := { stood := { row := cubeKeysRow, standIns := [], harness := (true, "8950f8bd222808c38c11adc22fa7e40d81406edf5d6837866f64784bc5f73a04"), looks := true }, kinds := [], alts := [], laidByText := true, laidKinds := [.data, .pinned], laidTests := true, laidLooks := .later }
def CubeKeysCardSaid : Prop := Claim7.holds Tryz.pinned (.plain (OpenSpec.ofChange cubeKeysSpec)) cubeKeysCard

/-- THE TIED CARD OF 'taluslaw16.CubeCounts'. -/
def cubeCountsCard : Claim7 := { stood := { row := cubeCountsRow, standIns := [], harness := (true, "8950f8bd222808c38c11adc22fa7e40d81406edf5d6837866f64784bc5f73a04"), looks := true }, kinds := [], alts := [], laidByText := true, laidKinds := [.data, .pinned], laidTests := true, laidLooks := .later }
def CubeCountsCardSaid : Prop := Claim7.holds Tryz.pinned (.plain (OpenSpec.ofChange cubeCountsSpec)) cubeCountsCard

/-- THE TIED CARD OF 'taluslaw16.CubeNone'. -/
def cubeNoneCard : Claim7 := { stood := { row := cubeNoneRow, standIns := [], harness := (true, "8950f8bd222808c38c11adc22fa7e40d81406edf5d6837866f64784bc5f73a04"), looks := true }, kinds := [], alts := [], laidByText := true, laidKinds := [.data, .pinned], laidTests := true, laidLooks := .later }
def CubeNoneCardSaid : Prop := Claim7.holds Tryz.pinned (.plain (OpenSpec.ofChange cubeNoneSpec)) cubeNoneCard

/-- THE TIED CARD OF 'taluslaw16.CubeOrder'. -/
def cubeOrderCard : Claim7 := { stood := { row := cubeOrderRow, standIns := [], harness := (true, "8950f8bd222808c38c11adc22fa7e40d81406edf5d6837866f64784bc5f73a04"), looks := true }, kinds := [], alts := [], laidByText := true, laidKinds := [.data, .pinned], laidTests := true, laidLooks := .later }
def CubeOrderCardSaid : Prop := Claim7.holds Tryz.pinned (.plain (OpenSpec.ofChange cubeOrderSpec)) cubeOrderCard

/-- THE SECOND FORM's CARD OF 'taluslaw16.CubeKeys'. -/
def cubeKeysUptoCard : Claim7 := { stood := { row := cubeKeysUptoRow, standIns := [], harness := (true, "8950f8bd222808c38c11adc22fa7e40d81406edf5d6837866f64784bc5f73a04"), looks := true }, kinds := [], alts := [], laidByText := true, laidKinds := [.data, .pinned], laidTests := true, laidLooks := .later }
def CubeKeysUptoCardSaid : Prop := Claim7.holds Tryz.pinned (.plain (OpenSpec.upto cubeKeysSpec)) cubeKeysUptoCard

/-- THE SECOND FORM's CARD OF 'taluslaw16.CubeCounts'. -/
def cubeCountsUptoCard : Claim7 := { stood := { row := cubeCountsUptoRow, standIns := [], harness := (true, "8950f8bd222808c38c11adc22fa7e40d81406edf5d6837866f64784bc5f73a04"), looks := true }, kinds := [], alts := [], laidByText := true, laidKinds := [.data, .pinned], laidTests := true, laidLooks := .later }
def CubeCountsUptoCardSaid : Prop := Claim7.holds Tryz.pinned (.plain (OpenSpec.upto cubeCountsSpec)) cubeCountsUptoCard

/-- THE SECOND FORM's CARD OF 'taluslaw16.CubeNone'. -/
def cubeNoneUptoCard : Claim7 := { stood := { row := cubeNoneUptoRow, standIns := [], harness := (true, "8950f8bd222808c38c11adc22fa7e40d81406edf5d6837866f64784bc5f73a04"), looks := true }, kinds := [], alts := [], laidByText := true, laidKinds := [.data, .pinned], laidTests := true, laidLooks := .later }
def CubeNoneUptoCardSaid : Prop := Claim7.holds Tryz.pinned (.plain (OpenSpec.upto cubeNoneSpec)) cubeNoneUptoCard

/-- THE SECOND FORM's CARD OF 'taluslaw16.CubeOrder'. -/
def cubeOrderUptoCard : Claim7 := { stood := { row := cubeOrderUptoRow, standIns := [], harness := (true, "8950f8bd222808c38c11adc22fa7e40d81406edf5d6837866f64784bc5f73a04"), looks := true }, kinds := [], alts := [], laidByText := true, laidKinds := [.data, .pinned], laidTests := true, laidLooks := .later }
def CubeOrderUptoCardSaid : Prop := Claim7.holds Tryz.pinned (.plain (OpenSpec.upto cubeOrderSpec)) cubeOrderUptoCard
end Rows
end Go.Proofs.YtpieolcbcoiniaaGreatDoor
