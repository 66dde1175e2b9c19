/-
  DERIVED. GIVEN WITH THE SEED: THE CARDS: each row of YtkmbepgofajfkaaDoorRows.lean that lists a variable, with what it lists TIED to the program's text (the seventh form; the later family's looks); each row that meets fmt, with fmt's text TOLD by the authors' own Lean function (tested against real Go, not proved from fmt's source: count such statements apart). THE CARD IS WHAT COUNTS. Prove the row's statement (the work); the ties are given (YtkmbepgofajfkaaDoorTie.lean); close each card by the builder's one call (the guide's Derived/Test/ToyasCard.lean, 'card_holds'). Laid BY PROGRAM, IN A SANDBOX (cutbox-door.mjs). By AI agents, Wed Nov 11 2026. No macro, syntax, notation, axiom, sorry.
-/
import Derived.Test.YtkmbepgofajfkaaDoorRows
import GoSem.ClaimSeven
namespace Go.Proofs.YtkmbepgofajfkaaDoor
namespace Rows

/-- THE TIED CARD OF 'lamplighterlaw18.DepthFits'. -/
def depthFitsCard : Claim7 := { stood := { row := depthFitsRow, standIns := [], harness := (true, "054ba98b6e0c192abea748de19c88ac47fb244701361a72d99b1191cf10c07b9"), looks := false }, kinds := [], alts := [], laidByText := true, laidKinds := [.data, .widerDeep, .funcs], laidTests := true, laidLooks := .later }
def DepthFitsCardSaid : Prop := Claim7.holds Tryd.pinned (.plain (OpenSpec.ofChange depthFitsSpec)) depthFitsCard

/-- THE TIED CARD OF 'lamplighterlaw18.DepthEdges'. -/
def depthEdgesCard : Claim7 := { stood := { row := depthEdgesRow, standIns := [], harness := (true, "054ba98b6e0c192abea748de19c88ac47fb244701361a72d99b1191cf10c07b9"), looks := false }, kinds := [], alts := [], laidByText := true, laidKinds := [.data, .widerDeep, .funcs], laidTests := true, laidLooks := .later }
def DepthEdgesCardSaid : Prop := Claim7.holds Tryd.pinned (.plain (OpenSpec.ofChange depthEdgesSpec)) depthEdgesCard

/-- THE TIED CARD OF 'lamplighterlaw18.DepthNames'. -/
def depthNamesCard : Claim7 := { stood := { row := depthNamesRow, standIns := [], harness := (true, "054ba98b6e0c192abea748de19c88ac47fb244701361a72d99b1191cf10c07b9"), looks := false }, kinds := [], alts := [], laidByText := true, laidKinds := [.data, .widerDeep, .funcs], laidTests := true, laidLooks := .later }
def DepthNamesCardSaid : Prop := Claim7.holds Tryd.pinned (.plain (OpenSpec.ofChange depthNamesSpec)) depthNamesCard

/-- THE TIED CARD OF 'lamplighterlaw18.DepthCalls'. -/
def depthCallsCard : Claim7 := { stood := { row := depthCallsRow, standIns := [], harness := (true, "054ba98b6e0c192abea748de19c88ac47fb244701361a72d99b1191cf10c07b9"), looks := false }, kinds := [], alts := [], laidByText := true, laidKinds := [.data, .widerDeep, .funcs], laidTests := true, laidLooks := .later }
def DepthCallsCardSaid : Prop := Claim7.holds Tryd.pinned (.plain (OpenSpec.ofChange depthCallsSpec)) depthCallsCard

/-- THE TIED CARD OF 'lamplighterlaw16.CfgDead'. -/
def cfgDeadCard : Claim7 := { stood := { row := cfgDeadRow, standIns := [], harness := (true, "054ba98b6e0c192abea748de19c88ac47fb244701361a72d99b1191cf10c07b9"), looks := false }, kinds := [], alts := [], laidByText := true, laidKinds := [.data, .widerDeep, .funcs], laidTests := true, laidLooks := .later }
def CfgDeadCardSaid : Prop := Claim7.holds Tryd.pinned (.plain (OpenSpec.ofChange cfgDeadSpec)) cfgDeadCard

/-- THE TIED CARD OF 'lamplighterlaw16.CfgPaths'. -/
def cfgPathsCard : Claim7 := { stood := { row := cfgPathsRow, standIns := [], harness := (true, "054ba98b6e0c192abea748de19c88ac47fb244701361a72d99b1191cf10c07b9"), looks := false }, kinds := [], alts := [], laidByText := true, laidKinds := [.data, .widerDeep, .funcs], laidTests := true, laidLooks := .later }
def CfgPathsCardSaid : Prop := Claim7.holds Tryd.pinned (.plain (OpenSpec.ofChange cfgPathsSpec)) cfgPathsCard

/-- THE TIED CARD OF 'lamplighterlaw16.CfgRows'. -/
def cfgRowsCard : Claim7 := { stood := { row := cfgRowsRow, standIns := [], harness := (true, "054ba98b6e0c192abea748de19c88ac47fb244701361a72d99b1191cf10c07b9"), looks := false }, kinds := [], alts := [], laidByText := true, laidKinds := [.data, .widerDeep, .funcs], laidTests := true, laidLooks := .later }
def CfgRowsCardSaid : Prop := Claim7.holds Tryd.pinned (.plain (OpenSpec.ofChange cfgRowsSpec)) cfgRowsCard

/-- THE TIED CARD OF 'lamplighterlaw16.CfgNames'. -/
def cfgNamesCard : Claim7 := { stood := { row := cfgNamesRow, standIns := [], harness := (true, "054ba98b6e0c192abea748de19c88ac47fb244701361a72d99b1191cf10c07b9"), looks := false }, kinds := [], alts := [], laidByText := true, laidKinds := [.data, .widerDeep, .funcs], laidTests := true, laidLooks := .later }
def CfgNamesCardSaid : Prop := Claim7.holds Tryd.pinned (.plain (OpenSpec.ofChange cfgNamesSpec)) cfgNamesCard

/-- THE TIED CARD OF 'lamplighterlaw16.CfgCalls'. -/
def cfgCallsCard : Claim7 := { stood := { row := cfgCallsRow, standIns := [], harness := (true, "054ba98b6e0c192abea748de19c88ac47fb244701361a72d99b1191cf10c07b9"), looks := false }, kinds := [], alts := [], laidByText := true, laidKinds := [.data, .widerDeep, .funcs], laidTests := true, laidLooks := .later }
def CfgCallsCardSaid : Prop := Claim7.holds Tryd.pinned (.plain (OpenSpec.ofChange cfgCallsSpec)) cfgCallsCard

/-- THE SECOND FORM's CARD OF 'lamplighterlaw18.DepthFits'. -/
def depthFitsUptoCard : Claim7 := { stood := { row := depthFitsUptoRow, standIns := [], harness := (true, "054ba98b6e0c192abea748de19c88ac47fb244701361a72d99b1191cf10c07b9"), looks := false }, kinds := [], alts := [], laidByText := true, laidKinds := [.data, .widerDeep, .funcs], laidTests := true, laidLooks := .later }
def DepthFitsUptoCardSaid : Prop := Claim7.holds Tryd.pinned (.plain (OpenSpec.upto depthFitsSpec)) depthFitsUptoCard

/-- THE SECOND FORM's CARD OF 'lamplighterlaw18.DepthEdges'. -/
def depthEdgesUptoCard : Claim7 := { stood := { row := depthEdgesUptoRow, standIns := [], harness := (true, "054ba98b6e0c192abea748de19c88ac47fb244701361a72d99b1191cf10c07b9"), looks := false }, kinds := [], alts := [], laidByText := true, laidKinds := [.data, .widerDeep, .funcs], laidTests := true, laidLooks := .later }
def DepthEdgesUptoCardSaid : Prop := Claim7.holds Tryd.pinned (.plain (OpenSpec.upto depthEdgesSpec)) depthEdgesUptoCard

/-- THE SECOND FORM's CARD OF 'lamplighterlaw18.DepthNames'. -/
def depthNamesUptoCard : Claim7 := { stood := { row := depthNamesUptoRow, standIns := [], harness := (true, "054ba98b6e0c192abea748de19c88ac47fb244701361a72d99b1191cf10c07b9"), looks := false }, kinds := [], alts := [], laidByText := true, laidKinds := [.data, .widerDeep, .funcs], laidTests := true, laidLooks := .later }
def DepthNamesUptoCardSaid : Prop := Claim7.holds Tryd.pinned (.plain (OpenSpec.upto depthNamesSpec)) depthNamesUptoCard

/-- THE SECOND FORM's CARD OF 'lamplighterlaw18.DepthCalls'. -/
def depthCallsUptoCard : Claim7 := { stood := { row := depthCallsUptoRow, standIns := [], harness := (true, "054ba98b6e0c192abea748de19c88ac47fb244701361a72d99b1191cf10c07b9"), looks := false }, kinds := [], alts := [], laidByText := true, laidKinds := [.data, .widerDeep, .funcs], laidTests := true, laidLooks := .later }
def DepthCallsUptoCardSaid : Prop := Claim7.holds Tryd.pinned (.plain (OpenSpec.upto depthCallsSpec)) depthCallsUptoCard

/-- THE SECOND FORM's CARD OF 'lamplighterlaw16.CfgDead'. -/
def cfgDeadUptoCard : Claim7 := { stood := { row := cfgDeadUptoRow, standIns := [], harness := (true, "054ba98b6e0c192abea748de19c88ac47fb244701361a72d99b1191cf10c07b9"), looks := false }, kinds := [], alts := [], laidByText := true, laidKinds := [.data, .widerDeep, .funcs], laidTests := true, laidLooks := .later }
def CfgDeadUptoCardSaid : Prop := Claim7.holds Tryd.pinned (.plain (OpenSpec.upto cfgDeadSpec)) cfgDeadUptoCard

/-- THE SECOND FORM's CARD OF 'lamplighterlaw16.CfgPaths'. -/
def cfgPathsUptoCard : Claim7 := { stood := { row := cfgPathsUptoRow, standIns := [], harness := (true, "054ba98b6e0c192abea748de19c88ac47fb244701361a72d99b1191cf10c07b9"), looks := false }, kinds := [], alts := [], laidByText := true, laidKinds := [.data, .widerDeep, .funcs], laidTests := true, laidLooks := .later }
def CfgPathsUptoCardSaid : Prop := Claim7.holds Tryd.pinned (.plain (OpenSpec.upto cfgPathsSpec)) cfgPathsUptoCard

/-- THE SECOND FORM's CARD OF 'lamplighterlaw16.CfgRows'. -/
def cfgRowsUptoCard : Claim7 := { stood := { row := cfgRowsUptoRow, standIns := [], harness := (true, "054ba98b6e0c192abea748de19c88ac47fb244701361a72d99b1191cf10c07b9"), looks := false }, kinds := [], alts := [], laidByText := true, laidKinds := [.data, .widerDeep, .funcs], laidTests := true, laidLooks := .later }
def CfgRowsUptoCardSaid : Prop := Claim7.holds Tryd.pinned (.plain (OpenSpec.upto cfgRowsSpec)) cfgRowsUptoCard

/-- THE SECOND FORM's CARD OF 'lamplighterlaw16.CfgNames'. -/
def cfgNamesUptoCard : Claim7 := { stood := { row := cfgNamesUptoRow, standIns := [], harness := (true, "054ba98b6e0c192abea748de19c88ac47fb244701361a72d99b1191cf10c07b9"), looks := false }, kinds := [], alts := [], laidByText := true, laidKinds := [.data, .widerDeep, .funcs], laidTests := true, laidLooks := .later }
def CfgNamesUptoCardSaid : Prop := Claim7.holds Tryd.pinned (.plain (OpenSpec.upto cfgNamesSpec)) cfgNamesUptoCard

/-- THE SECOND FORM's CARD OF 'lamplighterlaw16.CfgCalls'. -/
def cfgCallsUptoCard : Claim7 := { stood := { row := cfgCallsUptoRow, standIns := [], harness := (true, "054ba98b6e0c192abea748de19c88ac47fb244701361a72d99b1191cf10c07b9"), looks := false }, kinds := [], alts := [], laidByText := true, laidKinds := [.data, .widerDeep, .funcs], laidTests := true, laidLooks := .later }
def CfgCallsUptoCardSaid : Prop := Claim7.holds Tryd.pinned (.plain (OpenSpec.upto cfgCallsSpec)) cfgCallsUptoCard
end Rows
end Go.Proofs.YtkmbepgofajfkaaDoor
