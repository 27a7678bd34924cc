/-
  DERIVED. GIVEN WITH THE SEED: THE CARDS: each row of YthfcaiipcdibbaaDoorRows.lean that lists a variable, with what it lists TIED to the program's text (the seventh form; the later family's looks); each row that meets fmt, with fmt's text TOLD by the authors' own Lean function (tested against real Go, not proved from fmt's source: count such statements apart). THE CARD IS WHAT COUNTS. Prove the row's statement (the work); the ties are given (YthfcaiipcdibbaaDoorTie.lean); close each card by the builder's one call (the guide's Derived/Test/ToyasCard.lean, 'card_holds'). Laid BY PROGRAM, IN A SANDBOX (cutbox-door.mjs). By AI agents, Wed Nov 11 2026. No macro, syntax, notation, axiom, sorry.
-/
import Derived.Test.YthfcaiipcdibbaaDoorRows
import GoSem.ClaimSeven
namespace Go.Proofs.YthfcaiipcdibbaaDoor
namespace Rows

/-- THE TIED CARD OF 'custodylaw15.TermMatchesSpec'. -/
def termMatchesSpecCard : Claim7 := { stood := { row := termMatchesSpecRow, standIns := [], harness := (true, "2314c6125b754b851b9de2b727dfcc4e6dc9067afbd7247345c2d12a746b997d"), looks := false }, kinds := [], alts := [], laidByText := true, laidKinds := [.data, .data, .data], laidTests := true, laidLooks := .later }
def TermMatchesSpecCardSaid : Prop := Claim7.holds Tryd.pinned (.plain (OpenSpec.ofChange termMatchesSpecSpec)) termMatchesSpecCard

/-- THE TIED CARD OF 'custodylaw15.TermTexts'. -/
def termTextsCard : Claim7 := { stood := { row := termTextsRow, standIns := [], harness := (true, "2314c6125b754b851b9de2b727dfcc4e6dc9067afbd7247345c2d12a746b997d"), looks := false }, kinds := [], alts := [], laidByText := true, laidKinds := [.data, .data, .data], laidTests := true, laidLooks := .later }
def TermTextsCardSaid : Prop := Claim7.holds Tryd.pinned (.plain (OpenSpec.ofChange termTextsSpec)) termTextsCard

/-- THE TIED CARD OF 'custodylaw15.TermClosesAsSpecified'. -/
def termClosesAsSpecifiedCard : Claim7 := { stood := { row := termClosesAsSpecifiedRow, standIns := [], harness := (true, "2314c6125b754b851b9de2b727dfcc4e6dc9067afbd7247345c2d12a746b997d"), looks := false }, kinds := [], alts := [], laidByText := true, laidKinds := [.data, .data, .data], laidTests := true, laidLooks := .later }
def TermClosesAsSpecifiedCardSaid : Prop := Claim7.holds Tryd.pinned (.plain (OpenSpec.ofChange termClosesAsSpecifiedSpec)) termClosesAsSpecifiedCard

/-- THE TIED CARD OF 'custodylaw15.TermMonotone'. -/
def termMonotoneCard : Claim7 := { stood := { row := termMonotoneRow, standIns := [], harness := (true, "2314c6125b754b851b9de2b727dfcc4e6dc9067afbd7247345c2d12a746b997d"), looks := false }, kinds := [], alts := [], laidByText := true, laidKinds := [.data, .data, .data], laidTests := true, laidLooks := .later }
def TermMonotoneCardSaid : Prop := Claim7.holds Tryd.pinned (.plain (OpenSpec.ofChange termMonotoneSpec)) termMonotoneCard

/-- THE TIED CARD OF 'custodylaw15.TermCut'. -/
def termCutCard : Claim7 := { stood := { row := termCutRow, standIns := [], harness := (true, "2314c6125b754b851b9de2b727dfcc4e6dc9067afbd7247345c2d12a746b997d"), looks := false }, kinds := [], alts := [], laidByText := true, laidKinds := [.data, .data, .data], laidTests := true, laidLooks := .later }
def TermCutCardSaid : Prop := Claim7.holds Tryd.pinned (.plain (OpenSpec.ofChange termCutSpec)) termCutCard

/-- THE TIED CARD OF 'custodylaw15.TermLocal'. -/
def termLocalCard : Claim7 := { stood := { row := termLocalRow, standIns := [], harness := (true, "2314c6125b754b851b9de2b727dfcc4e6dc9067afbd7247345c2d12a746b997d"), looks := false }, kinds := [], alts := [], laidByText := true, laidKinds := [.data, .data, .data], laidTests := true, laidLooks := .later }
def TermLocalCardSaid : Prop := Claim7.holds Tryd.pinned (.plain (OpenSpec.ofChange termLocalSpec)) termLocalCard

/-- THE TIED CARD OF 'custodylaw15.TermBuilds'. -/
def termBuildsCard : Claim7 := { stood := { row := termBuildsRow, standIns := [], harness := (true, "2314c6125b754b851b9de2b727dfcc4e6dc9067afbd7247345c2d12a746b997d"), looks := false }, kinds := [], alts := [], laidByText := true, laidKinds := [.data, .data, .data], laidTests := true, laidLooks := .later }
def TermBuildsCardSaid : Prop := Claim7.holds Tryd.pinned (.plain (OpenSpec.ofChange termBuildsSpec)) termBuildsCard

/-- THE SECOND FORM's CARD OF 'custodylaw15.TermMatchesSpec'. -/
def termMatchesSpecUptoCard : Claim7 := { stood := { row := termMatchesSpecUptoRow, standIns := [], harness := (true, "2314c6125b754b851b9de2b727dfcc4e6dc9067afbd7247345c2d12a746b997d"), looks := false }, kinds := [], alts := [], laidByText := true, laidKinds := [.data, .data, .data], laidTests := true, laidLooks := .later }
def TermMatchesSpecUptoCardSaid : Prop := Claim7.holds Tryd.pinned (.plain (OpenSpec.upto termMatchesSpecSpec)) termMatchesSpecUptoCard

/-- THE SECOND FORM's CARD OF 'custodylaw15.TermTexts'. -/
def termTextsUptoCard : Claim7 := { stood := { row := termTextsUptoRow, standIns := [], harness := (true, "2314c6125b754b851b9de2b727dfcc4e6dc9067afbd7247345c2d12a746b997d"), looks := false }, kinds := [], alts := [], laidByText := true, laidKinds := [.data, .data, .data], laidTests := true, laidLooks := .later }
def TermTextsUptoCardSaid : Prop := Claim7.holds Tryd.pinned (.plain (OpenSpec.upto termTextsSpec)) termTextsUptoCard

/-- THE SECOND FORM's CARD OF 'custodylaw15.TermClosesAsSpecified'. -/
def termClosesAsSpecifiedUptoCard : Claim7 := { stood := { row := termClosesAsSpecifiedUptoRow, standIns := [], harness := (true, "2314c6125b754b851b9de2b727dfcc4e6dc9067afbd7247345c2d12a746b997d"), looks := false }, kinds := [], alts := [], laidByText := true, laidKinds := [.data, .data, .data], laidTests := true, laidLooks := .later }
def TermClosesAsSpecifiedUptoCardSaid : Prop := Claim7.holds Tryd.pinned (.plain (OpenSpec.upto termClosesAsSpecifiedSpec)) termClosesAsSpecifiedUptoCard

/-- THE SECOND FORM's CARD OF 'custodylaw15.TermMonotone'. -/
def termMonotoneUptoCard : Claim7 := { stood := { row := termMonotoneUptoRow, standIns := [], harness := (true, "2314c6125b754b851b9de2b727dfcc4e6dc9067afbd7247345c2d12a746b997d"), looks := false }, kinds := [], alts := [], laidByText := true, laidKinds := [.data, .data, .data], laidTests := true, laidLooks := .later }
def TermMonotoneUptoCardSaid : Prop := Claim7.holds Tryd.pinned (.plain (OpenSpec.upto termMonotoneSpec)) termMonotoneUptoCard

/-- THE SECOND FORM's CARD OF 'custodylaw15.TermCut'. -/
def termCutUptoCard : Claim7 := { stood := { row := termCutUptoRow, standIns := [], harness := (true, "2314c6125b754b851b9de2b727dfcc4e6dc9067afbd7247345c2d12a746b997d"), looks := false }, kinds := [], alts := [], laidByText := true, laidKinds := [.data, .data, .data], laidTests := true, laidLooks := .later }
def TermCutUptoCardSaid : Prop := Claim7.holds Tryd.pinned (.plain (OpenSpec.upto termCutSpec)) termCutUptoCard

/-- THE SECOND FORM's CARD OF 'custodylaw15.TermLocal'. -/
def termLocalUptoCard : Claim7 := { stood := { row := termLocalUptoRow, standIns := [], harness := (true, "2314c6125b754b851b9de2b727dfcc4e6dc9067afbd7247345c2d12a746b997d"), looks := false }, kinds := [], alts := [], laidByText := true, laidKinds := [.data, .data, .data], laidTests := true, laidLooks := .later }
def TermLocalUptoCardSaid : Prop := Claim7.holds Tryd.pinned (.plain (OpenSpec.upto termLocalSpec)) termLocalUptoCard

/-- THE SECOND FORM's CARD OF 'custodylaw15.TermBuilds'. -/
def termBuildsUptoCard : Claim7 := { stood := { row := termBuildsUptoRow, standIns := [], harness := (true, "2314c6125b754b851b9de2b727dfcc4e6dc9067afbd7247345c2d12a746b997d"), looks := false }, kinds := [], alts := [], laidByText := true, laidKinds := [.data, .data, .data], laidTests := true, laidLooks := .later }
def TermBuildsUptoCardSaid : Prop := Claim7.holds Tryd.pinned (.plain (OpenSpec.upto termBuildsSpec)) termBuildsUptoCard
end Rows
end Go.Proofs.YthfcaiipcdibbaaDoor
