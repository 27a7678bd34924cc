/-
  NARROWER THAN 'FOR EVERY INPUT', by the rows' own cells (each row's printed sentence says how): TermMatchesSpec: loops, laid · TermTexts: loops, laid · TermClosesAsSpecified: loops, laid · TermMonotone: loops, laid · TermCut: loops, laid · TermLocal: loops, laid · TermBuilds: loops, laid.
  DERIVED. THE GIVEN ROWS OF THIS SEAT. 7 by the template 'for every input the law returns true; each argument reads behind the call as it read before'; 0 by the template 'total and deterministic' (their statements: YthfcaiipcdibbaaDoorTotals.lean).
  GIVEN WITH THE SEED: the statements are not yours to turn. If you find one false, say at which input.
  Laid BY PROGRAM, IN A SANDBOX (cutbox-rows.mjs): the forced cells as the released guide's own fill.sh prints them over the translation 125d0148de71c35c… (all of the seat's roots in one cut). By AI agents, Wed Nov 11 2026. No macro, syntax, notation, axiom, sorry.
-/
import Derived.Test.YthfcaiipcdibbaaDoorChecked
import GoSem.Claim
import GoSem.ClaimJoined
import GoSem.ClaimMapViews
import Derived.JoinedTies
import Derived.KernelRfl
namespace Go.Proofs.YthfcaiipcdibbaaDoor
/- THE CELL 'sum', in the pinned program and in every row, IS THE sha256 OF THE DUMP (.gsa) THAT YthfcaiipcdibbaaDoorProg.lean LOADS. Nothing in Lean hashes anything: it is a label: what it is worth is what the hold of that sum in a sandbox is worth. -/
noncomputable def Tryd.pinned : Pinned := { name := "ythfcaiipcdibbaadoor", sum := "125d0148de71c35c3d6d576ad5f0cf7df0a214d56837171197a7ec7bbdbccd5d", checked := Tryd.checked }
namespace Rows
def none {H : Type} : Left H := { results := [], args := [] }

/- WHAT THE LISTED PACKAGE-LEVEL VARIABLES READ AS WHEN THE CALL BEGINS. Each datum BY PROGRAM (the guide's laid-datum.mjs) off the statement by which the dump's own 'gosem.cut.vars' lays the variable. In a bare row this is a premise. The card (YthfcaiipcdibbaaDoorCards.lean) ties it to the program's text. -/
def laid_math_bits_deBruijn32tab {H : Type} : DataW H := .agg [.lit (.int .u8 0), .lit (.int .u8 1), .lit (.int .u8 28), .lit (.int .u8 2), .lit (.int .u8 29), .lit (.int .u8 14), .lit (.int .u8 24), .lit (.int .u8 3), .lit (.int .u8 30), .lit (.int .u8 22), .lit (.int .u8 20), .lit (.int .u8 15), .lit (.int .u8 25), .lit (.int .u8 17), .lit (.int .u8 4), .lit (.int .u8 8), .lit (.int .u8 31), .lit (.int .u8 27), .lit (.int .u8 13), .lit (.int .u8 23), .lit (.int .u8 21), .lit (.int .u8 19), .lit (.int .u8 16), .lit (.int .u8 7), .lit (.int .u8 26), .lit (.int .u8 12), .lit (.int .u8 18), .lit (.int .u8 6), .lit (.int .u8 11), .lit (.int .u8 5), .lit (.int .u8 10), .lit (.int .u8 9)]
def laid_math_bits_deBruijn64tab {H : Type} : DataW H := .agg [.lit (.int .u8 0), .lit (.int .u8 1), .lit (.int .u8 56), .lit (.int .u8 2), .lit (.int .u8 57), .lit (.int .u8 49), .lit (.int .u8 28), .lit (.int .u8 3), .lit (.int .u8 61), .lit (.int .u8 58), .lit (.int .u8 42), .lit (.int .u8 50), .lit (.int .u8 38), .lit (.int .u8 29), .lit (.int .u8 17), .lit (.int .u8 4), .lit (.int .u8 62), .lit (.int .u8 47), .lit (.int .u8 59), .lit (.int .u8 36), .lit (.int .u8 45), .lit (.int .u8 43), .lit (.int .u8 51), .lit (.int .u8 22), .lit (.int .u8 53), .lit (.int .u8 39), .lit (.int .u8 33), .lit (.int .u8 30), .lit (.int .u8 24), .lit (.int .u8 18), .lit (.int .u8 12), .lit (.int .u8 5), .lit (.int .u8 63), .lit (.int .u8 55), .lit (.int .u8 48), .lit (.int .u8 27), .lit (.int .u8 60), .lit (.int .u8 41), .lit (.int .u8 37), .lit (.int .u8 16), .lit (.int .u8 46), .lit (.int .u8 35), .lit (.int .u8 44), .lit (.int .u8 21), .lit (.int .u8 52), .lit (.int .u8 32), .lit (.int .u8 23), .lit (.int .u8 11), .lit (.int .u8 54), .lit (.int .u8 26), .lit (.int .u8 40), .lit (.int .u8 15), .lit (.int .u8 34), .lit (.int .u8 20), .lit (.int .u8 31), .lit (.int .u8 10), .lit (.int .u8 25), .lit (.int .u8 14), .lit (.int .u8 19), .lit (.int .u8 9), .lit (.int .u8 13), .lit (.int .u8 8), .lit (.int .u8 7), .lit (.int .u8 6)]
def laid_internal_strconv_uint64pow10 {H : Type} : DataW H := .agg [.lit (.int .u64 1), .lit (.int .u64 10), .lit (.int .u64 100), .lit (.int .u64 1000), .lit (.int .u64 10000), .lit (.int .u64 100000), .lit (.int .u64 1000000), .lit (.int .u64 10000000), .lit (.int .u64 100000000), .lit (.int .u64 1000000000), .lit (.int .u64 10000000000), .lit (.int .u64 100000000000), .lit (.int .u64 1000000000000), .lit (.int .u64 10000000000000), .lit (.int .u64 100000000000000), .lit (.int .u64 1000000000000000), .lit (.int .u64 10000000000000000), .lit (.int .u64 100000000000000000), .lit (.int .u64 1000000000000000000), .lit (.int .u64 10000000000000000000)]

/-- 'custodylaw15.TermMatchesSpec': WHATEVER THE INPUT: true; the input reads as it did. -/
def termMatchesSpecSpec : ChangeSpec := { name := "termMatchesSpec", fn := fun _ => fun
  | [d1, d2] => { results := [.lit (.bool true)], args := [d1, d2] }
  | _ => none }
def termMatchesSpecRow : OpenClaim := { program := "ythfcaiipcdibbaadoor", sum := "125d0148de71c35c3d6d576ad5f0cf7df0a214d56837171197a7ec7bbdbccd5d", func := "custody/custodylaw15.TermMatchesSpec", spec := "termMatchesSpec", inPlace := ["internal/abi.NoEscape", "internal/bytealg.MakeNoZero"], unfollowed := true, recurses := true, named := ["internal/strconv.uint64pow10", "math/bits.deBruijn32tab", "math/bits.deBruijn64tab"], loops := true, apart := false, laid := [("math/bits.deBruijn32tab", laid_math_bits_deBruijn32tab), ("math/bits.deBruijn64tab", laid_math_bits_deBruijn64tab), ("internal/strconv.uint64pow10", laid_internal_strconv_uint64pow10)] }
def TermMatchesSpecSaid : Prop := termMatchesSpecRow.holds Tryd.pinned (OpenSpec.ofChange termMatchesSpecSpec)

/-- ITS FALSE NEIGHBOUR: 'it returns false'. Refute it at one input. -/
def termMatchesSpecWrong : ChangeSpec := { name := "termMatchesSpec", fn := fun _ => fun
  | [d1, d2] => { results := [.lit (.bool false)], args := [d1, d2] }
  | _ => none }
def TermMatchesSpecWrongFalsely : Prop := termMatchesSpecRow.holds Tryd.pinned (OpenSpec.ofChange termMatchesSpecWrong)

/-- 'custodylaw15.TermTexts': WHATEVER THE INPUT: true; the input reads as it did. -/
def termTextsSpec : ChangeSpec := { name := "termTexts", fn := fun _ => fun
  | [d1, d2] => { results := [.lit (.bool true)], args := [d1, d2] }
  | _ => none }
def termTextsRow : OpenClaim := { program := "ythfcaiipcdibbaadoor", sum := "125d0148de71c35c3d6d576ad5f0cf7df0a214d56837171197a7ec7bbdbccd5d", func := "custody/custodylaw15.TermTexts", spec := "termTexts", inPlace := ["internal/abi.NoEscape", "internal/bytealg.MakeNoZero"], unfollowed := true, recurses := true, named := ["internal/strconv.uint64pow10", "math/bits.deBruijn32tab", "math/bits.deBruijn64tab"], loops := true, apart := false, laid := [("math/bits.deBruijn32tab", laid_math_bits_deBruijn32tab), ("math/bits.deBruijn64tab", laid_math_bits_deBruijn64tab), ("internal/strconv.uint64pow10", laid_internal_strconv_uint64pow10)] }
def TermTextsSaid : Prop := termTextsRow.holds Tryd.pinned (OpenSpec.ofChange termTextsSpec)

/-- ITS FALSE NEIGHBOUR: 'it returns false'. Refute it at one input. -/
def termTextsWrong : ChangeSpec := { name := "termTexts", fn := fun _ => fun
  | [d1, d2] => { results := [.lit (.bool false)], args := [d1, d2] }
  | _ => none }
def TermTextsWrongFalsely : Prop := termTextsRow.holds Tryd.pinned (OpenSpec.ofChange termTextsWrong)

/-- 'custodylaw15.TermClosesAsSpecified': WHATEVER THE INPUT: true; the input reads as it did. -/
def termClosesAsSpecifiedSpec : ChangeSpec := { name := "termClosesAsSpecified", fn := fun _ => fun
  | [d1, d2] => { results := [.lit (.bool true)], args := [d1, d2] }
  | _ => none }
def termClosesAsSpecifiedRow : OpenClaim := { program := "ythfcaiipcdibbaadoor", sum := "125d0148de71c35c3d6d576ad5f0cf7df0a214d56837171197a7ec7bbdbccd5d", func := "custody/custodylaw15.TermClosesAsSpecified", spec := "termClosesAsSpecified", inPlace := ["internal/abi.NoEscape", "internal/bytealg.MakeNoZero"], unfollowed := true, recurses := true, named := ["internal/strconv.uint64pow10", "math/bits.deBruijn32tab", "math/bits.deBruijn64tab"], loops := true, apart := false, laid := [("math/bits.deBruijn32tab", laid_math_bits_deBruijn32tab), ("math/bits.deBruijn64tab", laid_math_bits_deBruijn64tab), ("internal/strconv.uint64pow10", laid_internal_strconv_uint64pow10)] }
def TermClosesAsSpecifiedSaid : Prop := termClosesAsSpecifiedRow.holds Tryd.pinned (OpenSpec.ofChange termClosesAsSpecifiedSpec)

/-- ITS FALSE NEIGHBOUR: 'it returns false'. Refute it at one input. -/
def termClosesAsSpecifiedWrong : ChangeSpec := { name := "termClosesAsSpecified", fn := fun _ => fun
  | [d1, d2] => { results := [.lit (.bool false)], args := [d1, d2] }
  | _ => none }
def TermClosesAsSpecifiedWrongFalsely : Prop := termClosesAsSpecifiedRow.holds Tryd.pinned (OpenSpec.ofChange termClosesAsSpecifiedWrong)

/-- 'custodylaw15.TermMonotone': WHATEVER THE INPUT: true; the input reads as it did. -/
def termMonotoneSpec : ChangeSpec := { name := "termMonotone", fn := fun _ => fun
  | [d1, d2, d3] => { results := [.lit (.bool true)], args := [d1, d2, d3] }
  | _ => none }
def termMonotoneRow : OpenClaim := { program := "ythfcaiipcdibbaadoor", sum := "125d0148de71c35c3d6d576ad5f0cf7df0a214d56837171197a7ec7bbdbccd5d", func := "custody/custodylaw15.TermMonotone", spec := "termMonotone", inPlace := ["internal/abi.NoEscape", "internal/bytealg.MakeNoZero"], unfollowed := true, recurses := true, named := ["internal/strconv.uint64pow10", "math/bits.deBruijn32tab", "math/bits.deBruijn64tab"], loops := true, apart := false, laid := [("math/bits.deBruijn32tab", laid_math_bits_deBruijn32tab), ("math/bits.deBruijn64tab", laid_math_bits_deBruijn64tab), ("internal/strconv.uint64pow10", laid_internal_strconv_uint64pow10)] }
def TermMonotoneSaid : Prop := termMonotoneRow.holds Tryd.pinned (OpenSpec.ofChange termMonotoneSpec)

/-- ITS FALSE NEIGHBOUR: 'it returns false'. Refute it at one input. -/
def termMonotoneWrong : ChangeSpec := { name := "termMonotone", fn := fun _ => fun
  | [d1, d2, d3] => { results := [.lit (.bool false)], args := [d1, d2, d3] }
  | _ => none }
def TermMonotoneWrongFalsely : Prop := termMonotoneRow.holds Tryd.pinned (OpenSpec.ofChange termMonotoneWrong)

/-- 'custodylaw15.TermCut': WHATEVER THE INPUT: true; the input reads as it did. -/
def termCutSpec : ChangeSpec := { name := "termCut", fn := fun _ => fun
  | [d1, d2, d3] => { results := [.lit (.bool true)], args := [d1, d2, d3] }
  | _ => none }
def termCutRow : OpenClaim := { program := "ythfcaiipcdibbaadoor", sum := "125d0148de71c35c3d6d576ad5f0cf7df0a214d56837171197a7ec7bbdbccd5d", func := "custody/custodylaw15.TermCut", spec := "termCut", inPlace := ["internal/abi.NoEscape", "internal/bytealg.MakeNoZero"], unfollowed := true, recurses := true, named := ["internal/strconv.uint64pow10", "math/bits.deBruijn32tab", "math/bits.deBruijn64tab"], loops := true, apart := false, laid := [("math/bits.deBruijn32tab", laid_math_bits_deBruijn32tab), ("math/bits.deBruijn64tab", laid_math_bits_deBruijn64tab), ("internal/strconv.uint64pow10", laid_internal_strconv_uint64pow10)] }
def TermCutSaid : Prop := termCutRow.holds Tryd.pinned (OpenSpec.ofChange termCutSpec)

/-- ITS FALSE NEIGHBOUR: 'it returns false'. Refute it at one input. -/
def termCutWrong : ChangeSpec := { name := "termCut", fn := fun _ => fun
  | [d1, d2, d3] => { results := [.lit (.bool false)], args := [d1, d2, d3] }
  | _ => none }
def TermCutWrongFalsely : Prop := termCutRow.holds Tryd.pinned (OpenSpec.ofChange termCutWrong)

/-- 'custodylaw15.TermLocal': WHATEVER THE INPUT: true; the input reads as it did. -/
def termLocalSpec : ChangeSpec := { name := "termLocal", fn := fun _ => fun
  | [d1, d2] => { results := [.lit (.bool true)], args := [d1, d2] }
  | _ => none }
def termLocalRow : OpenClaim := { program := "ythfcaiipcdibbaadoor", sum := "125d0148de71c35c3d6d576ad5f0cf7df0a214d56837171197a7ec7bbdbccd5d", func := "custody/custodylaw15.TermLocal", spec := "termLocal", inPlace := ["internal/abi.NoEscape", "internal/bytealg.MakeNoZero"], unfollowed := true, recurses := true, named := ["internal/strconv.uint64pow10", "math/bits.deBruijn32tab", "math/bits.deBruijn64tab"], loops := true, apart := false, laid := [("math/bits.deBruijn32tab", laid_math_bits_deBruijn32tab), ("math/bits.deBruijn64tab", laid_math_bits_deBruijn64tab), ("internal/strconv.uint64pow10", laid_internal_strconv_uint64pow10)] }
def TermLocalSaid : Prop := termLocalRow.holds Tryd.pinned (OpenSpec.ofChange termLocalSpec)

/-- ITS FALSE NEIGHBOUR: 'it returns false'. Refute it at one input. -/
def termLocalWrong : ChangeSpec := { name := "termLocal", fn := fun _ => fun
  | [d1, d2] => { results := [.lit (.bool false)], args := [d1, d2] }
  | _ => none }
def TermLocalWrongFalsely : Prop := termLocalRow.holds Tryd.pinned (OpenSpec.ofChange termLocalWrong)

/-- 'custodylaw15.TermBuilds': WHATEVER THE INPUT: true; the input reads as it did. -/
def termBuildsSpec : ChangeSpec := { name := "termBuilds", fn := fun _ => fun
  | [d1, d2, d3, d4] => { results := [.lit (.bool true)], args := [d1, d2, d3, d4] }
  | _ => none }
def termBuildsRow : OpenClaim := { program := "ythfcaiipcdibbaadoor", sum := "125d0148de71c35c3d6d576ad5f0cf7df0a214d56837171197a7ec7bbdbccd5d", func := "custody/custodylaw15.TermBuilds", spec := "termBuilds", inPlace := ["internal/abi.NoEscape", "internal/bytealg.MakeNoZero"], unfollowed := true, recurses := true, named := ["internal/strconv.uint64pow10", "math/bits.deBruijn32tab", "math/bits.deBruijn64tab"], loops := true, apart := false, laid := [("math/bits.deBruijn32tab", laid_math_bits_deBruijn32tab), ("math/bits.deBruijn64tab", laid_math_bits_deBruijn64tab), ("internal/strconv.uint64pow10", laid_internal_strconv_uint64pow10)] }
def TermBuildsSaid : Prop := termBuildsRow.holds Tryd.pinned (OpenSpec.ofChange termBuildsSpec)

/-- ITS FALSE NEIGHBOUR: 'it returns false'. Refute it at one input. -/
def termBuildsWrong : ChangeSpec := { name := "termBuilds", fn := fun _ => fun
  | [d1, d2, d3, d4] => { results := [.lit (.bool false)], args := [d1, d2, d3, d4] }
  | _ => none }
def TermBuildsWrongFalsely : Prop := termBuildsRow.holds Tryd.pinned (OpenSpec.ofChange termBuildsWrong)

/- THE SECOND FORM. 'bulk': how many values and letters a reading holds, each counted each time it is reached (what is shared counts as often as it is met; a slice's spare places count too). A statement '..UptoSaid' is the law's where the arguments, and the package variables that the reading takes, are together of bulk at most 1048576: NARROWER than '..Said'. Prove '..Said' where nothing that the law and all that it calls make is longer than what came in: it says more and counts as full. Else prove '..UptoSaid'. A law counts once. -/
mutual
def uptoBulk {H : Type} : DataW H → Nat
  | .lit (.string bytes) => bytes.length + 1
  | .lit _ => 1
  | .nil => 1
  | .ptr d => uptoBulk d + 1
  | .slice elems spare => uptoBulkAll elems + uptoBulkAll spare + 1
  | .agg parts => uptoBulkAll parts + 1
  | .iface _ d => uptoBulk d + 1
  | .map entries => uptoBulkEntries entries + 1
  | .held _ => 1
def uptoBulkAll {H : Type} : List (DataW H) → Nat
  | [] => 0
  | d :: r => uptoBulk d + uptoBulkAll r
def uptoBulkEntries {H : Type} : List (Lit × DataW H) → Nat
  | [] => 0
  | x :: r => uptoBulkEntry x + uptoBulkEntries r
def uptoBulkEntry {H : Type} : Lit × DataW H → Nat
  | (.string bytes, d) => bytes.length + uptoBulk d + 1
  | (_, d) => uptoBulk d + 1
 end
def uptoSmall : (H : Type) → List (DataW H) → Bool := fun _ ds => decide (uptoBulkAll ds ≤ 1048576)
def OpenSpec.upto (s : _root_.Go.ChangeSpec) : _root_.Go.OpenSpec := { _root_.Go.OpenSpec.ofChange s with cond := some uptoSmall }

/-- 'custodylaw15.TermMatchesSpec', WHERE WHAT IT READS IS OF BULK AT MOST 1048576: true; the input reads as it did. -/
def termMatchesSpecUptoRow : OpenClaim := { program := "ythfcaiipcdibbaadoor", sum := "125d0148de71c35c3d6d576ad5f0cf7df0a214d56837171197a7ec7bbdbccd5d", func := "custody/custodylaw15.TermMatchesSpec", spec := "termMatchesSpec", inPlace := ["internal/abi.NoEscape", "internal/bytealg.MakeNoZero"], unfollowed := true, recurses := true, named := ["internal/strconv.uint64pow10", "math/bits.deBruijn32tab", "math/bits.deBruijn64tab"], loops := true, apart := false, laid := [("math/bits.deBruijn32tab", laid_math_bits_deBruijn32tab), ("math/bits.deBruijn64tab", laid_math_bits_deBruijn64tab), ("internal/strconv.uint64pow10", laid_internal_strconv_uint64pow10)], narrowed := true }
def TermMatchesSpecUptoSaid : Prop := termMatchesSpecUptoRow.holds Tryd.pinned (OpenSpec.upto termMatchesSpecSpec)

/-- 'custodylaw15.TermTexts', WHERE WHAT IT READS IS OF BULK AT MOST 1048576: true; the input reads as it did. -/
def termTextsUptoRow : OpenClaim := { program := "ythfcaiipcdibbaadoor", sum := "125d0148de71c35c3d6d576ad5f0cf7df0a214d56837171197a7ec7bbdbccd5d", func := "custody/custodylaw15.TermTexts", spec := "termTexts", inPlace := ["internal/abi.NoEscape", "internal/bytealg.MakeNoZero"], unfollowed := true, recurses := true, named := ["internal/strconv.uint64pow10", "math/bits.deBruijn32tab", "math/bits.deBruijn64tab"], loops := true, apart := false, laid := [("math/bits.deBruijn32tab", laid_math_bits_deBruijn32tab), ("math/bits.deBruijn64tab", laid_math_bits_deBruijn64tab), ("internal/strconv.uint64pow10", laid_internal_strconv_uint64pow10)], narrowed := true }
def TermTextsUptoSaid : Prop := termTextsUptoRow.holds Tryd.pinned (OpenSpec.upto termTextsSpec)

/-- 'custodylaw15.TermClosesAsSpecified', WHERE WHAT IT READS IS OF BULK AT MOST 1048576: true; the input reads as it did. -/
def termClosesAsSpecifiedUptoRow : OpenClaim := { program := "ythfcaiipcdibbaadoor", sum := "125d0148de71c35c3d6d576ad5f0cf7df0a214d56837171197a7ec7bbdbccd5d", func := "custody/custodylaw15.TermClosesAsSpecified", spec := "termClosesAsSpecified", inPlace := ["internal/abi.NoEscape", "internal/bytealg.MakeNoZero"], unfollowed := true, recurses := true, named := ["internal/strconv.uint64pow10", "math/bits.deBruijn32tab", "math/bits.deBruijn64tab"], loops := true, apart := false, laid := [("math/bits.deBruijn32tab", laid_math_bits_deBruijn32tab), ("math/bits.deBruijn64tab", laid_math_bits_deBruijn64tab), ("internal/strconv.uint64pow10", laid_internal_strconv_uint64pow10)], narrowed := true }
def TermClosesAsSpecifiedUptoSaid : Prop := termClosesAsSpecifiedUptoRow.holds Tryd.pinned (OpenSpec.upto termClosesAsSpecifiedSpec)

/-- 'custodylaw15.TermMonotone', WHERE WHAT IT READS IS OF BULK AT MOST 1048576: true; the input reads as it did. -/
def termMonotoneUptoRow : OpenClaim := { program := "ythfcaiipcdibbaadoor", sum := "125d0148de71c35c3d6d576ad5f0cf7df0a214d56837171197a7ec7bbdbccd5d", func := "custody/custodylaw15.TermMonotone", spec := "termMonotone", inPlace := ["internal/abi.NoEscape", "internal/bytealg.MakeNoZero"], unfollowed := true, recurses := true, named := ["internal/strconv.uint64pow10", "math/bits.deBruijn32tab", "math/bits.deBruijn64tab"], loops := true, apart := false, laid := [("math/bits.deBruijn32tab", laid_math_bits_deBruijn32tab), ("math/bits.deBruijn64tab", laid_math_bits_deBruijn64tab), ("internal/strconv.uint64pow10", laid_internal_strconv_uint64pow10)], narrowed := true }
def TermMonotoneUptoSaid : Prop := termMonotoneUptoRow.holds Tryd.pinned (OpenSpec.upto termMonotoneSpec)

/-- 'custodylaw15.TermCut', WHERE WHAT IT READS IS OF BULK AT MOST 1048576: true; the input reads as it did. -/
def termCutUptoRow : OpenClaim := { program := "ythfcaiipcdibbaadoor", sum := "125d0148de71c35c3d6d576ad5f0cf7df0a214d56837171197a7ec7bbdbccd5d", func := "custody/custodylaw15.TermCut", spec := "termCut", inPlace := ["internal/abi.NoEscape", "internal/bytealg.MakeNoZero"], unfollowed := true, recurses := true, named := ["internal/strconv.uint64pow10", "math/bits.deBruijn32tab", "math/bits.deBruijn64tab"], loops := true, apart := false, laid := [("math/bits.deBruijn32tab", laid_math_bits_deBruijn32tab), ("math/bits.deBruijn64tab", laid_math_bits_deBruijn64tab), ("internal/strconv.uint64pow10", laid_internal_strconv_uint64pow10)], narrowed := true }
def TermCutUptoSaid : Prop := termCutUptoRow.holds Tryd.pinned (OpenSpec.upto termCutSpec)

/-- 'custodylaw15.TermLocal', WHERE WHAT IT READS IS OF BULK AT MOST 1048576: true; the input reads as it did. -/
def termLocalUptoRow : OpenClaim := { program := "ythfcaiipcdibbaadoor", sum := "125d0148de71c35c3d6d576ad5f0cf7df0a214d56837171197a7ec7bbdbccd5d", func := "custody/custodylaw15.TermLocal", spec := "termLocal", inPlace := ["internal/abi.NoEscape", "internal/bytealg.MakeNoZero"], unfollowed := true, recurses := true, named := ["internal/strconv.uint64pow10", "math/bits.deBruijn32tab", "math/bits.deBruijn64tab"], loops := true, apart := false, laid := [("math/bits.deBruijn32tab", laid_math_bits_deBruijn32tab), ("math/bits.deBruijn64tab", laid_math_bits_deBruijn64tab), ("internal/strconv.uint64pow10", laid_internal_strconv_uint64pow10)], narrowed := true }
def TermLocalUptoSaid : Prop := termLocalUptoRow.holds Tryd.pinned (OpenSpec.upto termLocalSpec)

/-- 'custodylaw15.TermBuilds', WHERE WHAT IT READS IS OF BULK AT MOST 1048576: true; the input reads as it did. -/
def termBuildsUptoRow : OpenClaim := { program := "ythfcaiipcdibbaadoor", sum := "125d0148de71c35c3d6d576ad5f0cf7df0a214d56837171197a7ec7bbdbccd5d", func := "custody/custodylaw15.TermBuilds", spec := "termBuilds", inPlace := ["internal/abi.NoEscape", "internal/bytealg.MakeNoZero"], unfollowed := true, recurses := true, named := ["internal/strconv.uint64pow10", "math/bits.deBruijn32tab", "math/bits.deBruijn64tab"], loops := true, apart := false, laid := [("math/bits.deBruijn32tab", laid_math_bits_deBruijn32tab), ("math/bits.deBruijn64tab", laid_math_bits_deBruijn64tab), ("internal/strconv.uint64pow10", laid_internal_strconv_uint64pow10)], narrowed := true }
def TermBuildsUptoSaid : Prop := termBuildsUptoRow.holds Tryd.pinned (OpenSpec.upto termBuildsSpec)

end Rows
end Go.Proofs.YthfcaiipcdibbaaDoor
