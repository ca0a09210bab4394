/-
  NARROWER THAN 'FOR EVERY INPUT', by the rows' own cells (each row's printed sentence says how): SchemeOf: loops, laid · SchemeInst: loops, laid · SchemeMore: loops, laid · SchemeStands: loops, laid · SchemeOrder: loops, laid.
  DERIVED. THE GIVEN ROWS OF THIS SEAT. 5 by the template 'for every input the law returns true; each argument reads behind the call as it read before'; 0 by the template 'total and deterministic' (their statements: YtobelgghegmhhaaGreatDoorTotals.lean).
  GIVEN WITH THE SEED: the statements are not yours to turn. If you find one false, say at which input.
  Laid BY PROGRAM, IN A SANDBOX (cutbox-rows.mjs): the forced cells as the released guide's own fill.sh prints them over the translation cbab8ec5e38dfb8b… (all of the seat's roots in one cut). By AI agents, Wed Nov 11 2026. No macro, syntax, notation, axiom, sorry.
-/
import Derived.Test.YtobelgghegmhhaaGreatDoorChecked
import GoSem.Claim
import GoSem.ClaimJoined
import GoSem.ClaimMapViews
import Derived.JoinedTies
import Derived.KernelRfl
namespace Go.Proofs.YtobelgghegmhhaaGreatDoor
/- THE CELL 'sum', in the pinned program and in every row, IS THE sha256 OF THE DUMP (.gsa) THAT YtobelgghegmhhaaGreatDoorProg.lean LOADS. Nothing in Lean hashes anything: it is a label: what it is worth is what the hold of that sum in a sandbox is worth. -/
noncomputable def Tryz.pinned : Pinned := { name := "ytobelgghegmhhaagreatdoor", sum := "cbab8ec5e38dfb8b05c850819413fdadf9ac7e7e2be3283070f5fce1f6e9bb7d", checked := Tryz.checked }
namespace Rows
def none {H : Type} : Left H := { results := [], args := [] }

/- WHAT THE LISTED PACKAGE-LEVEL VARIABLES READ AS WHEN THE CALL BEGINS. Each datum BY PROGRAM (the guide's laid-datum.mjs) off the statement by which the dump's own 'gosem.cut.vars' lays the variable. In a bare row this is a premise. The card (YtobelgghegmhhaaGreatDoorCards.lean) ties it to the program's text. -/
def laid_math_bits_deBruijn32tab {H : Type} : DataW H := .agg [.lit (.int .u8 0), .lit (.int .u8 1), .lit (.int .u8 28), .lit (.int .u8 2), .lit (.int .u8 29), .lit (.int .u8 14), .lit (.int .u8 24), .lit (.int .u8 3), .lit (.int .u8 30), .lit (.int .u8 22), .lit (.int .u8 20), .lit (.int .u8 15), .lit (.int .u8 25), .lit (.int .u8 17), .lit (.int .u8 4), .lit (.int .u8 8), .lit (.int .u8 31), .lit (.int .u8 27), .lit (.int .u8 13), .lit (.int .u8 23), .lit (.int .u8 21), .lit (.int .u8 19), .lit (.int .u8 16), .lit (.int .u8 7), .lit (.int .u8 26), .lit (.int .u8 12), .lit (.int .u8 18), .lit (.int .u8 6), .lit (.int .u8 11), .lit (.int .u8 5), .lit (.int .u8 10), .lit (.int .u8 9)]
def laid_math_bits_deBruijn64tab {H : Type} : DataW H := .agg [.lit (.int .u8 0), .lit (.int .u8 1), .lit (.int .u8 56), .lit (.int .u8 2), .lit (.int .u8 57), .lit (.int .u8 49), .lit (.int .u8 28), .lit (.int .u8 3), .lit (.int .u8 61), .lit (.int .u8 58), .lit (.int .u8 42), .lit (.int .u8 50), .lit (.int .u8 38), .lit (.int .u8 29), .lit (.int .u8 17), .lit (.int .u8 4), .lit (.int .u8 62), .lit (.int .u8 47), .lit (.int .u8 59), .lit (.int .u8 36), .lit (.int .u8 45), .lit (.int .u8 43), .lit (.int .u8 51), .lit (.int .u8 22), .lit (.int .u8 53), .lit (.int .u8 39), .lit (.int .u8 33), .lit (.int .u8 30), .lit (.int .u8 24), .lit (.int .u8 18), .lit (.int .u8 12), .lit (.int .u8 5), .lit (.int .u8 63), .lit (.int .u8 55), .lit (.int .u8 48), .lit (.int .u8 27), .lit (.int .u8 60), .lit (.int .u8 41), .lit (.int .u8 37), .lit (.int .u8 16), .lit (.int .u8 46), .lit (.int .u8 35), .lit (.int .u8 44), .lit (.int .u8 21), .lit (.int .u8 52), .lit (.int .u8 32), .lit (.int .u8 23), .lit (.int .u8 11), .lit (.int .u8 54), .lit (.int .u8 26), .lit (.int .u8 40), .lit (.int .u8 15), .lit (.int .u8 34), .lit (.int .u8 20), .lit (.int .u8 31), .lit (.int .u8 10), .lit (.int .u8 25), .lit (.int .u8 14), .lit (.int .u8 19), .lit (.int .u8 9), .lit (.int .u8 13), .lit (.int .u8 8), .lit (.int .u8 7), .lit (.int .u8 6)]
def laid_internal_strconv_uint64pow10 {H : Type} : DataW H := .agg [.lit (.int .u64 1), .lit (.int .u64 10), .lit (.int .u64 100), .lit (.int .u64 1000), .lit (.int .u64 10000), .lit (.int .u64 100000), .lit (.int .u64 1000000), .lit (.int .u64 10000000), .lit (.int .u64 100000000), .lit (.int .u64 1000000000), .lit (.int .u64 10000000000), .lit (.int .u64 100000000000), .lit (.int .u64 1000000000000), .lit (.int .u64 10000000000000), .lit (.int .u64 100000000000000), .lit (.int .u64 1000000000000000), .lit (.int .u64 10000000000000000), .lit (.int .u64 100000000000000000), .lit (.int .u64 1000000000000000000), .lit (.int .u64 10000000000000000000)]
def laid_camlet_lex_words {H : Type} : DataW H := .agg [.lit (.string [97, 110, 100]), .lit (.string [97, 110, 100, 97, 108, 115, 111]), .lit (.string [97, 115]), .lit (.string [99, 97, 115, 101]), .lit (.string [100, 97, 116, 97, 116, 121, 112, 101]), .lit (.string [100, 105, 118]), .lit (.string [101, 108, 115, 101]), .lit (.string [101, 110, 100]), .lit (.string [101, 120, 99, 101, 112, 116, 105, 111, 110]), .lit (.string [102, 110]), .lit (.string [102, 117, 110]), .lit (.string [104, 97, 110, 100, 108, 101]), .lit (.string [105, 102]), .lit (.string [105, 110]), .lit (.string [108, 101, 116]), .lit (.string [109, 111, 100]), .lit (.string [111, 102]), .lit (.string [111, 114, 101, 108, 115, 101]), .lit (.string [112, 114, 105, 110, 116]), .lit (.string [114, 97, 105, 115, 101]), .lit (.string [114, 101, 97, 100]), .lit (.string [114, 101, 102]), .lit (.string [116, 104, 101, 110]), .lit (.string [118, 97, 108])]
def laid_camlet_lex_signs {H : Type} : DataW H := .agg [.lit (.string [33]), .lit (.string [40]), .lit (.string [41]), .lit (.string [42]), .lit (.string [43]), .lit (.string [44]), .lit (.string [45]), .lit (.string [45, 62]), .lit (.string [58]), .lit (.string [58, 61]), .lit (.string [59]), .lit (.string [60]), .lit (.string [60, 61]), .lit (.string [60, 62]), .lit (.string [61]), .lit (.string [61, 62]), .lit (.string [95]), .lit (.string [124]), .lit (.string [126])]

/-- 'camletlaw10.SchemeOf': WHATEVER THE INPUT: true; the input reads as it did. -/
def schemeOfSpec : ChangeSpec := { name := "schemeOf", fn := fun _ => fun
  | [d1, d2, d3] => { results := [.lit (.bool true)], args := [d1, d2, d3] }
  | _ => none }
def schemeOfRow : OpenClaim := { program := "ytobelgghegmhhaagreatdoor", sum := "cbab8ec5e38dfb8b05c850819413fdadf9ac7e7e2be3283070f5fce1f6e9bb7d", func := "camlet/camletlaw10.SchemeOf", spec := "schemeOf", inPlace := ["internal/bytealg.IndexByteString", "internal/bytealg.IndexString", "internal/abi.NoEscape"], unfollowed := true, recurses := true, named := ["internal/bytealg.MaxLen", "camlet/lex.words", "camlet/lex.signs", "internal/strconv.uint64pow10", "math/bits.deBruijn32tab", "math/bits.deBruijn64tab"], loops := true, apart := false, laid := [("math/bits.deBruijn32tab", laid_math_bits_deBruijn32tab), ("math/bits.deBruijn64tab", laid_math_bits_deBruijn64tab), ("internal/strconv.uint64pow10", laid_internal_strconv_uint64pow10), ("camlet/lex.words", laid_camlet_lex_words), ("camlet/lex.signs", laid_camlet_lex_signs)] }
def SchemeOfSaid : Prop := schemeOfRow.holds Tryz.pinned (OpenSpec.ofChange schemeOfSpec)

/-- ITS FALSE NEIGHBOUR: 'it returns false'. Refute it at one input. -/
def schemeOfWrong : ChangeSpec := { name := "schemeOf", fn := fun _ => fun
  | [d1, d2, d3] => { results := [.lit (.bool false)], args := [d1, d2, d3] }
  | _ => none }
def SchemeOfWrongFalsely : Prop := schemeOfRow.holds Tryz.pinned (OpenSpec.ofChange schemeOfWrong)

/-- 'camletlaw10.SchemeInst': WHATEVER THE INPUT: true; the input reads as it did. -/
def schemeInstSpec : ChangeSpec := { name := "schemeInst", fn := fun _ => fun
  | [d1, d2] => { results := [.lit (.bool true)], args := [d1, d2] }
  | _ => none }
def schemeInstRow : OpenClaim := { program := "ytobelgghegmhhaagreatdoor", sum := "cbab8ec5e38dfb8b05c850819413fdadf9ac7e7e2be3283070f5fce1f6e9bb7d", func := "camlet/camletlaw10.SchemeInst", spec := "schemeInst", inPlace := ["internal/bytealg.IndexByteString", "internal/bytealg.IndexString", "internal/abi.NoEscape"], unfollowed := true, recurses := true, named := ["internal/bytealg.MaxLen", "camlet/lex.words", "camlet/lex.signs", "internal/strconv.uint64pow10", "math/bits.deBruijn32tab", "math/bits.deBruijn64tab"], loops := true, apart := false, laid := [("math/bits.deBruijn32tab", laid_math_bits_deBruijn32tab), ("math/bits.deBruijn64tab", laid_math_bits_deBruijn64tab), ("internal/strconv.uint64pow10", laid_internal_strconv_uint64pow10), ("camlet/lex.words", laid_camlet_lex_words), ("camlet/lex.signs", laid_camlet_lex_signs)] }
def SchemeInstSaid : Prop := schemeInstRow.holds Tryz.pinned (OpenSpec.ofChange schemeInstSpec)

/-- ITS FALSE NEIGHBOUR: 'it returns false'. Refute it at one input. -/
def schemeInstWrong : ChangeSpec := { name := "schemeInst", fn := fun _ => fun
  | [d1, d2] => { results := [.lit (.bool false)], args := [d1, d2] }
  | _ => none }
def SchemeInstWrongFalsely : Prop := schemeInstRow.holds Tryz.pinned (OpenSpec.ofChange schemeInstWrong)

/-- 'camletlaw10.SchemeMore': WHATEVER THE INPUT: true; the input reads as it did. -/
def schemeMoreSpec : ChangeSpec := { name := "schemeMore", fn := fun _ => fun
  | [d1, d2] => { results := [.lit (.bool true)], args := [d1, d2] }
  | _ => none }
def schemeMoreRow : OpenClaim := { program := "ytobelgghegmhhaagreatdoor", sum := "cbab8ec5e38dfb8b05c850819413fdadf9ac7e7e2be3283070f5fce1f6e9bb7d", func := "camlet/camletlaw10.SchemeMore", spec := "schemeMore", inPlace := ["internal/bytealg.IndexByteString", "internal/bytealg.IndexString", "internal/abi.NoEscape"], unfollowed := true, recurses := true, named := ["internal/bytealg.MaxLen", "camlet/lex.words", "camlet/lex.signs", "internal/strconv.uint64pow10", "math/bits.deBruijn32tab", "math/bits.deBruijn64tab"], loops := true, apart := false, laid := [("math/bits.deBruijn32tab", laid_math_bits_deBruijn32tab), ("math/bits.deBruijn64tab", laid_math_bits_deBruijn64tab), ("internal/strconv.uint64pow10", laid_internal_strconv_uint64pow10), ("camlet/lex.words", laid_camlet_lex_words), ("camlet/lex.signs", laid_camlet_lex_signs)] }
def SchemeMoreSaid : Prop := schemeMoreRow.holds Tryz.pinned (OpenSpec.ofChange schemeMoreSpec)

/-- ITS FALSE NEIGHBOUR: 'it returns false'. Refute it at one input. -/
def schemeMoreWrong : ChangeSpec := { name := "schemeMore", fn := fun _ => fun
  | [d1, d2] => { results := [.lit (.bool false)], args := [d1, d2] }
  | _ => none }
def SchemeMoreWrongFalsely : Prop := schemeMoreRow.holds Tryz.pinned (OpenSpec.ofChange schemeMoreWrong)

/-- 'camletlaw10.SchemeStands': WHATEVER THE INPUT: true; the input reads as it did. -/
def schemeStandsSpec : ChangeSpec := { name := "schemeStands", fn := fun _ => fun
  | [d1, d2] => { results := [.lit (.bool true)], args := [d1, d2] }
  | _ => none }
def schemeStandsRow : OpenClaim := { program := "ytobelgghegmhhaagreatdoor", sum := "cbab8ec5e38dfb8b05c850819413fdadf9ac7e7e2be3283070f5fce1f6e9bb7d", func := "camlet/camletlaw10.SchemeStands", spec := "schemeStands", inPlace := ["internal/bytealg.IndexByteString", "internal/bytealg.IndexString", "internal/abi.NoEscape"], unfollowed := true, recurses := true, named := ["internal/bytealg.MaxLen", "camlet/lex.words", "camlet/lex.signs", "internal/strconv.uint64pow10", "math/bits.deBruijn32tab", "math/bits.deBruijn64tab"], loops := true, apart := false, laid := [("math/bits.deBruijn32tab", laid_math_bits_deBruijn32tab), ("math/bits.deBruijn64tab", laid_math_bits_deBruijn64tab), ("internal/strconv.uint64pow10", laid_internal_strconv_uint64pow10), ("camlet/lex.words", laid_camlet_lex_words), ("camlet/lex.signs", laid_camlet_lex_signs)] }
def SchemeStandsSaid : Prop := schemeStandsRow.holds Tryz.pinned (OpenSpec.ofChange schemeStandsSpec)

/-- ITS FALSE NEIGHBOUR: 'it returns false'. Refute it at one input. -/
def schemeStandsWrong : ChangeSpec := { name := "schemeStands", fn := fun _ => fun
  | [d1, d2] => { results := [.lit (.bool false)], args := [d1, d2] }
  | _ => none }
def SchemeStandsWrongFalsely : Prop := schemeStandsRow.holds Tryz.pinned (OpenSpec.ofChange schemeStandsWrong)

/-- 'camletlaw10.SchemeOrder': WHATEVER THE INPUT: true; the input reads as it did. -/
def schemeOrderSpec : ChangeSpec := { name := "schemeOrder", fn := fun _ => fun
  | [d1, d2, d3] => { results := [.lit (.bool true)], args := [d1, d2, d3] }
  | _ => none }
def schemeOrderRow : OpenClaim := { program := "ytobelgghegmhhaagreatdoor", sum := "cbab8ec5e38dfb8b05c850819413fdadf9ac7e7e2be3283070f5fce1f6e9bb7d", func := "camlet/camletlaw10.SchemeOrder", spec := "schemeOrder", inPlace := ["internal/bytealg.IndexByteString", "internal/bytealg.IndexString", "internal/abi.NoEscape"], unfollowed := true, recurses := true, named := ["internal/bytealg.MaxLen", "camlet/lex.words", "camlet/lex.signs", "internal/strconv.uint64pow10", "math/bits.deBruijn32tab", "math/bits.deBruijn64tab"], loops := true, apart := false, laid := [("math/bits.deBruijn32tab", laid_math_bits_deBruijn32tab), ("math/bits.deBruijn64tab", laid_math_bits_deBruijn64tab), ("internal/strconv.uint64pow10", laid_internal_strconv_uint64pow10), ("camlet/lex.words", laid_camlet_lex_words), ("camlet/lex.signs", laid_camlet_lex_signs)] }
def SchemeOrderSaid : Prop := schemeOrderRow.holds Tryz.pinned (OpenSpec.ofChange schemeOrderSpec)

/-- ITS FALSE NEIGHBOUR: 'it returns false'. Refute it at one input. -/
def schemeOrderWrong : ChangeSpec := { name := "schemeOrder", fn := fun _ => fun
  | [d1, d2, d3] => { results := [.lit (.bool false)], args := [d1, d2, d3] }
  | _ => none }
def SchemeOrderWrongFalsely : Prop := schemeOrderRow.holds Tryz.pinned (OpenSpec.ofChange schemeOrderWrong)

/- THE SECOND FORM. 'bulk': how many values and letters a reading holds, each counted each time it is reached (what is shared counts as often as it is met; a slice's spare places count too). A statement '..UptoSaid' is the law's where the arguments, and the package variables that the reading takes, are together of bulk at most 1048576: NARROWER than '..Said'. Prove '..Said' where nothing that the law and all that it calls make is longer than what came in: it says more and counts as full. Else prove '..UptoSaid'. A law counts once. -/
mutual
def uptoBulk {H : Type} : DataW H → Nat
  | .lit (.string bytes) => bytes.length + 1
  | .lit _ => 1
  | .nil => 1
  | .ptr d => uptoBulk d + 1
  | .slice elems spare => uptoBulkAll elems + uptoBulkAll spare + 1
  | .agg parts => uptoBulkAll parts + 1
  | .iface _ d => uptoBulk d + 1
  | .map entries => uptoBulkEntries entries + 1
  | .held _ => 1
def uptoBulkAll {H : Type} : List (DataW H) → Nat
  | [] => 0
  | d :: r => uptoBulk d + uptoBulkAll r
def uptoBulkEntries {H : Type} : List (Lit × DataW H) → Nat
  | [] => 0
  | x :: r => uptoBulkEntry x + uptoBulkEntries r
def uptoBulkEntry {H : Type} : Lit × DataW H → Nat
  | (.string bytes, d) => bytes.length + uptoBulk d + 1
  | (_, d) => uptoBulk d + 1
 end
def uptoSmall : (H : Type) → List (DataW H) → Bool := fun _ ds => decide (uptoBulkAll ds ≤ 1048576)
def OpenSpec.upto (s : _root_.Go.ChangeSpec) : _root_.Go.OpenSpec := { _root_.Go.OpenSpec.ofChange s with cond := some uptoSmall }

/-- 'camletlaw10.SchemeOf', WHERE WHAT IT READS IS OF BULK AT MOST 1048576: true; the input reads as it did. -/
def schemeOfUptoRow : OpenClaim := { program := "ytobelgghegmhhaagreatdoor", sum := "cbab8ec5e38dfb8b05c850819413fdadf9ac7e7e2be3283070f5fce1f6e9bb7d", func := "camlet/camletlaw10.SchemeOf", spec := "schemeOf", inPlace := ["internal/bytealg.IndexByteString", "internal/bytealg.IndexString", "internal/abi.NoEscape"], unfollowed := true, recurses := true, named := ["internal/bytealg.MaxLen", "camlet/lex.words", "camlet/lex.signs", "internal/strconv.uint64pow10", "math/bits.deBruijn32tab", "math/bits.deBruijn64tab"], loops := true, apart := false, laid := [("math/bits.deBruijn32tab", laid_math_bits_deBruijn32tab), ("math/bits.deBruijn64tab", laid_math_bits_deBruijn64tab), ("internal/strconv.uint64pow10", laid_internal_strconv_uint64pow10), ("camlet/lex.words", laid_camlet_lex_words), ("camlet/lex.signs", laid_camlet_lex_signs)], narrowed := true }
def SchemeOfUptoSaid : Prop := schemeOfUptoRow.holds Tryz.pinned (OpenSpec.upto schemeOfSpec)

/-- 'camletlaw10.SchemeInst', WHERE WHAT IT READS IS OF BULK AT MOST 1048576: true; the input reads as it did. -/
def schemeInstUptoRow : OpenClaim := { program := "ytobelgghegmhhaagreatdoor", sum := "cbab8ec5e38dfb8b05c850819413fdadf9ac7e7e2be3283070f5fce1f6e9bb7d", func := "camlet/camletlaw10.SchemeInst", spec := "schemeInst", inPlace := ["internal/bytealg.IndexByteString", "internal/bytealg.IndexString", "internal/abi.NoEscape"], unfollowed := true, recurses := true, named := ["internal/bytealg.MaxLen", "camlet/lex.words", "camlet/lex.signs", "internal/strconv.uint64pow10", "math/bits.deBruijn32tab", "math/bits.deBruijn64tab"], loops := true, apart := false, laid := [("math/bits.deBruijn32tab", laid_math_bits_deBruijn32tab), ("math/bits.deBruijn64tab", laid_math_bits_deBruijn64tab), ("internal/strconv.uint64pow10", laid_internal_strconv_uint64pow10), ("camlet/lex.words", laid_camlet_lex_words), ("camlet/lex.signs", laid_camlet_lex_signs)], narrowed := true }
def SchemeInstUptoSaid : Prop := schemeInstUptoRow.holds Tryz.pinned (OpenSpec.upto schemeInstSpec)

/-- 'camletlaw10.SchemeMore', WHERE WHAT IT READS IS OF BULK AT MOST 1048576: true; the input reads as it did. -/
def schemeMoreUptoRow : OpenClaim := { program := "ytobelgghegmhhaagreatdoor", sum := "cbab8ec5e38dfb8b05c850819413fdadf9ac7e7e2be3283070f5fce1f6e9bb7d", func := "camlet/camletlaw10.SchemeMore", spec := "schemeMore", inPlace := ["internal/bytealg.IndexByteString", "internal/bytealg.IndexString", "internal/abi.NoEscape"], unfollowed := true, recurses := true, named := ["internal/bytealg.MaxLen", "camlet/lex.words", "camlet/lex.signs", "internal/strconv.uint64pow10", "math/bits.deBruijn32tab", "math/bits.deBruijn64tab"], loops := true, apart := false, laid := [("math/bits.deBruijn32tab", laid_math_bits_deBruijn32tab), ("math/bits.deBruijn64tab", laid_math_bits_deBruijn64tab), ("internal/strconv.uint64pow10", laid_internal_strconv_uint64pow10), ("camlet/lex.words", laid_camlet_lex_words), ("camlet/lex.signs", laid_camlet_lex_signs)], narrowed := true }
def SchemeMoreUptoSaid : Prop := schemeMoreUptoRow.holds Tryz.pinned (OpenSpec.upto schemeMoreSpec)

/-- 'camletlaw10.SchemeStands', WHERE WHAT IT READS IS OF BULK AT MOST 1048576: true; the input reads as it did. -/
def schemeStandsUptoRow : OpenClaim := { program := "ytobelgghegmhhaagreatdoor", sum := "cbab8ec5e38dfb8b05c850819413fdadf9ac7e7e2be3283070f5fce1f6e9bb7d", func := "camlet/camletlaw10.SchemeStands", spec := "schemeStands", inPlace := ["internal/bytealg.IndexByteString", "internal/bytealg.IndexString", "internal/abi.NoEscape"], unfollowed := true, recurses := true, named := ["internal/bytealg.MaxLen", "camlet/lex.words", "camlet/lex.signs", "internal/strconv.uint64pow10", "math/bits.deBruijn32tab", "math/bits.deBruijn64tab"], loops := true, apart := false, laid := [("math/bits.deBruijn32tab", laid_math_bits_deBruijn32tab), ("math/bits.deBruijn64tab", laid_math_bits_deBruijn64tab), ("internal/strconv.uint64pow10", laid_internal_strconv_uint64pow10), ("camlet/lex.words", laid_camlet_lex_words), ("camlet/lex.signs", laid_camlet_lex_signs)], narrowed := true }
def SchemeStandsUptoSaid : Prop := schemeStandsUptoRow.holds Tryz.pinned (OpenSpec.upto schemeStandsSpec)

/-- 'camletlaw10.SchemeOrder', WHERE WHAT IT READS IS OF BULK AT MOST 1048576: true; the input reads as it did. -/
def schemeOrderUptoRow : OpenClaim := { program := "ytobelgghegmhhaagreatdoor", sum := "cbab8ec5e38dfb8b05c850819413fdadf9ac7e7e2be3283070f5fce1f6e9bb7d", func := "camlet/camletlaw10.SchemeOrder", spec := "schemeOrder", inPlace := ["internal/bytealg.IndexByteString", "internal/bytealg.IndexString", "internal/abi.NoEscape"], unfollowed := true, recurses := true, named := ["internal/bytealg.MaxLen", "camlet/lex.words", "camlet/lex.signs", "internal/strconv.uint64pow10", "math/bits.deBruijn32tab", "math/bits.deBruijn64tab"], loops := true, apart := false, laid := [("math/bits.deBruijn32tab", laid_math_bits_deBruijn32tab), ("math/bits.deBruijn64tab", laid_math_bits_deBruijn64tab), ("internal/strconv.uint64pow10", laid_internal_strconv_uint64pow10), ("camlet/lex.words", laid_camlet_lex_words), ("camlet/lex.signs", laid_camlet_lex_signs)], narrowed := true }
def SchemeOrderUptoSaid : Prop := schemeOrderUptoRow.holds Tryz.pinned (OpenSpec.upto schemeOrderSpec)

end Rows
end Go.Proofs.YtobelgghegmhhaaGreatDoor
