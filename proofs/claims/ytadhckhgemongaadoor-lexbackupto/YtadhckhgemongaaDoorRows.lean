/-
  NARROWER THAN 'FOR EVERY INPUT', by the rows' own cells (each row's printed sentence says how): LexScans: laid · LexCut: laid · LexTables: laid · LexBack: laid.
  DERIVED. THE GIVEN ROWS OF THIS SEAT. 4 by the template 'for every input the law returns true; each argument reads behind the call as it read before'; 0 by the template 'total and deterministic' (their statements: YtadhckhgemongaaDoorTotals.lean).
  GIVEN WITH THE SEED: the statements are not yours to turn. If you find one false, say at which input.
  Laid BY PROGRAM, IN A SANDBOX (cutbox-rows.mjs): the forced cells as the released guide's own fill.sh prints them over the translation 3c5c26e1f8ce2dd3… (all of the seat's roots in one cut). By AI agents, Wed Nov 11 2026. No macro, syntax, notation, axiom, sorry.
-/
import Derived.Test.YtadhckhgemongaaDoorChecked
import GoSem.Claim
import GoSem.ClaimJoined
import GoSem.ClaimMapViews
import Derived.JoinedTies
import Derived.KernelRfl
namespace Go.Proofs.YtadhckhgemongaaDoor
/- THE CELL 'sum', in the pinned program and in every row, IS THE sha256 OF THE DUMP (.gsa) THAT YtadhckhgemongaaDoorProg.lean LOADS. Nothing in Lean hashes anything: it is a label: what it is worth is what the hold of that sum in a sandbox is worth. -/
noncomputable def Tryd.pinned : Pinned := { name := "ytadhckhgemongaadoor", sum := "3c5c26e1f8ce2dd3c440b07dd90d7d38c6fd7af6e9f3cb7c654c27f92526da52", checked := Tryd.checked }
namespace Rows
def none {H : Type} : Left H := { results := [], args := [] }

/- WHAT THE LISTED PACKAGE-LEVEL VARIABLES READ AS WHEN THE CALL BEGINS. Each datum BY PROGRAM (the guide's laid-datum.mjs) off the statement by which the dump's own 'gosem.cut.vars' lays the variable. In a bare row this is a premise. The card (YtadhckhgemongaaDoorCards.lean) ties it to the program's text. -/
def laid_camlet_lex_words {H : Type} : DataW H := .agg [.lit (.string [97, 110, 100]), .lit (.string [97, 110, 100, 97, 108, 115, 111]), .lit (.string [97, 115]), .lit (.string [99, 97, 115, 101]), .lit (.string [100, 97, 116, 97, 116, 121, 112, 101]), .lit (.string [100, 105, 118]), .lit (.string [101, 108, 115, 101]), .lit (.string [101, 110, 100]), .lit (.string [101, 120, 99, 101, 112, 116, 105, 111, 110]), .lit (.string [102, 110]), .lit (.string [102, 117, 110]), .lit (.string [104, 97, 110, 100, 108, 101]), .lit (.string [105, 102]), .lit (.string [105, 110]), .lit (.string [108, 101, 116]), .lit (.string [109, 111, 100]), .lit (.string [111, 102]), .lit (.string [111, 114, 101, 108, 115, 101]), .lit (.string [112, 114, 105, 110, 116]), .lit (.string [114, 97, 105, 115, 101]), .lit (.string [114, 101, 97, 100]), .lit (.string [114, 101, 102]), .lit (.string [116, 104, 101, 110]), .lit (.string [118, 97, 108])]
def laid_camlet_lex_signs {H : Type} : DataW H := .agg [.lit (.string [33]), .lit (.string [40]), .lit (.string [41]), .lit (.string [42]), .lit (.string [43]), .lit (.string [44]), .lit (.string [45]), .lit (.string [45, 62]), .lit (.string [58]), .lit (.string [58, 61]), .lit (.string [59]), .lit (.string [60]), .lit (.string [60, 61]), .lit (.string [60, 62]), .lit (.string [61]), .lit (.string [61, 62]), .lit (.string [95]), .lit (.string [124]), .lit (.string [126])]

/-- 'camletlaw04.LexScans': WHATEVER THE INPUT: true; the input reads as it did. -/
def lexScansSpec : ChangeSpec := { name := "lexScans", fn := fun _ => fun
  | [d] => { results := [.lit (.bool true)], args := [d] }
  | _ => none }
def lexScansRow : OpenClaim := { program := "ytadhckhgemongaadoor", sum := "3c5c26e1f8ce2dd3c440b07dd90d7d38c6fd7af6e9f3cb7c654c27f92526da52", func := "camlet/camletlaw04.LexScans", spec := "lexScans", inPlace := ["internal/bytealg.IndexByteString"], unfollowed := true, recurses := true, named := ["camlet/lex.words", "camlet/lex.signs"], apart := false, laid := [("camlet/lex.words", laid_camlet_lex_words), ("camlet/lex.signs", laid_camlet_lex_signs)] }
def LexScansSaid : Prop := lexScansRow.holds Tryd.pinned (OpenSpec.ofChange lexScansSpec)

/-- ITS FALSE NEIGHBOUR: 'it returns false'. Refute it at one input. -/
def lexScansWrong : ChangeSpec := { name := "lexScans", fn := fun _ => fun
  | [d] => { results := [.lit (.bool false)], args := [d] }
  | _ => none }
def LexScansWrongFalsely : Prop := lexScansRow.holds Tryd.pinned (OpenSpec.ofChange lexScansWrong)

/-- 'camletlaw04.LexCut': WHATEVER THE INPUT: true; the input reads as it did. -/
def lexCutSpec : ChangeSpec := { name := "lexCut", fn := fun _ => fun
  | [d] => { results := [.lit (.bool true)], args := [d] }
  | _ => none }
def lexCutRow : OpenClaim := { program := "ytadhckhgemongaadoor", sum := "3c5c26e1f8ce2dd3c440b07dd90d7d38c6fd7af6e9f3cb7c654c27f92526da52", func := "camlet/camletlaw04.LexCut", spec := "lexCut", inPlace := ["internal/bytealg.IndexByteString"], unfollowed := true, recurses := true, named := ["camlet/lex.words", "camlet/lex.signs"], apart := false, laid := [("camlet/lex.words", laid_camlet_lex_words), ("camlet/lex.signs", laid_camlet_lex_signs)] }
def LexCutSaid : Prop := lexCutRow.holds Tryd.pinned (OpenSpec.ofChange lexCutSpec)

/-- ITS FALSE NEIGHBOUR: 'it returns false'. Refute it at one input. -/
def lexCutWrong : ChangeSpec := { name := "lexCut", fn := fun _ => fun
  | [d] => { results := [.lit (.bool false)], args := [d] }
  | _ => none }
def LexCutWrongFalsely : Prop := lexCutRow.holds Tryd.pinned (OpenSpec.ofChange lexCutWrong)

/-- 'camletlaw04.LexTables': WHATEVER THE INPUT: true; the input reads as it did. -/
def lexTablesSpec : ChangeSpec := { name := "lexTables", fn := fun _ => fun
  | [d] => { results := [.lit (.bool true)], args := [d] }
  | _ => none }
def lexTablesRow : OpenClaim := { program := "ytadhckhgemongaadoor", sum := "3c5c26e1f8ce2dd3c440b07dd90d7d38c6fd7af6e9f3cb7c654c27f92526da52", func := "camlet/camletlaw04.LexTables", spec := "lexTables", inPlace := ["internal/bytealg.IndexByteString", "internal/abi.NoEscape", "internal/bytealg.MakeNoZero"], unfollowed := true, recurses := true, named := ["camlet/lex.words", "camlet/lex.signs"], apart := false, laid := [("camlet/lex.words", laid_camlet_lex_words), ("camlet/lex.signs", laid_camlet_lex_signs)] }
def LexTablesSaid : Prop := lexTablesRow.holds Tryd.pinned (OpenSpec.ofChange lexTablesSpec)

/-- ITS FALSE NEIGHBOUR: 'it returns false'. Refute it at one input. -/
def lexTablesWrong : ChangeSpec := { name := "lexTables", fn := fun _ => fun
  | [d] => { results := [.lit (.bool false)], args := [d] }
  | _ => none }
def LexTablesWrongFalsely : Prop := lexTablesRow.holds Tryd.pinned (OpenSpec.ofChange lexTablesWrong)

/-- 'camletlaw04.LexBack': WHATEVER THE INPUT: true; the input reads as it did. -/
def lexBackSpec : ChangeSpec := { name := "lexBack", fn := fun _ => fun
  | [d] => { results := [.lit (.bool true)], args := [d] }
  | _ => none }
def lexBackRow : OpenClaim := { program := "ytadhckhgemongaadoor", sum := "3c5c26e1f8ce2dd3c440b07dd90d7d38c6fd7af6e9f3cb7c654c27f92526da52", func := "camlet/camletlaw04.LexBack", spec := "lexBack", inPlace := ["internal/bytealg.IndexByteString", "internal/abi.NoEscape", "internal/bytealg.MakeNoZero"], unfollowed := true, recurses := true, named := ["camlet/lex.words", "camlet/lex.signs"], apart := false, laid := [("camlet/lex.words", laid_camlet_lex_words), ("camlet/lex.signs", laid_camlet_lex_signs)] }
def LexBackSaid : Prop := lexBackRow.holds Tryd.pinned (OpenSpec.ofChange lexBackSpec)

/-- ITS FALSE NEIGHBOUR: 'it returns false'. Refute it at one input. -/
def lexBackWrong : ChangeSpec := { name := "lexBack", fn := fun _ => fun
  | [d] => { results := [.lit (.bool false)], args := [d] }
  | _ => none }
def LexBackWrongFalsely : Prop := lexBackRow.holds Tryd.pinned (OpenSpec.ofChange lexBackWrong)

/- THE SECOND FORM. 'bulk': how many values and letters a reading holds, each counted each time it is reached (what is shared counts as often as it is met; a slice's spare places count too). A statement '..UptoSaid' is the law's where the arguments, and the package variables that the reading takes, are together of bulk at most 1048576: NARROWER than '..Said'. Prove '..Said' where nothing that the law and all that it calls make is longer than what came in: it says more and counts as full. Else prove '..UptoSaid'. A law counts once. -/
mutual
def uptoBulk {H : Type} : DataW H → Nat
  | .lit (.string bytes) => bytes.length + 1
  | .lit _ => 1
  | .nil => 1
  | .ptr d => uptoBulk d + 1
  | .slice elems spare => uptoBulkAll elems + uptoBulkAll spare + 1
  | .agg parts => uptoBulkAll parts + 1
  | .iface _ d => uptoBulk d + 1
  | .map entries => uptoBulkEntries entries + 1
  | .held _ => 1
def uptoBulkAll {H : Type} : List (DataW H) → Nat
  | [] => 0
  | d :: r => uptoBulk d + uptoBulkAll r
def uptoBulkEntries {H : Type} : List (Lit × DataW H) → Nat
  | [] => 0
  | x :: r => uptoBulkEntry x + uptoBulkEntries r
def uptoBulkEntry {H : Type} : Lit × DataW H → Nat
  | (.string bytes, d) => bytes.length + uptoBulk d + 1
  | (_, d) => uptoBulk d + 1
 end
def uptoSmall : (H : Type) → List (DataW H) → Bool := fun _ ds => decide (uptoBulkAll ds ≤ 1048576)
def OpenSpec.upto (s : _root_.Go.ChangeSpec) : _root_.Go.OpenSpec := { _root_.Go.OpenSpec.ofChange s with cond := some uptoSmall }

/-- 'camletlaw04.LexScans', WHERE WHAT IT READS IS OF BULK AT MOST 1048576: true; the input reads as it did. -/
def lexScansUptoRow : OpenClaim := { program := "ytadhckhgemongaadoor", sum := "3c5c26e1f8ce2dd3c440b07dd90d7d38c6fd7af6e9f3cb7c654c27f92526da52", func := "camlet/camletlaw04.LexScans", spec := "lexScans", inPlace := ["internal/bytealg.IndexByteString"], unfollowed := true, recurses := true, named := ["camlet/lex.words", "camlet/lex.signs"], apart := false, laid := [("camlet/lex.words", laid_camlet_lex_words), ("camlet/lex.signs", laid_camlet_lex_signs)], narrowed := true }
def LexScansUptoSaid : Prop := lexScansUptoRow.holds Tryd.pinned (OpenSpec.upto lexScansSpec)

/-- 'camletlaw04.LexCut', WHERE WHAT IT READS IS OF BULK AT MOST 1048576: true; the input reads as it did. -/
def lexCutUptoRow : OpenClaim := { program := "ytadhckhgemongaadoor", sum := "3c5c26e1f8ce2dd3c440b07dd90d7d38c6fd7af6e9f3cb7c654c27f92526da52", func := "camlet/camletlaw04.LexCut", spec := "lexCut", inPlace := ["internal/bytealg.IndexByteString"], unfollowed := true, recurses := true, named := ["camlet/lex.words", "camlet/lex.signs"], apart := false, laid := [("camlet/lex.words", laid_camlet_lex_words), ("camlet/lex.signs", laid_camlet_lex_signs)], narrowed := true }
def LexCutUptoSaid : Prop := lexCutUptoRow.holds Tryd.pinned (OpenSpec.upto lexCutSpec)

/-- 'camletlaw04.LexTables', WHERE WHAT IT READS IS OF BULK AT MOST 1048576: true; the input reads as it did. -/
def lexTablesUptoRow : OpenClaim := { program := "ytadhckhgemongaadoor", sum := "3c5c26e1f8ce2dd3c440b07dd90d7d38c6fd7af6e9f3cb7c654c27f92526da52", func := "camlet/camletlaw04.LexTables", spec := "lexTables", inPlace := ["internal/bytealg.IndexByteString", "internal/abi.NoEscape", "internal/bytealg.MakeNoZero"], unfollowed := true, recurses := true, named := ["camlet/lex.words", "camlet/lex.signs"], apart := false, laid := [("camlet/lex.words", laid_camlet_lex_words), ("camlet/lex.signs", laid_camlet_lex_signs)], narrowed := true }
def LexTablesUptoSaid : Prop := lexTablesUptoRow.holds Tryd.pinned (OpenSpec.upto lexTablesSpec)

/-- 'camletlaw04.LexBack', WHERE WHAT IT READS IS OF BULK AT MOST 1048576: true; the input reads as it did. -/
def lexBackUptoRow : OpenClaim := { program := "ytadhckhgemongaadoor", sum := "3c5c26e1f8ce2dd3c440b07dd90d7d38c6fd7af6e9f3cb7c654c27f92526da52", func := "camlet/camletlaw04.LexBack", spec := "lexBack", inPlace := ["internal/bytealg.IndexByteString", "internal/abi.NoEscape", "internal/bytealg.MakeNoZero"], unfollowed := true, recurses := true, named := ["camlet/lex.words", "camlet/lex.signs"], apart := false, laid := [("camlet/lex.words", laid_camlet_lex_words), ("camlet/lex.signs", laid_camlet_lex_signs)], narrowed := true }
def LexBackUptoSaid : Prop := lexBackUptoRow.holds Tryd.pinned (OpenSpec.upto lexBackSpec)

end Rows
end Go.Proofs.YtadhckhgemongaaDoor
