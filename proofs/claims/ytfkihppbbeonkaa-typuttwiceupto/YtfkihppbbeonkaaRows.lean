/-
  NARROWER THAN 'FOR EVERY INPUT', by the rows' own cells (each row's printed sentence says how): TyRight: loops · TyMakes: loops · TyPuts: loops · TyPutTwice: loops · TyCanons: loops.
  DERIVED. THE GIVEN ROWS OF THIS SEAT. 5 by the template 'for every input the law returns true; each argument reads behind the call as it read before'; 0 by the template 'total and deterministic' (their statements: YtfkihppbbeonkaaTotals.lean).
  GIVEN WITH THE SEED: the statements are not yours to turn. If you find one false, say at which input.
  Laid BY PROGRAM, IN A SANDBOX (cutbox-rows.mjs): the forced cells as the released guide's own fill.sh prints them over the translation 645617a682e4c835… (all of the seat's roots in one cut). By AI agents, Wed Nov 11 2026. No macro, syntax, notation, axiom, sorry.
-/
import Derived.Test.YtfkihppbbeonkaaChecked
import GoSem.Claim
import GoSem.ClaimJoined
import GoSem.ClaimMapViews
import Derived.JoinedTies
import Derived.KernelRfl
namespace Go.Proofs.Ytfkihppbbeonkaa
/- THE CELL 'sum', in the pinned program and in every row, IS THE sha256 OF THE DUMP (.gsa) THAT YtfkihppbbeonkaaProg.lean LOADS. Nothing in Lean hashes anything: it is a label: what it is worth is what the hold of that sum in a sandbox is worth. -/
noncomputable def Try.pinned : Pinned := { name := "ytfkihppbbeonkaa", sum := "645617a682e4c835d70518a2244d7e3ff0f273517cd5587a7ce8cf796a35d434", checked := Try.checked }
namespace Rows
def none {H : Type} : Left H := { results := [], args := [] }

/-- 'camletlaw08.TyRight': WHATEVER THE INPUT: true; the input reads as it did. -/
def tyRightSpec : ChangeSpec := { name := "tyRight", fn := fun _ => fun
  | [d1, d2] => { results := [.lit (.bool true)], args := [d1, d2] }
  | _ => none }
def tyRightRow : OpenClaim := { program := "ytfkihppbbeonkaa", sum := "645617a682e4c835d70518a2244d7e3ff0f273517cd5587a7ce8cf796a35d434", func := "camlet/camletlaw08.TyRight", spec := "tyRight", inPlace := ["internal/bytealg.IndexByteString", "internal/bytealg.IndexString"], unfollowed := true, recurses := true, named := ["internal/bytealg.MaxLen"], loops := true, apart := false }
def TyRightSaid : Prop := tyRightRow.holds Try.pinned (OpenSpec.ofChange tyRightSpec)

/-- ITS FALSE NEIGHBOUR: 'it returns false'. Refute it at one input. -/
def tyRightWrong : ChangeSpec := { name := "tyRight", fn := fun _ => fun
  | [d1, d2] => { results := [.lit (.bool false)], args := [d1, d2] }
  | _ => none }
def TyRightWrongFalsely : Prop := tyRightRow.holds Try.pinned (OpenSpec.ofChange tyRightWrong)

/-- 'camletlaw08.TyMakes': WHATEVER THE INPUT: true; the input reads as it did. -/
def tyMakesSpec : ChangeSpec := { name := "tyMakes", fn := fun _ => fun
  | [d1, d2] => { results := [.lit (.bool true)], args := [d1, d2] }
  | _ => none }
def tyMakesRow : OpenClaim := { program := "ytfkihppbbeonkaa", sum := "645617a682e4c835d70518a2244d7e3ff0f273517cd5587a7ce8cf796a35d434", func := "camlet/camletlaw08.TyMakes", spec := "tyMakes", inPlace := ["internal/bytealg.IndexByteString", "internal/bytealg.IndexString"], unfollowed := true, recurses := true, named := ["internal/bytealg.MaxLen"], loops := true, apart := false }
def TyMakesSaid : Prop := tyMakesRow.holds Try.pinned (OpenSpec.ofChange tyMakesSpec)

/-- ITS FALSE NEIGHBOUR: 'it returns false'. Refute it at one input. -/
def tyMakesWrong : ChangeSpec := { name := "tyMakes", fn := fun _ => fun
  | [d1, d2] => { results := [.lit (.bool false)], args := [d1, d2] }
  | _ => none }
def TyMakesWrongFalsely : Prop := tyMakesRow.holds Try.pinned (OpenSpec.ofChange tyMakesWrong)

/-- 'camletlaw08.TyPuts': WHATEVER THE INPUT: true; the input reads as it did. -/
def tyPutsSpec : ChangeSpec := { name := "tyPuts", fn := fun _ => fun
  | [d1, d2] => { results := [.lit (.bool true)], args := [d1, d2] }
  | _ => none }
def tyPutsRow : OpenClaim := { program := "ytfkihppbbeonkaa", sum := "645617a682e4c835d70518a2244d7e3ff0f273517cd5587a7ce8cf796a35d434", func := "camlet/camletlaw08.TyPuts", spec := "tyPuts", inPlace := ["internal/bytealg.IndexByteString", "internal/bytealg.IndexString"], unfollowed := true, recurses := true, named := ["internal/bytealg.MaxLen"], loops := true, apart := false }
def TyPutsSaid : Prop := tyPutsRow.holds Try.pinned (OpenSpec.ofChange tyPutsSpec)

/-- ITS FALSE NEIGHBOUR: 'it returns false'. Refute it at one input. -/
def tyPutsWrong : ChangeSpec := { name := "tyPuts", fn := fun _ => fun
  | [d1, d2] => { results := [.lit (.bool false)], args := [d1, d2] }
  | _ => none }
def TyPutsWrongFalsely : Prop := tyPutsRow.holds Try.pinned (OpenSpec.ofChange tyPutsWrong)

/-- 'camletlaw08.TyPutTwice': WHATEVER THE INPUT: true; the input reads as it did. -/
def tyPutTwiceSpec : ChangeSpec := { name := "tyPutTwice", fn := fun _ => fun
  | [d1, d2, d3] => { results := [.lit (.bool true)], args := [d1, d2, d3] }
  | _ => none }
def tyPutTwiceRow : OpenClaim := { program := "ytfkihppbbeonkaa", sum := "645617a682e4c835d70518a2244d7e3ff0f273517cd5587a7ce8cf796a35d434", func := "camlet/camletlaw08.TyPutTwice", spec := "tyPutTwice", inPlace := ["internal/bytealg.IndexByteString", "internal/bytealg.IndexString"], unfollowed := true, recurses := true, named := ["internal/bytealg.MaxLen"], loops := true, apart := false }
def TyPutTwiceSaid : Prop := tyPutTwiceRow.holds Try.pinned (OpenSpec.ofChange tyPutTwiceSpec)

/-- ITS FALSE NEIGHBOUR: 'it returns false'. Refute it at one input. -/
def tyPutTwiceWrong : ChangeSpec := { name := "tyPutTwice", fn := fun _ => fun
  | [d1, d2, d3] => { results := [.lit (.bool false)], args := [d1, d2, d3] }
  | _ => none }
def TyPutTwiceWrongFalsely : Prop := tyPutTwiceRow.holds Try.pinned (OpenSpec.ofChange tyPutTwiceWrong)

/-- 'camletlaw08.TyCanons': WHATEVER THE INPUT: true; the input reads as it did. -/
def tyCanonsSpec : ChangeSpec := { name := "tyCanons", fn := fun _ => fun
  | [d1, d2] => { results := [.lit (.bool true)], args := [d1, d2] }
  | _ => none }
def tyCanonsRow : OpenClaim := { program := "ytfkihppbbeonkaa", sum := "645617a682e4c835d70518a2244d7e3ff0f273517cd5587a7ce8cf796a35d434", func := "camlet/camletlaw08.TyCanons", spec := "tyCanons", inPlace := ["internal/bytealg.IndexByteString", "internal/bytealg.IndexString"], unfollowed := true, recurses := true, named := ["internal/bytealg.MaxLen"], loops := true, apart := false }
def TyCanonsSaid : Prop := tyCanonsRow.holds Try.pinned (OpenSpec.ofChange tyCanonsSpec)

/-- ITS FALSE NEIGHBOUR: 'it returns false'. Refute it at one input. -/
def tyCanonsWrong : ChangeSpec := { name := "tyCanons", fn := fun _ => fun
  | [d1, d2] => { results := [.lit (.bool false)], args := [d1, d2] }
  | _ => none }
def TyCanonsWrongFalsely : Prop := tyCanonsRow.holds Try.pinned (OpenSpec.ofChange tyCanonsWrong)

/- THE SECOND FORM. 'bulk': how many values and letters a reading holds, each counted each time it is reached (what is shared counts as often as it is met; a slice's spare places count too). A statement '..UptoSaid' is the law's where the arguments, and the package variables that the reading takes, are together of bulk at most 1048576: NARROWER than '..Said'. Prove '..Said' where nothing that the law and all that it calls make is longer than what came in: it says more and counts as full. Else prove '..UptoSaid'. A law counts once. -/
mutual
def uptoBulk {H : Type} : DataW H → Nat
  | .lit (.string bytes) => bytes.length + 1
  | .lit _ => 1
  | .nil => 1
  | .ptr d => uptoBulk d + 1
  | .slice elems spare => uptoBulkAll elems + uptoBulkAll spare + 1
  | .agg parts => uptoBulkAll parts + 1
  | .iface _ d => uptoBulk d + 1
  | .map entries => uptoBulkEntries entries + 1
  | .held _ => 1
def uptoBulkAll {H : Type} : List (DataW H) → Nat
  | [] => 0
  | d :: r => uptoBulk d + uptoBulkAll r
def uptoBulkEntries {H : Type} : List (Lit × DataW H) → Nat
  | [] => 0
  | x :: r => uptoBulkEntry x + uptoBulkEntries r
def uptoBulkEntry {H : Type} : Lit × DataW H → Nat
  | (.string bytes, d) => bytes.length + uptoBulk d + 1
  | (_, d) => uptoBulk d + 1
 end
def uptoSmall : (H : Type) → List (DataW H) → Bool := fun _ ds => decide (uptoBulkAll ds ≤ 1048576)
def OpenSpec.upto (s : _root_.Go.ChangeSpec) : _root_.Go.OpenSpec := { _root_.Go.OpenSpec.ofChange s with cond := some uptoSmall }

/-- 'camletlaw08.TyRight', WHERE WHAT IT READS IS OF BULK AT MOST 1048576: true; the input reads as it did. -/
def tyRightUptoRow : OpenClaim := { program := "ytfkihppbbeonkaa", sum := "645617a682e4c835d70518a2244d7e3ff0f273517cd5587a7ce8cf796a35d434", func := "camlet/camletlaw08.TyRight", spec := "tyRight", inPlace := ["internal/bytealg.IndexByteString", "internal/bytealg.IndexString"], unfollowed := true, recurses := true, named := ["internal/bytealg.MaxLen"], loops := true, apart := false, narrowed := true }
def TyRightUptoSaid : Prop := tyRightUptoRow.holds Try.pinned (OpenSpec.upto tyRightSpec)

/-- 'camletlaw08.TyMakes', WHERE WHAT IT READS IS OF BULK AT MOST 1048576: true; the input reads as it did. -/
def tyMakesUptoRow : OpenClaim := { program := "ytfkihppbbeonkaa", sum := "645617a682e4c835d70518a2244d7e3ff0f273517cd5587a7ce8cf796a35d434", func := "camlet/camletlaw08.TyMakes", spec := "tyMakes", inPlace := ["internal/bytealg.IndexByteString", "internal/bytealg.IndexString"], unfollowed := true, recurses := true, named := ["internal/bytealg.MaxLen"], loops := true, apart := false, narrowed := true }
def TyMakesUptoSaid : Prop := tyMakesUptoRow.holds Try.pinned (OpenSpec.upto tyMakesSpec)

/-- 'camletlaw08.TyPuts', WHERE WHAT IT READS IS OF BULK AT MOST 1048576: true; the input reads as it did. -/
def tyPutsUptoRow : OpenClaim := { program := "ytfkihppbbeonkaa", sum := "645617a682e4c835d70518a2244d7e3ff0f273517cd5587a7ce8cf796a35d434", func := "camlet/camletlaw08.TyPuts", spec := "tyPuts", inPlace := ["internal/bytealg.IndexByteString", "internal/bytealg.IndexString"], unfollowed := true, recurses := true, named := ["internal/bytealg.MaxLen"], loops := true, apart := false, narrowed := true }
def TyPutsUptoSaid : Prop := tyPutsUptoRow.holds Try.pinned (OpenSpec.upto tyPutsSpec)

/-- 'camletlaw08.TyPutTwice', WHERE WHAT IT READS IS OF BULK AT MOST 1048576: true; the input reads as it did. -/
def tyPutTwiceUptoRow : OpenClaim := { program := "ytfkihppbbeonkaa", sum := "645617a682e4c835d70518a2244d7e3ff0f273517cd5587a7ce8cf796a35d434", func := "camlet/camletlaw08.TyPutTwice", spec := "tyPutTwice", inPlace := ["internal/bytealg.IndexByteString", "internal/bytealg.IndexString"], unfollowed := true, recurses := true, named := ["internal/bytealg.MaxLen"], loops := true, apart := false, narrowed := true }
def TyPutTwiceUptoSaid : Prop := tyPutTwiceUptoRow.holds Try.pinned (OpenSpec.upto tyPutTwiceSpec)

/-- 'camletlaw08.TyCanons', WHERE WHAT IT READS IS OF BULK AT MOST 1048576: true; the input reads as it did. -/
def tyCanonsUptoRow : OpenClaim := { program := "ytfkihppbbeonkaa", sum := "645617a682e4c835d70518a2244d7e3ff0f273517cd5587a7ce8cf796a35d434", func := "camlet/camletlaw08.TyCanons", spec := "tyCanons", inPlace := ["internal/bytealg.IndexByteString", "internal/bytealg.IndexString"], unfollowed := true, recurses := true, named := ["internal/bytealg.MaxLen"], loops := true, apart := false, narrowed := true }
def TyCanonsUptoSaid : Prop := tyCanonsUptoRow.holds Try.pinned (OpenSpec.upto tyCanonsSpec)

end Rows
end Go.Proofs.Ytfkihppbbeonkaa
