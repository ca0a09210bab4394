/-
  NARROWER THAN 'FOR EVERY INPUT', by the rows' own cells (each row's printed sentence says how): DeclAdds: loops · DeclOf: loops · DeclGrows: loops.
  DERIVED. THE GIVEN ROWS OF THIS SEAT. 3 by the template 'for every input the law returns true; each argument reads behind the call as it read before'; 0 by the template 'total and deterministic' (their statements: YtoahliipbclneaaGreatTotals.lean).
  GIVEN WITH THE SEED: the statements are not yours to turn. If you find one false, say at which input.
  Laid BY PROGRAM, IN A SANDBOX (cutbox-rows.mjs): the forced cells as the released guide's own fill.sh prints them over the translation 9aeb9e38ebf71ec6… (all of the seat's roots in one cut). By AI agents, Wed Nov 11 2026. No macro, syntax, notation, axiom, sorry.
-/
import Derived.Test.YtoahliipbclneaaGreatChecked
import GoSem.Claim
import GoSem.ClaimJoined
import GoSem.ClaimMapViews
import Derived.JoinedTies
import Derived.KernelRfl
namespace Go.Proofs.YtoahliipbclneaaGreat
/- THE CELL 'sum', in the pinned program and in every row, IS THE sha256 OF THE DUMP (.gsa) THAT YtoahliipbclneaaGreatProg.lean LOADS. Nothing in Lean hashes anything: it is a label: what it is worth is what the hold of that sum in a sandbox is worth. -/
noncomputable def Tryz.pinned : Pinned := { name := "ytoahliipbclneaagreat", sum := "9aeb9e38ebf71ec66d5f5cec68ffc3266103f0ec407b8da8914f51bfa8f8351a", checked := Tryz.checked }
namespace Rows
def none {H : Type} : Left H := { results := [], args := [] }

/-- 'camletlaw11.DeclAdds': WHATEVER THE INPUT: true; the input reads as it did. -/
def declAddsSpec : ChangeSpec := { name := "declAdds", fn := fun _ => fun
  | [d1, d2] => { results := [.lit (.bool true)], args := [d1, d2] }
  | _ => none }
def declAddsRow : OpenClaim := { program := "ytoahliipbclneaagreat", sum := "9aeb9e38ebf71ec66d5f5cec68ffc3266103f0ec407b8da8914f51bfa8f8351a", func := "camlet/camletlaw11.DeclAdds", spec := "declAdds", inPlace := ["internal/bytealg.IndexByteString", "internal/bytealg.IndexString"], unfollowed := true, recurses := true, named := ["internal/bytealg.MaxLen"], loops := true, apart := false }
def DeclAddsSaid : Prop := declAddsRow.holds Tryz.pinned (OpenSpec.ofChange declAddsSpec)

/-- ITS FALSE NEIGHBOUR: 'it returns false'. Refute it at one input. -/
def declAddsWrong : ChangeSpec := { name := "declAdds", fn := fun _ => fun
  | [d1, d2] => { results := [.lit (.bool false)], args := [d1, d2] }
  | _ => none }
def DeclAddsWrongFalsely : Prop := declAddsRow.holds Tryz.pinned (OpenSpec.ofChange declAddsWrong)

/-- 'camletlaw11.DeclOf': WHATEVER THE INPUT: true; the input reads as it did. -/
def declOfSpec : ChangeSpec := { name := "declOf", fn := fun _ => fun
  | [d] => { results := [.lit (.bool true)], args := [d] }
  | _ => none }
def declOfRow : OpenClaim := { program := "ytoahliipbclneaagreat", sum := "9aeb9e38ebf71ec66d5f5cec68ffc3266103f0ec407b8da8914f51bfa8f8351a", func := "camlet/camletlaw11.DeclOf", spec := "declOf", inPlace := ["internal/bytealg.IndexByteString", "internal/bytealg.IndexString"], unfollowed := true, recurses := true, named := ["internal/bytealg.MaxLen"], loops := true, apart := false }
def DeclOfSaid : Prop := declOfRow.holds Tryz.pinned (OpenSpec.ofChange declOfSpec)

/-- ITS FALSE NEIGHBOUR: 'it returns false'. Refute it at one input. -/
def declOfWrong : ChangeSpec := { name := "declOf", fn := fun _ => fun
  | [d] => { results := [.lit (.bool false)], args := [d] }
  | _ => none }
def DeclOfWrongFalsely : Prop := declOfRow.holds Tryz.pinned (OpenSpec.ofChange declOfWrong)

/-- 'camletlaw11.DeclGrows': WHATEVER THE INPUT: true; the input reads as it did. -/
def declGrowsSpec : ChangeSpec := { name := "declGrows", fn := fun _ => fun
  | [d1, d2] => { results := [.lit (.bool true)], args := [d1, d2] }
  | _ => none }
def declGrowsRow : OpenClaim := { program := "ytoahliipbclneaagreat", sum := "9aeb9e38ebf71ec66d5f5cec68ffc3266103f0ec407b8da8914f51bfa8f8351a", func := "camlet/camletlaw11.DeclGrows", spec := "declGrows", inPlace := ["internal/bytealg.IndexByteString", "internal/bytealg.IndexString"], unfollowed := true, recurses := true, named := ["internal/bytealg.MaxLen"], loops := true, apart := false }
def DeclGrowsSaid : Prop := declGrowsRow.holds Tryz.pinned (OpenSpec.ofChange declGrowsSpec)

/-- ITS FALSE NEIGHBOUR: 'it returns false'. Refute it at one input. -/
def declGrowsWrong : ChangeSpec := { name := "declGrows", fn := fun _ => fun
  | [d1, d2] => { results := [.lit (.bool false)], args := [d1, d2] }
  | _ => none }
def DeclGrowsWrongFalsely : Prop := declGrowsRow.holds Tryz.pinned (OpenSpec.ofChange declGrowsWrong)

/- THE SECOND FORM. 'bulk': how many values and letters a reading holds, each counted each time it is reached (what is shared counts as often as it is met; a slice's spare places count too). A statement '..UptoSaid' is the law's where the arguments, and the package variables that the reading takes, are together of bulk at most 1048576: NARROWER than '..Said'. Prove '..Said' where nothing that the law and all that it calls make is longer than what came in: it says more and counts as full. Else prove '..UptoSaid'. A law counts once. -/
mutual
def uptoBulk {H : Type} : DataW H → Nat
  | .lit (.string bytes) => bytes.length + 1
  | .lit _ => 1
  | .nil => 1
  | .ptr d => uptoBulk d + 1
  | .slice elems spare => uptoBulkAll elems + uptoBulkAll spare + 1
  | .agg parts => uptoBulkAll parts + 1
  | .iface _ d => uptoBulk d + 1
  | .map entries => uptoBulkEntries entries + 1
  | .held _ => 1
def uptoBulkAll {H : Type} : List (DataW H) → Nat
  | [] => 0
  | d :: r => uptoBulk d + uptoBulkAll r
def uptoBulkEntries {H : Type} : List (Lit × DataW H) → Nat
  | [] => 0
  | x :: r => uptoBulkEntry x + uptoBulkEntries r
def uptoBulkEntry {H : Type} : Lit × DataW H → Nat
  | (.string bytes, d) => bytes.length + uptoBulk d + 1
  | (_, d) => uptoBulk d + 1
 end
def uptoSmall : (H : Type) → List (DataW H) → Bool := fun _ ds => decide (uptoBulkAll ds ≤ 1048576)
def OpenSpec.upto (s : _root_.Go.ChangeSpec) : _root_.Go.OpenSpec := { _root_.Go.OpenSpec.ofChange s with cond := some uptoSmall }

/-- 'camletlaw11.DeclAdds', WHERE WHAT IT READS IS OF BULK AT MOST 1048576: true; the input reads as it did. -/
def declAddsUptoRow : OpenClaim := { program := "ytoahliipbclneaagreat", sum := "9aeb9e38ebf71ec66d5f5cec68ffc3266103f0ec407b8da8914f51bfa8f8351a", func := "camlet/camletlaw11.DeclAdds", spec := "declAdds", inPlace := ["internal/bytealg.IndexByteString", "internal/bytealg.IndexString"], unfollowed := true, recurses := true, named := ["internal/bytealg.MaxLen"], loops := true, apart := false, narrowed := true }
def DeclAddsUptoSaid : Prop := declAddsUptoRow.holds Tryz.pinned (OpenSpec.upto declAddsSpec)

/-- 'camletlaw11.DeclOf', WHERE WHAT IT READS IS OF BULK AT MOST 1048576: true; the input reads as it did. -/
def declOfUptoRow : OpenClaim := { program := "ytoahliipbclneaagreat", sum := "9aeb9e38ebf71ec66d5f5cec68ffc3266103f0ec407b8da8914f51bfa8f8351a", func := "camlet/camletlaw11.DeclOf", spec := "declOf", inPlace := ["internal/bytealg.IndexByteString", "internal/bytealg.IndexString"], unfollowed := true, recurses := true, named := ["internal/bytealg.MaxLen"], loops := true, apart := false, narrowed := true }
def DeclOfUptoSaid : Prop := declOfUptoRow.holds Tryz.pinned (OpenSpec.upto declOfSpec)

/-- 'camletlaw11.DeclGrows', WHERE WHAT IT READS IS OF BULK AT MOST 1048576: true; the input reads as it did. -/
def declGrowsUptoRow : OpenClaim := { program := "ytoahliipbclneaagreat", sum := "9aeb9e38ebf71ec66d5f5cec68ffc3266103f0ec407b8da8914f51bfa8f8351a", func := "camlet/camletlaw11.DeclGrows", spec := "declGrows", inPlace := ["internal/bytealg.IndexByteString", "internal/bytealg.IndexString"], unfollowed := true, recurses := true, named := ["internal/bytealg.MaxLen"], loops := true, apart := false, narrowed := true }
def DeclGrowsUptoSaid : Prop := declGrowsUptoRow.holds Tryz.pinned (OpenSpec.upto declGrowsSpec)

end Rows
end Go.Proofs.YtoahliipbclneaaGreat
