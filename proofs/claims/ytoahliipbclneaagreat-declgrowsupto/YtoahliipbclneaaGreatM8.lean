/- A part of the proof: PTree, RDec, RBase0, RBase2, SQuiet, RBase, SRef1, SArr. -/
import Derived.Test.YtoahliipbclneaaGreatM2
import Derived.Test.YtoahliipbclneaaGreatM3
import Derived.Test.YtoahliipbclneaaGreatM5
import Derived.Test.YtoahliipbclneaaGreatM6
import Derived.Test.YtoahliipbclneaaGreatM7
import Derived.Test.YtoahliipbclneaaGreatRows
import Derived.Test.YtoahliipbclneaaGreatShelf
import Derived.ChangeSame
import Derived.ReadAgain
import Derived.ChangeOld
import Derived.Deep.DeepHandedRow
import Derived.WalkKit
import Derived.ProofKit
import Derived.OpenShut
set_option linter.unusedVariables false
set_option linter.unusedSimpArgs false
namespace Go.Am
open Go
def smallB (n : Int) : Bool := decide (n ≥ 97) && decide (n ≤ 122) || decide (n = 95)
def greatB (n : Int) : Bool := decide (n ≥ 65) && decide (n ≤ 90)
def unrestB (n : Int) : Bool := !smallB n && !greatB n && (decide (n < 48) || decide (n > 57)) && !decide (n = 39)
def restAll (l : Str) : Bool := l.all fun c => !unrestB c.toNat
def runB (l : Str) : Bool := restAll (l.drop 1) && decide (l.length ≤ 32)
def headB (l : Str) : Int := ((l.headD 0).toNat : Int)
def wordsS : Str := [32, 97, 110, 100, 32, 97, 110, 100, 97, 108, 115, 111, 32, 97, 115, 32, 99, 97, 115, 101, 32, 100, 97, 116, 97, 116, 121, 112, 101, 32, 100, 105, 118, 32, 101, 108, 115, 101, 32, 101, 110, 100, 32, 101, 120, 99, 101, 112, 116, 105, 111, 110, 32, 102, 110, 32, 102, 117, 110, 32, 104, 97, 110, 100, 108, 101, 32, 105, 102, 32, 105, 110, 32, 108, 101, 116, 32, 109, 111, 100, 32, 111, 102, 32, 111, 114, 101, 108, 115, 101, 32, 112, 114, 105, 110, 116, 32, 114, 97, 105, 115, 101, 32, 114, 101, 97, 100, 32, 114, 101, 102, 32, 116, 104, 101, 110, 32, 118, 97, 108, 32, 116, 114, 117, 101, 32, 102, 97, 108, 115, 101, 32, 95, 32]
def lowB (l : Str) : Bool := !decide (l = []) && smallB (headB l) && runB l && !Go.Lib.contains wordsS (32 :: (l ++ [32]))
def capB (l : Str) : Bool := !decide (l = []) && greatB (headB l) && runB l
def conB (l : Str) : Bool := capB l || decide (l = [116, 114, 117, 101]) || decide (l = [102, 97, 108, 115, 101]) || decide (l = [40, 41])
def isIntB (n : Int) : Bool := decide (n ≥ -1073741824) && decide (n ≤ 1073741823)
def letterR (n : Int) (cap : Bool) : Bool := bif cap then decide (n ≥ 65) && decide (n ≤ 90) else decide (n ≥ 97) && decide (n ≤ 122) || decide (n = 95)
def restR (n : Int) : Bool := decide (n ≥ 97) && decide (n ≤ 122) || decide (n ≥ 65) && decide (n ≤ 90) || decide (n ≥ 48) && decide (n ≤ 57) || decide (n = 95) || decide (n = 39)
def shapedR (l : Str) (cap : Bool) : Bool := !(decide ((l.length : Int) < 1) || decide ((l.length : Int) > 32) || !letterR (headB l) cap) && (l.drop 1).all fun c => restR c.toNat
def wordsR : List Str := [[97, 110, 100], [97, 110, 100, 97, 108, 115, 111], [97, 115], [99, 97, 115, 101], [100, 97, 116, 97, 116, 121, 112, 101], [100, 105, 118], [101, 108, 115, 101], [101, 110, 100], [101, 120, 99, 101, 112, 116, 105, 111, 110], [102, 110], [102, 117, 110], [104, 97, 110, 100, 108, 101], [105, 102], [105, 110], [108, 101, 116], [109, 111, 100], [111, 102], [111, 114, 101, 108, 115, 101], [112, 114, 105, 110, 116], [114, 97, 105, 115, 101], [114, 101, 97, 100], [114, 101, 102], [116, 104, 101, 110], [118, 97, 108]]
def amongR (x : Str) (l : List Str) : Bool := l.any fun w => decide (w = x)
def lowR (l : Str) : Bool := shapedR l false && !decide (l = [95]) && !decide (l = [116, 114, 117, 101]) && !decide (l = [102, 97, 108, 115, 101]) && !amongR l wordsR
def capR (l : Str) : Bool := shapedR l true
def conR (l : Str) : Bool := capR l || decide (l = [116, 114, 117, 101]) || decide (l = [102, 97, 108, 115, 101]) || decide (l = [40, 41])
def isR (n low high : Int) : Bool := decide (n ≥ low) && decide (n ≤ high)
def tyLM (nm : Str) : Int × Int × Bool :=
 bif decide (nm = [105, 110, 116]) then (0, 0, true) else bif decide (nm = [98, 111, 111, 108]) then (0, 0, true) else bif decide (nm = [117, 110, 105, 116]) then (0, 0, true) else bif decide (nm = [101, 120, 110]) then (0, 0, true) else
 bif decide (nm = [114, 101, 102]) then (1, 1, true) else bif decide (nm = [45, 62]) then (2, 2, true) else bif decide (nm = [42]) then (2, 8, true) else bif !lowB nm then (0, 0, false) else (0, 8, true)
def wrongTyC (k n : Int) (nm : Str) (len : Int) : Int :=
 bif decide (k = 1) && (!decide (nm = []) || decide (len > 0)) || decide (k = 2) && !decide (n = 0) || !decide (k = 1) && !decide (k = 2) then 29
 else bif decide (k = 1) && decide (n < 0) then 2
 else bif decide (k = 1) then 0
 else bif !(tyLM nm).2.2 then 8
 else bif decide (len < (tyLM nm).1) || decide (len > (tyLM nm).2.1) then 19 else 0
def wrongTyB (t : Ty) : Int := wrongTyC t.kind t.n t.name t.args.length
def patLM (k : Int) : Bool × Bool × Int × Int :=
 bif decide (k = 2) then (true, false, 0, 0) else bif decide (k = 3) then (false, true, 0, 0) else bif decide (k = 4) then (true, false, 0, 1) else bif decide (k = 5) then (false, false, 2, 8) else bif decide (k = 6) then (true, false, 1, 1) else (false, false, 0, 0)
def wrongPatB (p : Pat) : Int :=
 bif decide (p.kind < 1) || decide (p.kind > 6) then 29
 else bif !(patLM p.kind).1 && !decide (p.name = []) || !(patLM p.kind).2.1 && !decide (p.n = 0) || decide ((patLM p.kind).2.2.2 = 0) && decide ((p.kids.length : Int) > 0) then 29
 else bif decide (p.kind = 4) && !conB p.name || (patLM p.kind).1 && !decide (p.kind = 4) && !lowB p.name then 8
 else bif (patLM p.kind).2.1 && !isIntB p.n then 2
 else bif decide ((p.kids.length : Int) < (patLM p.kind).2.2.1) || decide ((p.kids.length : Int) > (patLM p.kind).2.2.2) then 19 else 0
def wrongConB (c : Con) : Int :=
 bif !c.has && (!decide (c.arg.kind = 0) || !decide (c.arg.n = 0) || !decide (c.arg.name = []) || decide ((c.arg.args.length : Int) > 0)) then 29 else bif !capB c.name then 8 else 0
structure Has where
 name : Bool := false
 n : Bool := false
 cases : Bool := false
 decs : Bool := false
 least : Int := 0
 most : Int := 0
def expLM (k : Int) : Has :=
 bif decide (k = 1) then { n := true } else bif decide (k = 2) then { name := true } else bif decide (k = 3) then { name := true, most := 1 } else bif decide (k = 4) then { least := 2, most := 8 } else
 bif decide (k = 5) then { cases := true } else bif decide (k = 10) then { least := 2, most := 4611686018427387904 } else bif decide (k = 8) then { least := 3, most := 3 } else bif decide (k = 7) then { decs := true, least := 1, most := 1 } else
 bif decide (k = 9) || decide (k = 11) then { cases := true, least := 1, most := 1 } else bif decide (k = 12) || decide (k = 16) || decide (k = 17) || decide (k = 19) then { least := 1, most := 1 } else
 bif decide (k = 13) then { n := true, least := 2, most := 2 } else bif decide (k = 6) || decide (k = 14) || decide (k = 15) || decide (k = 18) then { least := 2, most := 2 } else {}
def wrongExpB (e : Exp) : Int :=
 bif decide (e.kind < 1) || decide (e.kind > 20) || !(expLM e.kind).name && !decide (e.name = []) || !(expLM e.kind).n && !decide (e.n = 0) || !(expLM e.kind).cases && decide ((e.cases.length : Int) > 0) || !(expLM e.kind).decs && decide ((e.decs.length : Int) > 0) || decide ((expLM e.kind).most = 0) && decide ((e.kids.length : Int) > 0) then 29
 else bif decide (e.kind = 2) && !lowB e.name || decide (e.kind = 3) && !conB e.name then 8
 else bif decide (e.kind = 1) && !isIntB e.n || decide (e.kind = 13) && (decide (e.n < 1) || decide (e.n > 9)) then 2
 else bif decide ((e.kids.length : Int) < (expLM e.kind).least) || decide ((e.kids.length : Int) > (expLM e.kind).most) || (expLM e.kind).cases && decide ((e.cases.length : Int) = 0) || (expLM e.kind).decs && decide ((e.decs.length : Int) = 0) then 19 else 0
def wrongDecC (k : Int) (nm : Str) (p nl nc nf : Int) (inn : Bool) : Int :=
 bif !(bif decide (k = 1) then !decide (nf > 0) && !(!decide (nm = []) || !decide (p = 0)) && !decide (nl > 0) else bif decide (k = 2) then !decide (nc > 0) && !(!decide (nm = []) || !decide (p = 0)) && !decide (nl > 0) else bif decide (k = 3) then !decide (nc > 0) && !decide (nf > 0) else bif decide (k = 4) then !decide (nc > 0) && !decide (nf > 0) && !(!decide (nm = []) || !decide (p = 0)) else false) || inn && !decide (k = 1) && !decide (k = 2) then 29
 else bif decide (k = 1) then (bif !decide (nc = 1) then 19 else 0)
 else bif decide (k = 2) then (bif !decide (nf > 0) then 19 else 0)
 else bif decide (k = 3) then (bif !lowB nm then 8 else bif !(decide (p ≥ 0) && decide (p ≤ 8) && decide (nl > 0) && decide (nl ≤ 64)) then 19 else 0)
 else bif decide (k = 4) then (bif !decide (nl = 1) then 19 else 0)
 else 0
def wrongDecB (d : Dec) (inn : Bool) : Int := wrongDecC d.kind d.name d.params d.cons.length d.case.length d.funs.length inn
inductive TNode where
 | dec (inn : Bool) (d : Dec)
 | exp (e : Exp)
 | pat (p : Pat)
 | ty (t : Ty) (at_ : Int)
 | fn (f : Fun)
 | con (c : Con)
namespace TNode
def at_ : TNode → Int
 | dec _ d => d.at_
 | exp e => e.at_
 | pat p => p.at_
 | ty _ a => a
 | fn f => f.at_
 | con c => c.at_
def wrong : TNode → Int × Str
 | dec inn d => (wrongDecB d inn, d.name)
 | exp e => (wrongExpB e, e.name)
 | pat p => (wrongPatB p, p.name)
 | ty t _ => (wrongTyB t, t.name)
 | fn f => (bif !lowB f.name then 8 else 0, f.name)
 | con c => (wrongConB c, c.name)
def isNode : TNode → Bool
 | fn _ | con _ => false
 | _ => true
def name : TNode → Str
 | dec _ d => d.name
 | exp e => e.name
 | pat p => p.name
 | ty t _ => t.name
 | fn f => f.name
 | con c => c.name
def thing (r : List AV) : TNode → AV
 | dec inn d => .agg [.cp (d.cells ++ r), .bool inn, .nilp, .nilp, .nilp, .nilp, .nilp, .int .i64 d.at_]
 | exp e => .agg [.nilp, .bool false, .nilp, .nilp, .cp (e.cells ++ r), .nilp, .nilp, .int .i64 e.at_]
 | pat p => .agg [.nilp, .bool false, .nilp, .nilp, .nilp, .cp (p.cells ++ r), .nilp, .int .i64 p.at_]
 | ty t a => .agg [.nilp, .bool false, .nilp, .nilp, .nilp, .nilp, .cp (t.cells ++ r), .int .i64 a]
 | fn f => .agg [.nilp, .bool false, .cp (f.cells ++ r), .nilp, .nilp, .nilp, .nilp, .int .i64 f.at_]
 | con c => .agg [.nilp, .bool false, .nilp, .cp (c.cells ++ r), .nilp, .nilp, .nilp, .int .i64 c.at_]
def cells : TNode → List AV
 | dec inn d => .int .i64 1 :: .bool inn :: .int .i64 d.at_ :: (d.cells ++ (Exp.zero.cells ++ (Pat.zero.cells ++ (Ty.zero.cells ++ (Fun.zero.cells ++ Con.zero.cells)))))
 | exp e => .int .i64 2 :: .bool false :: .int .i64 e.at_ :: (Dec.zero.cells ++ (e.cells ++ (Pat.zero.cells ++ (Ty.zero.cells ++ (Fun.zero.cells ++ Con.zero.cells)))))
 | pat p => .int .i64 3 :: .bool false :: .int .i64 p.at_ :: (Dec.zero.cells ++ (Exp.zero.cells ++ (p.cells ++ (Ty.zero.cells ++ (Fun.zero.cells ++ Con.zero.cells)))))
 | ty t a => .int .i64 4 :: .bool false :: .int .i64 a :: (Dec.zero.cells ++ (Exp.zero.cells ++ (Pat.zero.cells ++ (t.cells ++ (Fun.zero.cells ++ Con.zero.cells)))))
 | fn f => .int .i64 5 :: .bool false :: .int .i64 f.at_ :: (Dec.zero.cells ++ (Exp.zero.cells ++ (Pat.zero.cells ++ (Ty.zero.cells ++ (f.cells ++ Con.zero.cells)))))
 | con c => .int .i64 6 :: .bool false :: .int .i64 c.at_ :: (Dec.zero.cells ++ (Exp.zero.cells ++ (Pat.zero.cells ++ (Ty.zero.cells ++ (Fun.zero.cells ++ c.cells)))))
abbrev enc (n : TNode) : AV := .agg n.cells
@[go_sem] theorem cells_len (n : TNode) : n.cells.length = 47 := by
  cases n <;> simp [go_sem, cells, Con.cells, Con.zero, Fun.zero, Case.zero, Exp.zero, Pat.zero, Ty.zero, Dec.zero]
def what : TNode → Int
 | dec _ _ => 1 | exp _ => 2 | pat _ => 3 | ty _ _ => 4 | fn _ => 5 | con _ => 6
def inn : TNode → Bool
 | dec i _ => i
 | _ => false
theorem cells_3 (n : TNode) : n.cells = .int .i64 n.what :: .bool n.inn :: .int .i64 n.at_ :: n.cells.drop 3 := by cases n <;> rfl
theorem what_isNode (n : TNode) : decide (n.what ≤ 4) = n.isNode := by cases n <;> rfl
def ok : TNode → Prop
 | dec _ d => d.name.length < 2^40
 | exp e => e.name.length < 2^40 ∧ e.kids.length < 2^40 ∧ -9223372036854775808 ≤ e.n ∧ e.n ≤ 9223372036854775807
 | pat p => p.name.length < 2^40 ∧ -9223372036854775808 ≤ p.n ∧ p.n ≤ 9223372036854775807
 | ty t _ => t.name.length < 2^40
 | fn f => f.name.length < 2^40
 | con c => c.name.length < 2^40
end TNode
structure TBad where
 kind : Int
 at_ : Int
 name : Str
 deriving DecidableEq
def TBad.cells (b : TBad) : List AV := [.int .i64 b.kind, .int .i64 b.at_, .str b.name]
abbrev TBad.enc (b : TBad) : AV := .agg b.cells
def TBad.zero : TBad := ⟨0, 0, []⟩
def mkBad (e at_ : Int) (nm : Str) : TBad := bif decide (e = 0) then .zero else ⟨e, at_, bif !decide (e = 8) then [] else nm⟩
def TNode.bad (n : TNode) : TBad := mkBad n.wrong.1 n.at_ n.wrong.2
mutual
def nodesTy (a : Int) : Ty → List TNode
 | .mk k n s l b => .ty (.mk k n s l b) a :: nodesTys a l
def nodesTys (a : Int) : List Ty → List TNode
 | [] => []
 | t :: l => nodesTy a t ++ nodesTys a l
end
mutual
def nodesPat : Pat → List TNode
 | .mk k a s n l b => .pat (.mk k a s n l b) :: nodesPats l
def nodesPats : List Pat → List TNode
 | [] => []
 | t :: l => nodesPat t ++ nodesPats l
end
def nodesCon (c : Con) : List TNode := .con c :: (bif c.has then nodesTy c.at_ c.arg else [])
def nodesCons : List Con → List TNode
 | [] => []
 | c :: l => nodesCon c ++ nodesCons l
mutual
def nodesExp : Exp → List TNode
 | .mk k a s n l lb c cb d db => .exp (.mk k a s n l lb c cb d db) :: (nodesDecs true d ++ (nodesExps l ++ nodesCases c))
def nodesExps : List Exp → List TNode
 | [] => []
 | t :: l => nodesExp t ++ nodesExps l
def nodesCase : Case → List TNode
 | .mk p e => nodesPat p ++ nodesExp e
def nodesCases : List Case → List TNode
 | [] => []
 | t :: l => nodesCase t ++ nodesCases l
def nodesDec (inn : Bool) : Dec → List TNode
 | .mk k a s p l lb c cb f fb => .dec inn (.mk k a s p l lb c cb f fb) :: (nodesCases c ++ (nodesFuns f ++ nodesCons l))
def nodesDecs (inn : Bool) : List Dec → List TNode
 | [] => []
 | t :: l => nodesDec inn t ++ nodesDecs inn l
def nodesFun : Fun → List TNode
 | .mk s a c => .fn (.mk s a c) :: nodesCase c
def nodesFuns : List Fun → List TNode
 | [] => []
 | t :: l => nodesFun t ++ nodesFuns l
end
mutual
theorem Q3o (a : Int) : ∀ t : Ty, (nodesTy a t).length = t.size
 | .mk k n s l b => by have := Q7z a l; simp only [nodesTy, Ty.size, List.length_cons]; omega
theorem Q7z (a : Int) : ∀ l : List Ty, (nodesTys a l).length = Ty.sizes l
 | [] => rfl
 | t :: l => by have h1 := Q3o a t; have h2 := Q7z a l; simp only [nodesTys, Ty.sizes, List.length_append]; omega
end
mutual
theorem Q2N : ∀ t : Pat, (nodesPat t).length = t.size
 | .mk k a s n l b => by have := Q6O l; simp only [nodesPat, Pat.size, List.length_cons]; omega
theorem Q6O : ∀ l : List Pat, (nodesPats l).length = Pat.sizes l
 | [] => rfl
 | t :: l => by have h1 := Q2N t; have h2 := Q6O l; simp only [nodesPats, Pat.sizes, List.length_append]; omega
end
theorem QdX (c : Con) : (nodesCon c).length ≤ c.size := by
 have := Q3o c.at_ c.arg
 unfold nodesCon Con.size
 cases c.has <;> simp only [cond_true, cond_false, List.length_cons, List.length_nil] <;> omega
theorem Q6L : ∀ l : List Con, (nodesCons l).length ≤ Con.sizes l
 | [] => Nat.le_refl _
 | t :: l => by have h1 := QdX t; have h2 := Q6L l; simp only [nodesCons, Con.sizes, List.length_append]; omega
mutual
theorem Q2M : ∀ t : Exp, (nodesExp t).length ≤ t.size
 | .mk k a s n l lb c cb d db => by
   have h1 := Q2c true d; have h2 := Q6M l; have h3 := Q3j c
   simp only [nodesExp, Exp.size, List.length_cons, List.length_append]; omega
theorem Q6M : ∀ l : List Exp, (nodesExps l).length ≤ Exp.sizes l
 | [] => by simp only [nodesExps, Exp.sizes]; exact Nat.le_refl _
 | t :: l => by have h1 := Q2M t; have h2 := Q6M l; simp only [nodesExps, Exp.sizes, List.length_append]; omega
theorem Q1a : ∀ t : Case, (nodesCase t).length ≤ t.size
 | .mk p e => by have h1 := Q2N p; have h2 := Q2M e; simp only [nodesCase, Case.size, List.length_append]; omega
theorem Q3j : ∀ l : List Case, (nodesCases l).length ≤ Case.sizes l
 | [] => by simp only [nodesCases, Case.sizes]; exact Nat.le_refl _
 | t :: l => by have h1 := Q1a t; have h2 := Q3j l; simp only [nodesCases, Case.sizes, List.length_append]; omega
theorem Q4G (inn : Bool) : ∀ t : Dec, (nodesDec inn t).length ≤ t.size
 | .mk k a s p l lb c cb f fb => by
   have h1 := Q3j c; have h2 := Q6N f; have h3 := Q6L l
   simp only [nodesDec, Dec.size, List.length_cons, List.length_append]; omega
theorem Q2c (inn : Bool) : ∀ l : List Dec, (nodesDecs inn l).length ≤ Dec.sizes l
 | [] => by simp only [nodesDecs, Dec.sizes]; exact Nat.le_refl _
 | t :: l => by have h1 := Q4G inn t; have h2 := Q2c inn l; simp only [nodesDecs, Dec.sizes, List.length_append]; omega
theorem QdY : ∀ t : Fun, (nodesFun t).length ≤ t.size
 | .mk s a c => by have h1 := Q1a c; simp only [nodesFun, Fun.size, List.length_cons]; omega
theorem Q6N : ∀ l : List Fun, (nodesFuns l).length ≤ Fun.sizes l
 | [] => by simp only [nodesFuns, Fun.sizes]; exact Nat.le_refl _
 | t :: l => by have h1 := QdY t; have h2 := Q6N l; simp only [nodesFuns, Fun.sizes, List.length_append]; omega
end
theorem QG (a b c : Int) : a ≤ c → b ≤ c → maxI a b ≤ c := by unfold maxI; intros; split <;> omega
theorem QF (a b : Int) : a ≤ maxI a b := by unfold maxI; split <;> omega
mutual
def deepTy : Ty → Int
 | .mk _ _ _ l _ => deepTys l 0 + 1
def deepTys : List Ty → Int → Int
 | [], n => n
 | t :: l, n => deepTys l (maxI n (deepTy t))
end
mutual
def deepPat : Pat → Int
 | .mk _ _ _ _ l _ => deepPats l 0 + 1
def deepPats : List Pat → Int → Int
 | [], n => n
 | t :: l, n => deepPats l (maxI n (deepPat t))
end
def deepCons : List Con → Int → Int
 | [], n => n
 | c :: l, n => deepCons l (bif c.has then maxI n (deepTy c.arg) else n)
mutual
def deepExp : Exp → Int
 | .mk _ _ _ _ l _ c _ d _ => deepExps l (maxI (deepDecs d 0) (deepCases c 0)) + 1
def deepExps : List Exp → Int → Int
 | [], n => n
 | t :: l, n => deepExps l (maxI n (deepExp t))
def deepCases : List Case → Int → Int
 | [], n => n
 | .mk p e :: l, n => deepCases l (maxI (maxI n (deepPat p)) (deepExp e))
def deepDecs : List Dec → Int → Int
 | [], n => n
 | .mk _ _ _ _ l _ c _ f _ :: r, n => deepDecs r (maxI n (deepCons l (deepFuns f (deepCases c 0)) + 1))
def deepFuns : List Fun → Int → Int
 | [], n => n
 | .mk _ _ c :: l, n => deepFuns l (maxI n (deepCase c))
def deepCase : Case → Int
 | .mk p e => maxI (maxI 0 (deepPat p)) (deepExp e)
end
mutual
theorem Q2k : ∀ t : Ty, 0 ≤ deepTy t ∧ deepTy t ≤ t.size
 | .mk _ _ _ l _ => by have := Q9P l 0; simp only [deepTy, Ty.size] at *; omega
theorem Q9P : ∀ (l : List Ty) (n : Int), n ≤ deepTys l n ∧ deepTys l n ≤ max n (Ty.sizes l)
 | [], n => by simp only [deepTys, Ty.sizes]; omega
 | t :: l, n => by
   have h1 := Q2k t
   have h2 := Q9P l (maxI n (deepTy t))
   simp only [deepTys, Ty.sizes, maxI] at *
   split at h2 <;> split <;> omega
end
mutual
theorem ZG : ∀ t : Pat, 0 ≤ deepPat t ∧ deepPat t ≤ t.size
 | .mk _ _ _ _ l _ => by have := Q5x l 0; simp only [deepPat, Pat.size] at *; omega
theorem Q5x : ∀ (l : List Pat) (n : Int), n ≤ deepPats l n ∧ deepPats l n ≤ max n (Pat.sizes l)
 | [], n => by simp only [deepPats, Pat.sizes]; omega
 | t :: l, n => by
   have h1 := ZG t
   have h2 := Q5x l (maxI n (deepPat t))
   simp only [deepPats, Pat.sizes, maxI] at *
   split at h2 <;> split <;> omega
end
theorem Q1X : ∀ (l : List Con) (n : Int), n ≤ deepCons l n ∧ deepCons l n ≤ max n (Con.sizes l)
 | [], n => by simp only [deepCons, Con.sizes]; omega
 | c :: l, n => by
   have h1 := Q2k c.arg
   have h2 := Q1X l (bif c.has then maxI n (deepTy c.arg) else n)
   simp only [deepCons, Con.sizes, Con.size, maxI] at *
   cases hc : c.has <;> simp only [hc, cond_true, cond_false] at h2 ⊢
   ·omega
   ·split at h2 <;> split <;> omega
mutual
theorem ZF : ∀ t : Exp, 0 ≤ deepExp t ∧ deepExp t ≤ t.size
 | .mk _ _ _ _ l _ c _ d _ => by
   have h1 := Q1m d 0
   have h2 := ZT c 0
   have h3 := Q1Y l (maxI (deepDecs d 0) (deepCases c 0))
   simp only [deepExp, Exp.size, maxI] at *
   split at h3 <;> split <;> omega
theorem Q1Y : ∀ (l : List Exp) (n : Int), n ≤ deepExps l n ∧ deepExps l n ≤ max n (Exp.sizes l)
 | [], n => by simp only [deepExps, Exp.sizes]; omega
 | t :: l, n => by
   have h1 := ZF t
   have h2 := Q1Y l (maxI n (deepExp t))
   simp only [deepExps, Exp.sizes, maxI] at *
   split at h2 <;> split <;> omega
theorem ZT : ∀ (l : List Case) (n : Int), n ≤ deepCases l n ∧ deepCases l n ≤ max n (Case.sizes l)
 | [], n => by simp only [deepCases, Case.sizes]; omega
 | .mk p e :: l, n => by
   have h1 := ZG p
   have h3 := ZF e
   have h2 := ZT l (maxI (maxI n (deepPat p)) (deepExp e))
   have h4 := QF n (deepPat p)
   have h5 := QF (maxI n (deepPat p)) (deepExp e)
   have h6 := QG n (deepPat p) (max n (p.size + e.size)) (by omega) (by omega)
   have h7 := QG (maxI n (deepPat p)) (deepExp e) (max n (p.size + e.size)) (by omega) (by omega)
   simp only [deepCases, Case.sizes, Case.size] at *
   omega
theorem Q1m : ∀ (l : List Dec) (n : Int), n ≤ deepDecs l n ∧ deepDecs l n ≤ max n (Dec.sizes l)
 | [], n => by simp only [deepDecs, Dec.sizes]; omega
 | .mk _ _ _ _ l _ c _ f _ :: r, n => by
   have h1 := ZT c 0
   have h2 := Q1n f (deepCases c 0)
   have h3 := Q1X l (deepFuns f (deepCases c 0))
   have h4 := Q1m r (maxI n (deepCons l (deepFuns f (deepCases c 0)) + 1))
   have h5 := QF n (deepCons l (deepFuns f (deepCases c 0)) + 1)
   have h6 := QG n (deepCons l (deepFuns f (deepCases c 0)) + 1) (max n (Con.sizes l + Case.sizes c + Fun.sizes f + 1)) (by omega) (by omega)
   simp only [deepDecs, Dec.sizes, Dec.size] at *
   omega
theorem Q1n : ∀ (l : List Fun) (n : Int), n ≤ deepFuns l n ∧ deepFuns l n ≤ max n (Fun.sizes l)
 | [], n => by simp only [deepFuns, Fun.sizes]; omega
 | .mk _ _ c :: l, n => by
   have h1 := Q8g c
   have h2 := Q1n l (maxI n (deepCase c))
   simp only [deepFuns, Fun.sizes, Fun.size, maxI] at *
   split at h2 <;> split <;> omega
theorem Q8g : ∀ (c : Case), 0 ≤ deepCase c ∧ deepCase c ≤ c.size
 | .mk p e => by
   have h1 := ZG p
   have h2 := ZF e
   have h3 := QF 0 (deepPat p)
   have h4 := QF (maxI 0 (deepPat p)) (deepExp e)
   have h6 := QG 0 (deepPat p) (p.size + e.size) (by omega) (by omega)
   have h7 := QG (maxI 0 (deepPat p)) (deepExp e) (p.size + e.size) (by omega) (by omega)
   simp only [deepCase, Case.size]
   omega
end
theorem ZO (a b : Int) : maxI a b = max a b := by unfold maxI; split <;> omega
theorem Q7g : ∀ (l : List Exp) (n m : Int), deepExps l (max n m) = max n (deepExps l m)
 | [], n, m => by simp only [deepExps]
 | t :: l, n, m => by
   simp only [deepExps, ZO]
   rw [← Q7g l n]
   congr 1
   omega
theorem Q6H : ∀ (l : List Case) (n m : Int), deepCases l (max n m) = max n (deepCases l m)
 | [], n, m => by simp only [deepCases]
 | .mk p e :: l, n, m => by
   simp only [deepCases, ZO]
   rw [← Q6H l n]
   congr 1
   omega
theorem QeH (l : List Exp) (c : List Case) (d : List Dec) : deepCases c (deepExps l (deepDecs d 0)) = deepExps l (maxI (deepDecs d 0) (deepCases c 0)) := by
 have h1 := Q1m d 0
 have h2 := Q1Y l (deepDecs d 0)
 rw [ZO, show deepExps l (deepDecs d 0) = max (deepExps l (deepDecs d 0)) 0 by omega, Q6H]
 rw [Int.max_comm (deepDecs d 0), Q7g]
 omega
theorem Qdt (c : Case) (n : Int) (h : 0 ≤ n) : maxI (maxI n (deepPat c.pat)) (deepExp c.exp) = maxI n (deepCase c) := by
 obtain ⟨p, e⟩ := c
 simp only [Case.pat, Case.exp, deepCase, ZO]
 omega
def countN (l : List TNode) : Nat := (l.filter TNode.isNode).length
def firstBad : List TNode → TBad
 | [] => .zero
 | n :: l => bif decide (n.bad.kind = 0) then firstBad l else n.bad
def rightN (l : List TNode) (deep : Int) : TBad :=
 bif decide (countN l > 8192) then ⟨4, 0, []⟩ else bif decide (deep > 100) then ⟨7, 0, []⟩ else firstBad l
end Go.Am
namespace Go.Am
open Go
section
variable {H : Type} {ti : TypeId → TI}
def Fields (ti : TypeId → TI) (n : Nat) : List (Nat × TypeId) → List (DataW H) → List (List AV) → Prop
 | [], [], [] => True
 | f :: fs, d :: ds, l :: ls => conv ti n f.2 d = some l ∧ Fields ti n fs ds ls
 | _, _, _ => False
theorem Qc2 (n : Nat) : ∀ (fs : List (Nat × TypeId)) (ds : List (DataW H)) (ls : List (List AV)), fs.length = ds.length → ((fs.zip ds).mapM fun p => conv ti n p.1.2 p.2) = some ls → Fields ti n fs ds ls
 | [], [], ls, _, h => by simp at h; subst h; trivial
 | f :: fs, d :: ds, ls, hl, h => by
   rw [List.zip_cons_cons, List.mapM_cons] at h
   cases h1 : conv ti n f.2 d with
   | none => simp [h1] at h
   | some l =>
     cases h2 : ((fs.zip ds).mapM fun p => conv ti n p.1.2 p.2) with
     | none => simp [h1, h2] at h
     | some ls' =>
       simp [h1, h2] at h
       subst h
       exact ⟨h1, Qc2 n fs ds ls' (by simpa using hl) h2⟩
 | [], _ :: _, _, hl, _ => by simp at hl
 | _ :: _, [], _, hl, _ => by simp at hl
theorem QN {n : Nat} {t : TypeId} {d : DataW H} {l : List AV} {fs : List (Nat × TypeId)} (hk : (ti t).k = .struct fs) (h : conv ti (n + 1) t d = some l) : ∃ parts ls, d = .agg parts ∧ Fields ti n fs parts ls ∧ l = ls.flatten := by
 simp only [conv, hk] at h
 split at h <;> first | (cases h; done) | skip
 all_goals try (rename_i hx; cases hx; done)
 rename_i fs' parts hx
 cases hx
 split at h
 ·rename_i hl
  obtain ⟨ls, h1, rfl⟩ := Option.map_eq_some_iff.1 h
  exact ⟨parts, ls, rfl, Qc2 n _ _ _ hl h1, rfl⟩
 ·cases h
theorem QT {n : Nat} {t : TypeId} {d : DataW H} {l : List AV} {k : IntKind} (hk : (ti t).k = .int k) (h : conv ti n t d = some l) : ∃ x, d = .lit (.int k x) ∧ l = [.int k x] ∧ (Lit.int k x).wf = true := by
 cases n with
 | zero => simp [conv] at h
 | succ n =>
   simp only [conv, hk] at h
   split at h <;> first | (cases h; done) | skip
   all_goals try (rename_i hx; cases hx; done)
   rename_i k' j x hx
   cases hx
   split at h
   ·rename_i hc
    obtain ⟨rfl, hc⟩ := hc
    cases h
    exact ⟨x, rfl, rfl, hc⟩
   ·cases h
theorem QbR {n : Nat} {t : TypeId} {d : DataW H} {l : List AV} (hk : (ti t).k = .bool) (h : conv ti n t d = some l) : ∃ b, d = .lit (.bool b) ∧ l = [.bool b] := by
 cases n with
 | zero => simp [conv] at h
 | succ n =>
   simp only [conv, hk] at h
   split at h <;> first | (cases h; done) | skip
   all_goals try (rename_i hx; cases hx; done)
   rename_i b hx
   cases h
   exact ⟨b, rfl, rfl⟩
theorem Q1w {n : Nat} {t : TypeId} {d : DataW H} {l : List AV} (hk : (ti t).k = .str) (h : conv ti n t d = some l) : ∃ s, d = .lit (.string s) ∧ l = [.str s] := by
 cases n with
 | zero => simp [conv] at h
 | succ n =>
   simp only [conv, hk] at h
   split at h <;> first | (cases h; done) | skip
   all_goals try (rename_i hx; cases hx; done)
   rename_i s hx
   split at h
   ·cases h
    exact ⟨s, rfl, rfl⟩
   ·cases h
theorem QfR {n : Nat} {t e : TypeId} {d : DataW H} {l : List AV} (hk : (ti t).k = .slice e) (h : conv ti (n + 1) t d = some l) : (d = .nil ∧ l = [.nils]) ∨ ∃ elems spare xs, d = .slice elems spare ∧ (elems.mapM fun d => (conv ti n e d).bind (ofCells (ti e))) = some xs ∧ l = [.sl xs] := by
 simp only [conv, hk] at h
 split at h <;> first | (cases h; done) | skip
 all_goals try (rename_i hx; cases hx; done)
 ·cases h
  exact .inl ⟨rfl, rfl⟩
 ·rename_i e' elems spare hx
  cases hx
  split at h
  ·obtain ⟨xs, h1, rfl⟩ := Option.map_eq_some_iff.1 h
   exact .inr ⟨elems, spare, xs, rfl, h1, rfl⟩
  ·cases h
end
end Go.Am
namespace Go.Proofs.YtoahliipbclneaaGreat
open Go Go.Am
set_option linter.unusedVariables false
set_option maxRecDepth 4000
section
variable {H : Type}
theorem QbX {τ : Type} {cells : τ → List AV} {G : Nat → τ → Prop} {GL : Nat → List τ → Prop} {e : TypeId} {n : Nat} (ha : (C.ti e).isAgg = true) (h0 : GL 0 []) (h1 : ∀ m k t L, G m t → GL k L → GL (m + k) (t :: L))
  (he : ∀ (d : DataW H) l, conv C.ti n e d = some l → Rows.uptoBulk d < 2^30 → ∃ t, l = cells t ∧ G (Rows.uptoBulk d) t) : ∀ (ds : List (DataW H)) (xs : List AV), (ds.mapM fun d => (conv C.ti n e d).bind (ofCells (C.ti e))) = some xs → Rows.uptoBulkAll ds < 2^30 → ∃ L, xs = L.map (fun t => .agg (cells t)) ∧ GL (Rows.uptoBulkAll ds) L
 | [], xs, h, _ => by simp at h; subst h; exact ⟨[], rfl, by simpa only [Rows.uptoBulkAll] using h0⟩
 | d :: ds, xs, h, hb => by
   simp only [Rows.uptoBulkAll] at hb ⊢
   rw [List.mapM_cons] at h
   cases h2 : (conv C.ti n e d) with
   | none => simp [h2] at h
   | some l =>
     obtain ⟨t, rfl, ht⟩ := he d l h2 (by omega)
     cases h3 : ofCells (C.ti e) (cells t) with
     | none => simp [h2, h3] at h
     | some v =>
       cases h4 : (ds.mapM fun d => (conv C.ti n e d).bind (ofCells (C.ti e))) with
       | none => simp [h2, h3, h4] at h
       | some ys =>
         simp [h2, h3, h4] at h
         subst h
         obtain ⟨L, rfl, hL⟩ := QbX ha h0 h1 he ds ys h4 (by omega)
         have : v = .agg (cells t) := by
          unfold ofCells at h3
          rw [ha, cond_true] at h3
          split at h3 <;> cases h3
          rfl
         subst this
         exact ⟨t :: L, rfl, h1 _ _ _ _ ht hL⟩
theorem Q0i {τ : Type} {cells : τ → List AV} {G : Nat → τ → Prop} {GL : Nat → List τ → Prop} {t e : TypeId} {n : Nat} (hk : (C.ti t).k = .slice e) (ha : (C.ti e).isAgg = true) (h0 : GL 0 []) (h1 : ∀ m k t L, G m t → GL k L → GL (m + k) (t :: L))
  (he : ∀ (d : DataW H) l, conv C.ti n e d = some l → Rows.uptoBulk d < 2^30 → ∃ t, l = cells t ∧ G (Rows.uptoBulk d) t) (d : DataW H) (l : List AV) (h : conv C.ti (n + 1) t d = some l) (hb : Rows.uptoBulk d < 2^30) : ∃ L b k, l = [encS b (L.map fun t => .agg (cells t))] ∧ GL k L ∧ k + 1 ≤ Rows.uptoBulk d := by
 rcases QfR hk h with ⟨rfl, rfl⟩ | ⟨elems, spare, xs, rfl, h2, rfl⟩
 ·exact ⟨[], true, 0, rfl, h0, by simp only [Rows.uptoBulk]; omega⟩
 ·simp only [Rows.uptoBulk] at hb ⊢
  obtain ⟨L, rfl, hL⟩ := QbX ha h0 h1 he elems xs h2 (by omega)
  exact ⟨L, false, _, rfl, hL, by omega⟩
def GTy (b : Nat) (t : Ty) : Prop := t.size ≤ b ∧ ∀ a, ∀ n ∈ nodesTy a t, n.ok
def GTys (b : Nat) (l : List Ty) : Prop := Ty.sizes l ≤ b ∧ ∀ a, ∀ n ∈ nodesTys a l, n.ok
theorem GTys.nil : GTys 0 [] := ⟨Nat.le_refl _, by simp [nodesTys]⟩
theorem GTys.cons (m k : Nat) (t : Ty) (L : List Ty) (h : GTy m t) (g : GTys k L) : GTys (m + k) (t :: L) := by
 refine ⟨by have := h.1; have := g.1; simp only [Ty.sizes]; omega, fun a n hn => ?_⟩
 simp only [nodesTys, List.mem_append] at hn
 rcases hn with hn | hn
 ·exact h.2 a n hn
 ·exact g.2 a n hn
theorem Qdp : ∀ (n : Nat) (d : DataW H) l, conv C.ti n Q4 d = some l → Rows.uptoBulk d < 2^30 → ∃ t : Ty, l = t.cells ∧ GTy (Rows.uptoBulk d) t
 | 0, d, l, h, _ => by simp [conv] at h
 | 1, d, l, h, _ => by
   obtain ⟨parts, ls, rfl, hf, rfl⟩ := QN QgB h
   rcases parts with _ | ⟨d1, _ | ⟨d2, _ | ⟨d3, _ | ⟨d4, _ | _⟩⟩⟩⟩ <;> rcases ls with _ | ⟨l1, _ | ⟨l2, _ | ⟨l3, _ | ⟨l4, _ | _⟩⟩⟩⟩ <;> simp only [Fields, and_false] at hf
   simp [conv] at hf
 | n + 2, d, l, h, hb => by
   obtain ⟨parts, ls, rfl, hf, rfl⟩ := QN QgB h
   rcases parts with _ | ⟨d1, _ | ⟨d2, _ | ⟨d3, _ | ⟨d4, _ | _⟩⟩⟩⟩ <;> rcases ls with _ | ⟨l1, _ | ⟨l2, _ | ⟨l3, _ | ⟨l4, _ | _⟩⟩⟩⟩ <;> simp only [Fields, and_false] at hf
   obtain ⟨c1, c2, c3, c4, -⟩ := hf
   simp only [Rows.uptoBulk, Rows.uptoBulkAll] at hb ⊢
   obtain ⟨k, rfl, rfl, w1⟩ := QT QfI c1
   obtain ⟨m, rfl, rfl, w2⟩ := QT Q02 c2
   obtain ⟨s, rfl, rfl⟩ := Q1w Qw c3
   simp only [Rows.uptoBulk] at hb ⊢
   obtain ⟨L, b, k', rfl, hL, hk⟩ := Q0i Q68 Qde GTys.nil GTys.cons (fun d l h hb => Qdp n d l h hb) d4 l4 c4 (by omega)
   refine ⟨.mk k m s L b, by rw [Ty.cells_mk]; rfl, by have := hL.1; simp only [Ty.size]; omega, fun a nd hn => ?_⟩
   simp only [nodesTy, List.mem_cons] at hn
   rcases hn with rfl | hn
   ·simp only [TNode.ok, Ty.name]; omega
   ·exact hL.2 a nd hn
theorem wf64 {x : Int} (h : (Lit.int .i64 x).wf = true) : -9223372036854775808 ≤ x ∧ x ≤ 9223372036854775807 := by
 simp only [Lit.wf, Bool.and_eq_true, decide_eq_true_eq] at h
 exact h
def GPat (b : Nat) (t : Pat) : Prop := t.size ≤ b ∧ ∀ n ∈ nodesPat t, n.ok
def GPats (b : Nat) (l : List Pat) : Prop := Pat.sizes l ≤ b ∧ ∀ n ∈ nodesPats l, n.ok
theorem GPats.nil : GPats 0 [] := ⟨Nat.le_refl _, by simp [nodesPats]⟩
theorem GPats.cons (m k : Nat) (t : Pat) (L : List Pat) (h : GPat m t) (g : GPats k L) : GPats (m + k) (t :: L) := by
 refine ⟨by have := h.1; have := g.1; simp only [Pat.sizes]; omega, fun n hn => ?_⟩
 simp only [nodesPats, List.mem_append] at hn
 rcases hn with hn | hn
 ·exact h.2 n hn
 ·exact g.2 n hn
theorem Qfh : ∀ (n : Nat) (d : DataW H) l, conv C.ti n QM d = some l → Rows.uptoBulk d < 2^30 → ∃ t : Pat, l = t.cells ∧ GPat (Rows.uptoBulk d) t
 | 0, d, l, h, _ => by simp [conv] at h
 | 1, d, l, h, _ => by
   obtain ⟨parts, ls, rfl, hf, rfl⟩ := QN Qfc h
   rcases parts with _ | ⟨d1, _ | ⟨d2, _ | ⟨d3, _ | ⟨d4, _ | ⟨d5, _ | _⟩⟩⟩⟩⟩ <;> rcases ls with _ | ⟨l1, _ | ⟨l2, _ | ⟨l3, _ | ⟨l4, _ | ⟨l5, _ | _⟩⟩⟩⟩⟩ <;> simp only [Fields, and_false] at hf
   simp [conv] at hf
 | n + 2, d, l, h, hb => by
   obtain ⟨parts, ls, rfl, hf, rfl⟩ := QN Qfc h
   rcases parts with _ | ⟨d1, _ | ⟨d2, _ | ⟨d3, _ | ⟨d4, _ | ⟨d5, _ | _⟩⟩⟩⟩⟩ <;> rcases ls with _ | ⟨l1, _ | ⟨l2, _ | ⟨l3, _ | ⟨l4, _ | ⟨l5, _ | _⟩⟩⟩⟩⟩ <;> simp only [Fields, and_false] at hf
   obtain ⟨c1, c2, c3, c4, c5, -⟩ := hf
   simp only [Rows.uptoBulk, Rows.uptoBulkAll] at hb ⊢
   obtain ⟨k, rfl, rfl, w1⟩ := QT Qex c1
   obtain ⟨a, rfl, rfl, w2⟩ := QT Q02 c2
   obtain ⟨s, rfl, rfl⟩ := Q1w Qw c3
   obtain ⟨m, rfl, rfl, w4⟩ := QT Q02 c4
   simp only [Rows.uptoBulk] at hb ⊢
   obtain ⟨L, b, k', rfl, hL, hk⟩ := Q0i Qgz Qgu GPats.nil GPats.cons (fun d l h hb => Qfh n d l h hb) d5 l5 c5 (by omega)
   refine ⟨.mk k a s m L b, by rw [Pat.cells_mk]; rfl, by have := hL.1; simp only [Pat.size]; omega, fun nd hn => ?_⟩
   simp only [nodesPat, List.mem_cons] at hn
   rcases hn with rfl | hn
   ·exact ⟨by simp only [Pat.name]; omega, wf64 w4⟩
   ·exact hL.2 nd hn
def GCon (b : Nat) (t : Con) : Prop := t.size ≤ b ∧ ∀ n ∈ nodesCon t, n.ok
def GCons (b : Nat) (l : List Con) : Prop := Con.sizes l ≤ b ∧ ∀ n ∈ nodesCons l, n.ok
theorem GCons.nil : GCons 0 [] := ⟨Nat.le_refl _, by simp [nodesCons]⟩
theorem GCons.cons (m k : Nat) (t : Con) (L : List Con) (h : GCon m t) (g : GCons k L) : GCons (m + k) (t :: L) := by
 refine ⟨by have := h.1; have := g.1; simp only [Con.sizes]; omega, fun n hn => ?_⟩
 simp only [nodesCons, List.mem_append] at hn
 rcases hn with hn | hn
 ·exact h.2 n hn
 ·exact g.2 n hn
theorem Qjt : ∀ (n : Nat) (d : DataW H) l, conv C.ti n Qi d = some l → Rows.uptoBulk d < 2^30 → ∃ t : Con, l = t.cells ∧ GCon (Rows.uptoBulk d) t
 | 0, d, l, h, _ => by simp [conv] at h
 | n + 1, d, l, h, hb => by
   obtain ⟨parts, ls, rfl, hf, rfl⟩ := QN Qj2 h
   rcases parts with _ | ⟨d1, _ | ⟨d2, _ | ⟨d3, _ | ⟨d4, _ | _⟩⟩⟩⟩ <;> rcases ls with _ | ⟨l1, _ | ⟨l2, _ | ⟨l3, _ | ⟨l4, _ | _⟩⟩⟩⟩ <;> simp only [Fields, and_false] at hf
   obtain ⟨c1, c2, c3, c4, -⟩ := hf
   simp only [Rows.uptoBulk, Rows.uptoBulkAll] at hb ⊢
   obtain ⟨s, rfl, rfl⟩ := Q1w Qw c1
   obtain ⟨a, rfl, rfl, w2⟩ := QT Q02 c2
   obtain ⟨hs, rfl, rfl⟩ := QbR Qdf c3
   simp only [Rows.uptoBulk] at hb ⊢
   obtain ⟨t, rfl, ht⟩ := Qdp n d4 l4 c4 (by omega)
   refine ⟨⟨s, a, hs, t⟩, by simp [Con.cells], by have := ht.1; simp only [Con.size]; omega, fun nd hn => ?_⟩
   simp only [nodesCon, List.mem_cons] at hn
   rcases hn with rfl | hn
   ·simp only [TNode.ok]; omega
   ·cases hs
    ·simp at hn
    ·exact ht.2 _ nd hn
def GExp (b : Nat) (t : Exp) : Prop := t.size ≤ b ∧ ∀ n ∈ nodesExp t, n.ok
def GExps (b : Nat) (l : List Exp) : Prop := Exp.sizes l ≤ b ∧ ∀ n ∈ nodesExps l, n.ok
def GCase (b : Nat) (t : Case) : Prop := t.size ≤ b ∧ ∀ n ∈ nodesCase t, n.ok
def GCases (b : Nat) (l : List Case) : Prop := Case.sizes l ≤ b ∧ ∀ n ∈ nodesCases l, n.ok
def GDec (b : Nat) (t : Dec) : Prop := t.size ≤ b ∧ ∀ i, ∀ n ∈ nodesDec i t, n.ok
def GDecs (b : Nat) (l : List Dec) : Prop := Dec.sizes l ≤ b ∧ ∀ i, ∀ n ∈ nodesDecs i l, n.ok
def GFun (b : Nat) (t : Fun) : Prop := t.size ≤ b ∧ ∀ n ∈ nodesFun t, n.ok
def GFuns (b : Nat) (l : List Fun) : Prop := Fun.sizes l ≤ b ∧ ∀ n ∈ nodesFuns l, n.ok
theorem GDecs.nil : GDecs 0 [] := ⟨by simp [Dec.sizes], by simp [nodesDecs]⟩
theorem GDecs.cons (m k : Nat) (t : Dec) (L : List Dec) (h : GDec m t) (g : GDecs k L) : GDecs (m + k) (t :: L) := by
 refine ⟨by have := h.1; have := g.1; simp only [Dec.sizes]; omega, fun i n hn => ?_⟩
 simp only [nodesDecs, List.mem_append] at hn
 rcases hn with hn | hn
 ·exact h.2 i n hn
 ·exact g.2 i n hn
theorem GExps.nil : GExps 0 [] := ⟨by simp [Exp.sizes], by simp [nodesExps]⟩
theorem GExps.cons (m k : Nat) (t : Exp) (L : List Exp) (h : GExp m t) (g : GExps k L) : GExps (m + k) (t :: L) := by
 refine ⟨by have := h.1; have := g.1; simp only [Exp.sizes]; omega, fun n hn => ?_⟩
 simp only [nodesExps, List.mem_append] at hn
 rcases hn with hn | hn
 ·exact h.2 n hn
 ·exact g.2 n hn
theorem GCases.nil : GCases 0 [] := ⟨by simp [Case.sizes], by simp [nodesCases]⟩
theorem GCases.cons (m k : Nat) (t : Case) (L : List Case) (h : GCase m t) (g : GCases k L) : GCases (m + k) (t :: L) := by
 refine ⟨by have := h.1; have := g.1; simp only [Case.sizes]; omega, fun n hn => ?_⟩
 simp only [nodesCases, List.mem_append] at hn
 rcases hn with hn | hn
 ·exact h.2 n hn
 ·exact g.2 n hn
theorem GFuns.nil : GFuns 0 [] := ⟨by simp [Fun.sizes], by simp [nodesFuns]⟩
theorem GFuns.cons (m k : Nat) (t : Fun) (L : List Fun) (h : GFun m t) (g : GFuns k L) : GFuns (m + k) (t :: L) := by
 refine ⟨by have := h.1; have := g.1; simp only [Fun.sizes]; omega, fun n hn => ?_⟩
 simp only [nodesFuns, List.mem_append] at hn
 rcases hn with hn | hn
 ·exact h.2 n hn
 ·exact g.2 n hn
structure DecAll (H : Type) (n : Nat) : Prop where
 exp : ∀ (d : DataW H) l, conv C.ti n QL d = some l → Rows.uptoBulk d < 2^30 → ∃ t : Exp, l = t.cells ∧ GExp (Rows.uptoBulk d) t
 case : ∀ (d : DataW H) l, conv C.ti n QI d = some l → Rows.uptoBulk d < 2^30 → ∃ t : Case, l = t.cells ∧ GCase (Rows.uptoBulk d) t
 dec : ∀ (d : DataW H) l, conv C.ti n Qc d = some l → Rows.uptoBulk d < 2^30 → ∃ t : Dec, l = t.cells ∧ GDec (Rows.uptoBulk d) t
 fn : ∀ (d : DataW H) l, conv C.ti n ZD d = some l → Rows.uptoBulk d < 2^30 → ∃ t : Fun, l = t.cells ∧ GFun (Rows.uptoBulk d) t
theorem Qi0 (n : Nat) (ih : DecAll H n) : ∀ (d : DataW H) l, conv C.ti (n + 2) QL d = some l → Rows.uptoBulk d < 2^30 → ∃ t : Exp, l = t.cells ∧ GExp (Rows.uptoBulk d) t := fun d l h hb => by
  obtain ⟨parts, ls, rfl, hf, rfl⟩ := QN Qfb h
  rcases parts with _ | ⟨d1, _ | ⟨d2, _ | ⟨d3, _ | ⟨d4, _ | ⟨d5, _ | ⟨d6, _ | ⟨d7, _ | _⟩⟩⟩⟩⟩⟩⟩ <;> rcases ls with _ | ⟨l1, _ | ⟨l2, _ | ⟨l3, _ | ⟨l4, _ | ⟨l5, _ | ⟨l6, _ | ⟨l7, _ | _⟩⟩⟩⟩⟩⟩⟩ <;> simp only [Fields, and_false] at hf
  obtain ⟨c1, c2, c3, c4, c5, c6, c7, -⟩ := hf
  simp only [Rows.uptoBulk, Rows.uptoBulkAll] at hb ⊢
  obtain ⟨k, rfl, rfl, w1⟩ := QT Qew c1
  obtain ⟨a, rfl, rfl, w2⟩ := QT Q02 c2
  obtain ⟨s, rfl, rfl⟩ := Q1w Qw c3
  obtain ⟨m, rfl, rfl, w4⟩ := QT Q02 c4
  simp only [Rows.uptoBulk] at hb ⊢
  obtain ⟨L, b, k', rfl, hL, hk⟩ := Q0i Qgx Qgs GExps.nil GExps.cons ih.exp d5 l5 c5 (by omega)
  obtain ⟨L2, b2, k2', rfl, hL2, hk2⟩ := Q0i Q9x Q9w GCases.nil GCases.cons ih.case d6 l6 c6 (by omega)
  obtain ⟨L3, b3, k3', rfl, hL3, hk3⟩ := Q0i QbJ QbI GDecs.nil GDecs.cons ih.dec d7 l7 c7 (by omega)
  refine ⟨.mk k a s m L b L2 b2 L3 b3, by rw [Exp.cells_mk]; rfl, by have := hL.1; have := hL2.1; have := hL3.1; simp only [Exp.size]; omega, fun nd hn => ?_⟩
  simp only [nodesExp, List.mem_cons, List.mem_append] at hn
  rcases hn with rfl | hn | hn | hn
  ·have h1 := hL.1
   have h2 := Exp.len_sizes L
   exact ⟨by simp only [Exp.name]; omega, by simp only [Exp.kids]; omega, wf64 w4⟩
  ·exact hL3.2 _ nd hn
  ·exact hL.2 nd hn
  ·exact hL2.2 nd hn
theorem QhZ (n : Nat) (ih : DecAll H n) : ∀ (d : DataW H) l, conv C.ti (n + 2) Qc d = some l → Rows.uptoBulk d < 2^30 → ∃ t : Dec, l = t.cells ∧ GDec (Rows.uptoBulk d) t := fun d l h hb => by
  obtain ⟨parts, ls, rfl, hf, rfl⟩ := QN Qfa h
  rcases parts with _ | ⟨d1, _ | ⟨d2, _ | ⟨d3, _ | ⟨d4, _ | ⟨d5, _ | ⟨d6, _ | ⟨d7, _ | _⟩⟩⟩⟩⟩⟩⟩ <;> rcases ls with _ | ⟨l1, _ | ⟨l2, _ | ⟨l3, _ | ⟨l4, _ | ⟨l5, _ | ⟨l6, _ | ⟨l7, _ | _⟩⟩⟩⟩⟩⟩⟩ <;> simp only [Fields, and_false] at hf
  obtain ⟨c1, c2, c3, c4, c5, c6, c7, -⟩ := hf
  simp only [Rows.uptoBulk, Rows.uptoBulkAll] at hb ⊢
  obtain ⟨k, rfl, rfl, w1⟩ := QT Qev c1
  obtain ⟨a, rfl, rfl, w2⟩ := QT Q02 c2
  obtain ⟨s, rfl, rfl⟩ := Q1w Qw c3
  obtain ⟨m, rfl, rfl, w4⟩ := QT Q02 c4
  simp only [Rows.uptoBulk] at hb ⊢
  obtain ⟨L, b, k', rfl, hL, hk⟩ := Q0i Qgw QbH GCons.nil GCons.cons (Qjt n) d5 l5 c5 (by omega)
  obtain ⟨L2, b2, k2', rfl, hL2, hk2⟩ := Q0i Q9x Q9w GCases.nil GCases.cons ih.case d6 l6 c6 (by omega)
  obtain ⟨L3, b3, k3', rfl, hL3, hk3⟩ := Q0i Qgy Qgt GFuns.nil GFuns.cons ih.fn d7 l7 c7 (by omega)
  refine ⟨.mk k a s m L b L2 b2 L3 b3, by rw [Dec.cells_mk]; rfl, by have := hL.1; have := hL2.1; have := hL3.1; simp only [Dec.size]; omega, fun i nd hn => ?_⟩
  simp only [nodesDec, List.mem_cons, List.mem_append] at hn
  rcases hn with rfl | hn | hn | hn
  ·simp only [TNode.ok, Dec.name]; omega
  ·exact hL2.2 nd hn
  ·exact hL3.2 nd hn
  ·exact hL.2 nd hn
theorem QbT (n : Nat) (ih : DecAll H n) : ∀ (d : DataW H) l, conv C.ti (n + 1) QI d = some l → Rows.uptoBulk d < 2^30 → ∃ t : Case, l = t.cells ∧ GCase (Rows.uptoBulk d) t := fun d l h hb => by
  obtain ⟨parts, ls, rfl, hf, rfl⟩ := QN QhK h
  rcases parts with _ | ⟨d1, _ | ⟨d2, _ | _⟩⟩ <;> rcases ls with _ | ⟨l1, _ | ⟨l2, _ | _⟩⟩ <;> simp only [Fields, and_false] at hf
  obtain ⟨c1, c2, -⟩ := hf
  simp only [Rows.uptoBulk, Rows.uptoBulkAll] at hb ⊢
  obtain ⟨p, rfl, hp⟩ := Qfh n d1 l1 c1 (by omega)
  obtain ⟨e, rfl, he⟩ := ih.exp d2 l2 c2 (by omega)
  refine ⟨.mk p e, by rw [Case.cells_mk]; simp, by have := hp.1; have := he.1; simp only [Case.size]; omega, fun nd hn => ?_⟩
  simp only [nodesCase, List.mem_append] at hn
  rcases hn with hn | hn
  ·exact hp.2 nd hn
  ·exact he.2 nd hn
theorem Qdn (n : Nat) (ih : DecAll H n) : ∀ (d : DataW H) l, conv C.ti (n + 1) ZD d = some l → Rows.uptoBulk d < 2^30 → ∃ t : Fun, l = t.cells ∧ GFun (Rows.uptoBulk d) t := fun d l h hb => by
  obtain ⟨parts, ls, rfl, hf, rfl⟩ := QN Qj9 h
  rcases parts with _ | ⟨d1, _ | ⟨d2, _ | ⟨d3, _ | _⟩⟩⟩ <;> rcases ls with _ | ⟨l1, _ | ⟨l2, _ | ⟨l3, _ | _⟩⟩⟩ <;> simp only [Fields, and_false] at hf
  obtain ⟨c1, c2, c3, -⟩ := hf
  simp only [Rows.uptoBulk, Rows.uptoBulkAll] at hb ⊢
  obtain ⟨s, rfl, rfl⟩ := Q1w Qw c1
  obtain ⟨a, rfl, rfl, w2⟩ := QT Q02 c2
  simp only [Rows.uptoBulk] at hb ⊢
  obtain ⟨e, rfl, he⟩ := ih.case d3 l3 c3 (by omega)
  refine ⟨.mk s a e, by rw [Fun.cells_mk]; simp, by have := he.1; simp only [Fun.size]; omega, fun nd hn => ?_⟩
  simp only [nodesFun, List.mem_cons] at hn
  rcases hn with rfl | hn
  ·simp only [TNode.ok, Fun.name]; omega
  ·exact he.2 nd hn
theorem Q3e : ∀ n, DecAll H n
 | 0 => ⟨fun _ _ h => by simp [conv] at h, fun _ _ h => by simp [conv] at h, fun _ _ h => by simp [conv] at h, fun _ _ h => by simp [conv] at h⟩
 | 1 => ⟨fun d l h _ => by
     obtain ⟨parts, ls, rfl, hf, rfl⟩ := QN Qfb h
     rcases parts with _ | ⟨d1, _ | ⟨d2, _ | ⟨d3, _ | ⟨d4, _ | ⟨d5, _ | ⟨d6, _ | ⟨d7, _ | _⟩⟩⟩⟩⟩⟩⟩ <;> rcases ls with _ | ⟨l1, _ | ⟨l2, _ | ⟨l3, _ | ⟨l4, _ | ⟨l5, _ | ⟨l6, _ | ⟨l7, _ | _⟩⟩⟩⟩⟩⟩⟩ <;> simp only [Fields, and_false] at hf
     simp [conv] at hf, QbT 0 (Q3e 0), fun d l h _ => by
     obtain ⟨parts, ls, rfl, hf, rfl⟩ := QN Qfa h
     rcases parts with _ | ⟨d1, _ | ⟨d2, _ | ⟨d3, _ | ⟨d4, _ | ⟨d5, _ | ⟨d6, _ | ⟨d7, _ | _⟩⟩⟩⟩⟩⟩⟩ <;> rcases ls with _ | ⟨l1, _ | ⟨l2, _ | ⟨l3, _ | ⟨l4, _ | ⟨l5, _ | ⟨l6, _ | ⟨l7, _ | _⟩⟩⟩⟩⟩⟩⟩ <;> simp only [Fields, and_false] at hf
     simp [conv] at hf, Qdn 0 (Q3e 0)⟩
 | n + 2 => ⟨Qi0 n (Q3e n), QbT (n + 1) (Q3e (n + 1)), QhZ n (Q3e n), Qdn (n + 1) (Q3e (n + 1))⟩
end
end Go.Proofs.YtoahliipbclneaaGreat
namespace Go.Am
open Go Go.RowKit
section
variable {H : Type} {enc : TypeId × Value → H} {P : Program}
theorem Left0.cell {w w' : World} (h : Left0 w w') {b off : Nat} (hb : b < w.heap.size) : w'.cell? ⟨b, off, none⟩ = w.cell? ⟨b, off, none⟩ := by
 unfold World.cell?
 rw [h.heap b hb]
theorem Left0.sameAt {w w' : World} (h : Left0 w w') {p : MemPlace} (hp : p.block < w.heap.size) : w.sameAt w' p := by
 cases p with
 | cell b off => exact h.cell hp
 | map b => exact h.heap b hp
theorem Left0.kept {w w' : World} (h : Left0 w w') (may : MemPlace → Prop) : w.keptBut w' may := by
 refine ⟨h.os, h.output, fun i hi => ?_⟩
 rw [h.heap i hi]
 cases w.heap[i]? with
 | none => rfl
 | some o => cases o with
   | cells c t fr => exact ⟨rfl, rfl, rfl, fun _ _ => rfl⟩
   | map es clock => exact .inr ⟨rfl, rfl⟩
   | _ => rfl
theorem QbK {w w' : World} {base : Nat} {spare : Nat → Bool} {held : Bool} : ∀ {ts : List TypeId} {vs : List Value} {ds : List (DataW H)} {ps : List MemPlace}, DataW.TrodAll enc P w base spare held ts vs ds ps → (∀ p ∈ ps, w.sameAt w' p) → DataW.TrodAll enc P w' base spare held ts vs ds ps
 | [], [], [], _, h, _ => h
 | t :: ts, v :: vs, d :: ds, _, h, hs => by
   obtain ⟨p, q, ⟨n, h1⟩, h2, rfl⟩ := h
   exact ⟨p, q, ⟨n, DataW.trod_carry n _ _ _ h1 fun x hx => hs x (List.mem_append_left _ hx)⟩, QbK h2 fun x hx => hs x (List.mem_append_right _ hx), rfl⟩
theorem Qhp {f : Func} {s : ChangeSpec} {apart fresh handsOn : Bool} {W W' : World} {args : Array Value} {v : Value} {ds gs : List (DataW H)} {before pv : List MemPlace}
  (hW : DataW.Whole enc P f.params.toList s.vars apart W args.toList ds gs before)
  (hres : ∀ (b : Nat) (sp : Nat → Bool) (hd : Bool), DataW.TrodAll enc P W' b sp hd f.resultTypes.toList (v.resultList f.resultTypes.size) (s.fn H (ds ++ gs)).results [])
  (hargs : ∀ sp : Nat → Bool, (∀ p ∈ before, sp p.block = true) → ∃ pa, DataW.TrodAll enc P W' 0 sp true f.params.toList args.toList (s.fn H (ds ++ gs)).args pa)
  (hvars : ∀ sp : Nat → Bool, DataW.TrodVars enc P W' sp s.vars (s.fn H (ds ++ gs)).vars pv) (hl : Left0 W W') :
  s.post enc P f apart fresh handsOn false W args v W' := by
 have hold : ∀ p ∈ before, (fun b => decide (b < W.heap.size)) p.block = true := fun p hp => by simpa using hW.lt p hp
 obtain ⟨pa, ha⟩ := hargs (fun b => decide (b < W.heap.size)) hold
 exact ⟨ds, gs, before, [], pa, pv, hW, hres _ _ _, ha, hvars _, hl.kept _, fun h => by cases h⟩
end
end Go.Am
namespace Go.Proofs.YtoahliipbclneaaGreat
open Go Go.Am Go.RowKit
set_option linter.unusedVariables false
theorem types : ∀ t, TyOK Tryz.prog C t := QiN QhC fun t ht => by
 show tis.getD t {} = {}
 rw [List.getD_eq_getElem?_getD, List.getElem?_eq_none ht]
 rfl
theorem QgH {P : Program} {W : World} {r : Reach} {base : Nat} {t e : TypeId} {v : Value} (hu : P.underlying t = some (.slice e)) (h : Value.okWide P W r base t v) : v.cells.toList = [v] := by
 unfold Value.okWide at h
 simp only [hu] at h
 unfold Cell.okWide at h
 simp only [hu] at h
 cases v <;> first | rfl | (simp [Cell.ok, hu] at h)
theorem QfO {P : Program} {W : World} {r : Reach} {base : Nat} {t : TypeId} {fs : Array Field} {v : Value} (hu : P.underlying t = some (.struct fs)) (h : Value.okWide P W r base t v) : ∃ cs, v = .agg cs := by
 unfold Value.okWide at h
 simp only [hu] at h
 obtain ⟨cs, rfl, _⟩ := h
 exact ⟨cs, rfl⟩
theorem kids : Kids Tryz.prog (· < Tryz.prog.types.size) := kids_rows (by kernel_rfl) (by kernel_rfl)
theorem full : ∀ t e, t < Tryz.prog.types.size → Tryz.prog.underlying t = some (.slice e) → 0 < Tryz.prog.cellsOf e := fun t e ht hu => slices_full_of Tryz.prog (by kernel_rfl) t e ht hu
theorem again {H : Type} {enc : TypeId × Value → H} {W W' : World} {ts : List TypeId} {vs : List Value} {ds : List (DataW H)} {ps : List MemPlace} (hts : ∀ t ∈ ts, t < Tryz.prog.types.size) (h : DataW.TrodAll enc Tryz.prog W 0 (fun _ => true) true ts vs ds ps) (hl : Left0 W W') (hlt : ∀ p ∈ ps, p.block < W.heap.size)
  (sp : Nat → Bool) (hsp : ∀ p ∈ ps, sp p.block = true) : ∃ pa, DataW.TrodAll enc Tryz.prog W' 0 sp true ts vs ds pa :=
 ⟨ps, QbK (DataW.TrodAll.respare kids full hts h hsp) fun p hp => hl.sameAt (hlt p hp)⟩
end Go.Proofs.YtoahliipbclneaaGreat
namespace Go.Proofs.YtoahliipbclneaaGreat
open Go Go.Am Go.RowKit
theorem Qid (P : Program) (W : World) : laidMet P [] W := ⟨[], rfl, by simp, by simp⟩
theorem Qjk {P : Program} {W : World} {r : Reach} {base : Nat} {t : TypeId} {v : Value} (hu : (match P.underlying t with | some (.struct _) => true | _ => false) = true) (h : Value.okWide P W r base t v) : ∃ cs, v = .agg cs := by
 cases hs : P.underlying t with
 | none => rw [hs] at hu; cases hu
 | some d =>
   rw [hs] at hu
   cases d <;> first | (cases hu; done) | exact QfO hs h
theorem QlA {κ : Kn} {l : List AV} {cs : Array Value} (h : VRl κ l cs.toList) (ho : Ones cs.toList) : VR κ (.agg l) (.agg cs) := by
 simp only [VR]
 exact ⟨cs.toList, h, ho, by rw [Array.toArray_toList]⟩
theorem Qeo {κ : Kn} {a : AV} {l : List AV} {v : Value} {vs : List Value} (h : VR κ a v) (g : VRl κ l vs) : VRl κ (a :: l) (v :: vs) := ⟨v, vs, rfl, h, g⟩
end Go.Proofs.YtoahliipbclneaaGreat
namespace Go.Proofs.YtoahliipbclneaaGreat
open Go Go.Am
set_option linter.unusedVariables false
def Ends (s : St) (r : Res) : Prop := ∀ o s', r = some (o, s') → s' = s
theorem Ends.ret {s : St} (o : Out) : Ends s (some (o, s)) := fun _ _ h => by cases h; rfl
theorem Ends.none {s : St} : Ends s none := fun _ _ h => by cases h
theorem Ends.bind1 {s : St} {r : Option Slot} {k : Slot → Res} (h : ∀ v, Ends s (k v)) : Ends s (bind1 r k) := by
 cases r with
 | none => exact .none
 | some v => exact h v
theorem Ends.bindL {s : St} {r : Option (List Slot)} {k : List Slot → Res} (h : ∀ v, Ends s (k v)) : Ends s (bindL r k) := by
 cases r with
 | none => exact .none
 | some v => exact h v
theorem Ends.bindA {s : St} {r : Option (List AV)} {k : List AV → Res} (h : ∀ v, Ends s (k v)) : Ends s (bindA r k) := by
 cases r with
 | none => exact .none
 | some v => exact h v
theorem Ends.bindB {s : St} {r : Option Bool} {k : Bool → Res} (h : ∀ v, Ends s (k v)) : Ends s (bindB r k) := by
 cases r with
 | none => exact .none
 | some v => exact h v
theorem Ends.condS {s : St} {c : Slot} {a b : Res} (h : Ends s a) (g : Ends s b) : Ends s (condS c a b) := by
 unfold Go.Am.condS
 split
 ·rename_i t _; cases t
  ·exact g
  ·exact h
 ·exact .none
theorem Ends.chkP {s : St} {a b : Bool} {k : Unit → Res} (h : Ends s (k ())) : Ends s (chkP a b k) := by
 unfold Go.Am.chkP
 cases (a || !b) with
 | true => exact h
 | false => exact .none
theorem QgQ (a : AV) (s : St) : Ends s (cw (.f Q0Y) [a] s) := by
 rw [Q8f]
 repeat (first | exact Ends.ret _ | exact Ends.none | apply Ends.condS | apply Ends.chkP | (apply Ends.bind1; intro) | (apply Ends.bindL; intro) | (apply Ends.bindA; intro) | (apply Ends.bindB; intro))
theorem QjL : ∀ n, QuietOK C (call C n) := fun n F m h l s o s' hl hc => by
 have hF : Nat.beq F Q0Y = true ∧ Nat.beq m 1 = true := by simpa only [Bool.and_eq_true] using (show (Nat.beq F Q0Y && Nat.beq m 1) = true from h)
 have h1 := Nat.eq_of_beq_eq_true hF.1
 have h2 := Nat.eq_of_beq_eq_true hF.2
 subst h1 h2
 match l, hl with
 | [a], _ => exact QgQ a s o s' (Q9E.2 ⟨n, hc⟩)
end Go.Proofs.YtoahliipbclneaaGreat
namespace Go.Proofs.YtoahliipbclneaaGreat
open Go Go.Am Go.RowKit
set_option linter.unusedVariables false
theorem Qnb (f : Nat) (g : List AV → Option AV) (h : C.ext f = some g) : f = 107 ∧ g = extContains := by
 change findExt f exts = some g at h
 unfold exts findExt at h
 cases hf : Nat.beq f 107 with
 | false => rw [hf] at h; cases h
 | true =>
   rw [hf] at h
   exact ⟨Nat.eq_of_beq_eq_true hf, (Option.some.inj h).symm⟩
theorem Qdy : ∀ (l : List AV) (v : AV), extContains l = some v → ∃ s t, l = [.str s, .str t] ∧ s.length < 4294967281 ∧ v = .bool (Go.Lib.contains s t)
 | [.str s, .str t], v, h => by
   simp only [extContains] at h
   split at h
   ·cases h
    exact ⟨s, t, rfl, ‹_›, rfl⟩
   ·cases h
theorem codeOK : CodeOK Tryz.prog C where
 ty := types
 code := Qjr rfl QgO
 quiet := QjL
 ext := by
  intro f g l v hf hg κ B s w vs hi hG hB hv
  obtain ⟨rfl, rfl⟩ := Qnb f g hf
  obtain ⟨x, y, rfl, hx, rfl⟩ := Qdy l v hg
  obtain ⟨v1, r1, rfl, h1, v2, r2, rfl, h2, h3⟩ := hv
  cases r2 with
  | cons _ _ => cases h3
  | nil =>
    simp only [VR] at h1 h2
    obtain ⟨z1, rfl, rfl⟩ := h1
    obtain ⟨z2, rfl, rfl⟩ := h2
    obtain ⟨m, hm⟩ := hG.2 0 (by simp [C])
    have hc := hi.im 0 0 _ hm
    have hk := Tryz.strings_Contains z1 z2 m w (by simpa using hx) hc
    have he := enters_of Tryz.func107 (by kernel_rfl) (c := body Tryz.f107) (by kernel_rfl) #[.string z1, .string z2] w
    have hx := callsIn_wide (n := 0).2 hk
    refine .inr ⟨he, hx.mono fun e w' h => ?_⟩
    obtain ⟨h4, h5⟩ := h
    subst h4
    subst h5
    exact ⟨κ, .refl _ _, hi, by simp only [OutR, SR, VR]⟩
theorem globOK {W : World} (h : W.ShapedOpen Tryz.prog) : GlobOK C (kn0 W) := by
 refine ⟨fun g l hg => (by cases hg), fun g hg => ?_⟩
 obtain rfl : g = 0 := by simpa [C] using hg
 exact Tryz.laysM144.s1_3 W h
end Go.Proofs.YtoahliipbclneaaGreat
namespace Go.Proofs.YtoahliipbclneaaGreat
open Go Go.Am
set_option linter.unusedVariables false
theorem Q86 (n : Int) (c : Bool) (s : St) : cw (.f Q38) [.int .u8 n, .bool c] s = some (.ret (.val (.bool (letterR n c))), s) := by
 rw [Qax]; cases c <;> simp only [go_sem] <;> rfl
theorem Qay (n : Int) (s : St) : cw (.f Q4s) [.int .u8 n] s = some (.ret (.val (.bool (restR n))), s) := by
 rw [QcV]; simp only [go_sem]; rfl
theorem Q2e (n a b : Int) (s : St) : cw (.f Q07) [.int .i64 n, .int .i64 a, .int .i64 b] s = some (.ret (.val (.bool (isR n a b))), s) := by
 rw [QeW]; simp only [go_sem]; rfl
theorem Q87 (l : Str) (pre : Str) : ∀ (suf : Str) (s : St), pre ++ suf = l → l.length < 2^62 → Zv (.val (.str l)) (.val (.int .i64 pre.length)) s = some (.ret (.val (.bool (suf.all fun c => restR c.toNat))), s) := by
 intro suf
 induction suf generalizing pre with
 | nil =>
   intro s h hl
   rw [List.append_nil] at h
   subst h
   rw [Q3C]; simp only [Qdc, Qda, Q6l Qw, Q4f, Q69, Q4g]
   rw [Qbd (by simp)]
   rfl
 | cons c suf ih =>
   intro s h hl
   have hc : l[pre.length]? = some c := by rw [← h]; simp
   have hlt : pre.length < l.length := by rw [← h]; simp
   have := ih (pre ++ [c]) s (by simp [h]) hl
   rw [Q3C]
   simp only [Qdc, Qda, Q6l Qw, Q4f, Q69, Q4g]
   rw [Qbe (by simpa using hlt), Q6h Qw hc]
   simp only [go_sem, Qay]
   rw [wrap64 (by omega) (by omega)]
   have e : (pre.length : Int) + 1 = ((pre ++ [c]).length : Int) := by simp
   rw [e, this]
   simp only [go_sem, List.all_cons]
   cases restR c.toNat <;> rfl
theorem Q44 (l : Str) (c : Bool) (s : St) (hl : l.length < 2^62) : cw (.f Q0A) [.str l, .bool c] s = some (.ret (.val (.bool (shapedR l c))), s) := by
 rw [Qaz]
 cases l with
 | nil => simp only [go_sem]; rfl
 | cons x l =>
   have h := Q87 (x :: l) [x] l s rfl hl
   simp only [go_sem, List.length_singleton] at h
   simp only [go_sem, Q86, Q5D Qw (List.cons_ne_nil x l)]
   have h' : Zv (.val (.str (x :: l))) (.val (.int .i64 1)) s = some (.ret (.val (.bool (l.all fun c => restR c.toNat))), s) := h
   rw [h']
   show ifR _ _ _ = some (Out.ret (.val (.bool (!(decide (((l.length + 1 : Nat) : Int) < 1) || decide (((l.length + 1 : Nat) : Int) > 32) || !letterR (((x :: l).headD 0).toNat : Int) c) && (l.all fun c => restR c.toNat)))), s)
   generalize (decide (((l.length + 1 : Nat) : Int) < 1) || decide (((l.length + 1 : Nat) : Int) > 32) || !letterR (((x :: l).headD 0).toNat : Int) c) = b
   cases b <;> rfl
theorem Q9g (s : St) : cw (.f Q3I) [] s = some (.ret (.full (wordsR.map .str)), s) := by
 rw [Qbp]; simp only [go_sem, Nat.reduceAdd]; rfl
theorem Q9h (x : Str) (l : List Str) (pre : List Str) : ∀ (suf : List Str) (y : Slot) (s : St), y.list? = some (l.map .str) → pre ++ suf = l → l.length < 2^62 → Q0P (.val (.str x)) y (.val (.int .i64 pre.length)) s = some (.ret (.val (.bool (amongR x suf))), s) := by
 intro suf
 induction suf generalizing pre with
 | nil =>
   intro y s hy h hl
   rw [List.append_nil] at h
   subst h
   rw [Q3Z]; simp only [go_sem, hy]
   rw [Qbd (by simp)]
   rfl
 | cons c suf ih =>
   intro y s hy h hl
   have hc : (l.map AV.str)[pre.length]? = some (.str c) := by rw [← h]; simp
   have hlt : pre.length < l.length := by rw [← h]; simp
   have := ih (pre ++ [c]) y s hy (by simp [h]) hl
   rw [Q3Z]
   simp only [go_sem, hy]
   rw [Qbe (by simpa using hlt), Q5T (sz := 1) hy hc rfl (by decide)]
   simp only [go_sem, Nat.reduceAdd, Nat.reduceLeDiff]
   rw [wrap64 (by omega) (by omega)]
   have e : (pre.length : Int) + 1 = ((pre ++ [c]).length : Int) := by simp
   rw [e, this]
   simp only [go_sem, amongR, List.any_cons]
   cases decide (c = x) <;> rfl
theorem Q9i (x : Str) (l : List Str) (s : St) (hl : l.length < 2^62) (nl : Bool) : cw (.f Q29) [.str x, encS nl (l.map .str)] s = some (.ret (.val (.bool (amongR x l))), s) := by
 rw [Qbq]
 exact Q9h x l [] l _ s (by simp only [go_sem]) rfl hl
theorem Q0I (l : Str) (s : St) (hl : l.length < 2^62) : cw (.f Q0l) [.str l] s = some (.ret (.val (.bool (lowR l))), s) := by
 rw [Qe7]
 have h := fun s => Q9i l wordsR s (by decide) false
 rw [Q1K] at h
 simp only [go_sem, Q44 l _ _ hl, Q9g, h]
 rfl
theorem Q3w (l : Str) (s : St) (hl : l.length < 2^62) : cw (.f Q1s) [.str l] s = some (.ret (.val (.bool (capR l))), s) := by
 rw [Q9d]
 simp only [go_sem, Q44 l _ _ hl]
 rfl
theorem Q5W (l : Str) (s : St) (hl : l.length < 2^62) : cw (.f Q3l) [.str l] s = some (.ret (.val (.bool (conR l))), s) := by
 rw [Qe6]
 simp only [go_sem, Q3w l _ hl]
 rfl
theorem Qaq (n : Int) (s : St) : cw (.f Q2s) [.int .i64 n] s = some (.ret (.val (.int .i64 (bif decide (n.tmod 2147483648 < 0) then (bif decide (n.tmod 2147483648 + 2147483648 ≥ 1073741824) then n.tmod 2147483648 else n.tmod 2147483648 + 2147483648) else (bif decide (n.tmod 2147483648 ≥ 1073741824) then n.tmod 2147483648 - 2147483648 else n.tmod 2147483648)))), s) := by
 rw [QcQ]
 have h1 : -2147483648 < n.tmod 2147483648 := Int.lt_tmod_of_pos n (by decide)
 have h2 : n.tmod 2147483648 < 2147483648 := Int.tmod_lt_of_pos n (by decide)
 simp only [go_sem, Int.reduceEq, ne_eq, not_false_eq_true, Q9b]
 generalize n.tmod 2147483648 = m at *
 by_cases h : m < 0
 ·simp only [go_sem, decide_eq_true h]
  rw [wrap64 (n := m + 2147483648) (by omega) (by omega), wrap64 (by omega) (by omega)]
  congr; omega
 ·simp only [go_sem, decide_eq_false h]
  rw [wrap64 (n := m - 2147483648) (by omega) (by omega)]
end Go.Proofs.YtoahliipbclneaaGreat
namespace Go.Proofs.YtoahliipbclneaaGreat
open Go Go.Am
set_option linter.unusedVariables false
set_option maxRecDepth 4000
def plainV : AV → Bool
 | .vs _ _ _ _ _ => false
 | .agg _ => false
 | _ => true
theorem Q2l (ti : TypeId → TI) (n : Nat) {v : AV} (h : plainV v = true) (s : St) : frz ti (n + 1) v s = some (v, s) := by
 cases v <;> first | rfl | simp [plainV] at h
theorem Q5A (ti : TypeId → TI) (k : IntKind) (n : Int) (s : St) : frzSlot ti (.val (.int k n)) s = some (.val (.int k n), s) := rfl
theorem Q5B (ti : TypeId → TI) (l : List UInt8) (s : St) : frzSlot ti (.val (.str l)) s = some (.val (.str l), s) := rfl
theorem QdF (ti : TypeId → TI) (s : St) : frzSlot ti (.val .nils) s = some (.val .nils, s) := rfl
theorem QdE (ti : TypeId → TI) (l : List AV) (s : St) : frzSlot ti (.full l) s = some (.full l, s) := rfl
theorem Qi6 {t : TI} {e : TypeId} (h : t.k = .slice e) : binS t .eql (.val .nils) (.val .nils) = some (.val (.bool true)) := by simp only [binS, Q0a, eqS, h]; rfl
theorem Qh2 {t : TI} {e : TypeId} (h : t.k = .slice e) (l : List AV) : binS t .eql (.val (.sl l)) (.val .nils) = some (.val (.bool false)) := by simp only [binS, Q0a, eqS, h]; rfl
theorem QeA {e : TypeId} {t : TI} {s : St} {y : Slot} {l : List AV} (hy : y.list? = some l) (hl : l ≠ []) (hs : ∀ v ∈ l, v.cells.length = t.size) (h0 : 0 < t.size) (b1 : l.length * t.bytes ≤ 140737488355328) (b2 : l.length ≤ 9223372036854775807) :
  appendV e t s (.full []) y = some (.val (.vs s.locs.length e t.size 0 l.length), s.addLoc (.var ((flatL l).map .val))) := by
 unfold appendV
 rw [hy]
 cases l with
 | nil => exact absurd rfl hl
 | cons a l =>
   simp only [ZP hs h0, cond_true]
   simp only [newV]
   rw [show okSz t.size [] = true from ZP (by simp) h0]
   simp only [cond_true, List.nil_append]
   rw [if_pos ⟨b1, b2⟩]
theorem Qim (et : TypeId) (t : TI) (s : St) (n : Int) (h0 : 0 ≤ n) (hn : n < 2^30) (hb : t.bytes ≤ 2^16) (hs : 0 < t.size) (z : AV) (hz : ofCells t t.zero = some z) :
  ∃ x s', makeS et t s (.val (.int .i64 0)) (.val (.int .i64 n)) = some (x, s') ∧ AccR et s s' x [] := by
 have h1 : n * (t.bytes : Int) ≤ n * 2^16 := Int.mul_le_mul_of_nonneg_left (by omega) h0
 refine ⟨.own s.toks.length et [], { s with toks := s.toks ++ [0] }, ?_, ⟨(Grew.refl s).pushTok 0, .inr (.inr ⟨s.toks.length, rfl, Nat.le_refl _, by simp⟩)⟩⟩
 simp only [makeS, hz]
 rw [if_pos ⟨Int.le_refl _, h0, by omega, hs, by omega⟩]
 rfl
theorem Q78 (l : List Slot) (s : St) (k : List Slot → St → Res) : bindLS (some (l, s)) k = k l s := rfl
theorem Q6f (ti : TypeId → TI) (n : Nat) : ∀ (l : List AV) (s : St), (∀ v ∈ l, plainV v = true) → frzW (frz ti (n + 1)) l s = some (l, s)
 | [], s, _ => rfl
 | v :: l, s, h => by
   simp only [frzW]
   rw [Q2l ti n (h v List.mem_cons_self)]
   simp only []
   rw [Q6f ti n l s fun w hw => h w (List.mem_cons_of_mem _ hw)]
theorem Q1L (v : AV) (l : List AV) : flatL (v :: l) = v.cells ++ flatL l := by simp [flatL]
theorem Q1y {sz : Nat} : ∀ {l : List AV}, (∀ v ∈ l, v.cells.length = sz) → (flatL l).length = l.length * sz
 | [], _ => by simp [flatL]
 | v :: l, h => by
   rw [Q1L, List.length_append, Q1y fun w hw => h w (List.mem_cons_of_mem _ hw), h v List.mem_cons_self, List.length_cons, Nat.succ_mul, Nat.add_comm]
theorem Q4k {t : TI} : ∀ {l : List AV}, (∀ v ∈ l, v.cells.length = t.size ∧ ofCells t v.cells = some v) → rows t l.length (flatL l) = some l
 | [], _ => rfl
 | v :: l, h => by
   have hv := h v List.mem_cons_self
   rw [List.length_cons, Q1L]
   simp only [rows]
   rw [List.take_left' hv.1, List.drop_left' hv.1, hv.2]
   simp only []
   rw [Q4k fun w hw => h w (List.mem_cons_of_mem _ hw)]
theorem Q95 {sz : Nat} : ∀ {l : List AV} {i : Nat} {v : AV}, (∀ v ∈ l, v.cells.length = sz) → l[i]? = some v → ∃ a b, flatL l = a ++ (v.cells ++ b) ∧ a.length = i * sz
 | [], i, v, _, h => by simp at h
 | w :: l, 0, v, h, g => by
   simp at g; subst g
   exact ⟨[], flatL l, by rw [Q1L]; rfl, by simp⟩
 | w :: l, i + 1, v, h, g => by
   obtain ⟨a, b, e, k⟩ := Q95 (l := l) (i := i) (v := v) (fun w hw => h w (List.mem_cons_of_mem _ hw)) (by simpa using g)
   refine ⟨w.cells ++ a, b, by rw [Q1L, e, List.append_assoc], ?_⟩
   rw [List.length_append, h w List.mem_cons_self, k, Nat.succ_mul, Nat.add_comm]
def Holds (s : St) (loc : Nat) (l : List AV) : Prop := s.locs[loc]? = some (.var ((flatL l).map .val))
theorem Holds.move {s s' : St} {loc : Nat} {l : List AV} (h : Holds s loc l) (g : Grew s s') : Holds s' loc l := g.loc h
theorem Holds.ld {s : St} {loc : Nat} {l : List AV} (h : Holds s loc l) {t : TI} (hs : ∀ v ∈ l, v.cells.length = t.size) {i : Nat} {v : AV} (hv : l[i]? = some v) : ldV t false s (.val (.vp loc (i * t.size))) = ofSlots t (v.cells.map .val) := by
 obtain ⟨a, b, e, k⟩ := Q95 hs hv
 have hv' := hs v (List.mem_of_getElem? hv)
 unfold Holds at h
 simp only [ldV, cond_false, h, e, List.map_append]
 rw [List.drop_left' (by simpa using k), List.take_left' (by simpa using hv')]
theorem Holds.st {s : St} {loc : Nat} {l : List AV} (h : Holds s loc l) {sz : Nat} (hs : ∀ v ∈ l, v.cells.length = sz) {i : Nat} {v : AV} (hv : l[i]? = some v) : stV s (.val (.vp loc (i * sz))) (v.cells.map .val) = some s := by
 obtain ⟨a, b, e, k⟩ := Q95 hs hv
 unfold Holds at h
 simp only [stV, h, e, List.map_append]
 have : putAt (List.map Slot.val a ++ (List.map Slot.val v.cells ++ List.map Slot.val b)) (i * sz) (List.map Slot.val v.cells) = some (List.map Slot.val a ++ (List.map Slot.val v.cells ++ List.map Slot.val b)) := by
  unfold putAt
  rw [if_pos (by simp only [List.length_append, List.length_map, k]; omega), List.take_left' (by simpa using k), List.drop_append, List.drop_of_length_le (by simp only [List.length_map, k]; omega)]
  simp only [List.length_map, k]
  rw [Nat.add_sub_cancel_left, List.nil_append, List.drop_left' (by simp)]
 rw [this]
 simp only []
 have hlt := (List.getElem?_eq_some_iff.1 h)
 obtain ⟨hlt, hget⟩ := hlt
 congr 1
 rw [show s.locs.set loc (Obj.var (List.map Slot.val a ++ (List.map Slot.val v.cells ++ List.map Slot.val b))) = s.locs from ?_]
 rw [← List.map_append, ← List.map_append, ← e, ← hget]
 exact List.set_getElem_self hlt
theorem Holds.frz {s : St} {loc : Nat} {l : List AV} (h : Holds s loc l) {ti : TypeId → TI} {e : TypeId} (hs : ∀ v ∈ l, v.cells.length = (ti e).size ∧ ofCells (ti e) v.cells = some v) (hp : ∀ v ∈ l, ∀ x ∈ v.cells, plainV x = true) (h0 : 0 < (ti e).size) :
  frzSlot ti (.val (.vs loc e (ti e).size 0 l.length)) s = some (.val (.sl l), { s with locs := s.locs.set loc .dead }) := by
 have hl := Q1y (fun v hv => (hs v hv).1)
 unfold Holds at h
 simp only [frzSlot, Am.frz, h]
 rw [Nat.zero_mul, List.drop_zero, List.take_of_length_le (by simp only [List.length_map, hl]; omega), Q5w]
 simp only []
 rw [Q6f ti 14 _ _ (by intro v hv; obtain ⟨w, hw, hx⟩ := List.mem_flatMap.1 hv; exact hp w hw v hx)]
 simp only []
 rw [Q4k hs]
 simp only [List.length_map, hl, Nat.zero_add]
 rw [show (Nat.blt 0 (ti e).size && Nat.ble (l.length * (ti e).size) (l.length * (ti e).size)) = true by simp [h0, Nat.blt_eq, Nat.ble_eq]]
 rfl
theorem Q5i {s0 s : St} (h : Grew s0 s) {k : Nat} (hk : s0.locs.length ≤ k) (o : Am.Obj) : Grew s0 { s with locs := s.locs.set k o } := by
 obtain ⟨⟨a, ha⟩, hb⟩ := h
 refine ⟨⟨a.set (k - s0.locs.length) o, ?_⟩, hb⟩
 simp only [ha]
 rw [List.set_append_right _ _ hk]
end Go.Proofs.YtoahliipbclneaaGreat