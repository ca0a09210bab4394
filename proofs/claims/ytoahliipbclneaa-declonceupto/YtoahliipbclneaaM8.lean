/- A part of the proof: PTree, RDec, RBase0, RBase2, SQuiet, RBase, SRef1, SArr, SArr2, PTy. -/
import Derived.Test.YtoahliipbclneaaM2
import Derived.Test.YtoahliipbclneaaM3
import Derived.Test.YtoahliipbclneaaM5
import Derived.Test.YtoahliipbclneaaM6
import Derived.Test.YtoahliipbclneaaM7
import Derived.Test.YtoahliipbclneaaRows
import Derived.Test.YtoahliipbclneaaShelf
import Derived.ChangeSame
import Derived.ReadAgain
import Derived.ChangeOld
import Derived.Deep.DeepHandedRow
import Derived.WalkKit
import Derived.ProofKit
import Derived.OpenShut
set_option linter.unusedVariables false
set_option linter.unusedSimpArgs false
namespace Go.Am
open Go
def smallB (n : Int) : Bool := decide (n ≥ 97) && decide (n ≤ 122) || decide (n = 95)
def greatB (n : Int) : Bool := decide (n ≥ 65) && decide (n ≤ 90)
def unrestB (n : Int) : Bool := !smallB n && !greatB n && (decide (n < 48) || decide (n > 57)) && !decide (n = 39)
def restAll (l : Str) : Bool := l.all fun c => !unrestB c.toNat
def runB (l : Str) : Bool := restAll (l.drop 1) && decide (l.length ≤ 32)
def headB (l : Str) : Int := ((l.headD 0).toNat : Int)
def wordsS : Str := [32, 97, 110, 100, 32, 97, 110, 100, 97, 108, 115, 111, 32, 97, 115, 32, 99, 97, 115, 101, 32, 100, 97, 116, 97, 116, 121, 112, 101, 32, 100, 105, 118, 32, 101, 108, 115, 101, 32, 101, 110, 100, 32, 101, 120, 99, 101, 112, 116, 105, 111, 110, 32, 102, 110, 32, 102, 117, 110, 32, 104, 97, 110, 100, 108, 101, 32, 105, 102, 32, 105, 110, 32, 108, 101, 116, 32, 109, 111, 100, 32, 111, 102, 32, 111, 114, 101, 108, 115, 101, 32, 112, 114, 105, 110, 116, 32, 114, 97, 105, 115, 101, 32, 114, 101, 97, 100, 32, 114, 101, 102, 32, 116, 104, 101, 110, 32, 118, 97, 108, 32, 116, 114, 117, 101, 32, 102, 97, 108, 115, 101, 32, 95, 32]
def lowB (l : Str) : Bool := !decide (l = []) && smallB (headB l) && runB l && !Go.Lib.contains wordsS (32 :: (l ++ [32]))
def capB (l : Str) : Bool := !decide (l = []) && greatB (headB l) && runB l
def conB (l : Str) : Bool := capB l || decide (l = [116, 114, 117, 101]) || decide (l = [102, 97, 108, 115, 101]) || decide (l = [40, 41])
def isIntB (n : Int) : Bool := decide (n ≥ -1073741824) && decide (n ≤ 1073741823)
def letterR (n : Int) (cap : Bool) : Bool := bif cap then decide (n ≥ 65) && decide (n ≤ 90) else decide (n ≥ 97) && decide (n ≤ 122) || decide (n = 95)
def restR (n : Int) : Bool := decide (n ≥ 97) && decide (n ≤ 122) || decide (n ≥ 65) && decide (n ≤ 90) || decide (n ≥ 48) && decide (n ≤ 57) || decide (n = 95) || decide (n = 39)
def shapedR (l : Str) (cap : Bool) : Bool := !(decide ((l.length : Int) < 1) || decide ((l.length : Int) > 32) || !letterR (headB l) cap) && (l.drop 1).all fun c => restR c.toNat
def wordsR : List Str := [[97, 110, 100], [97, 110, 100, 97, 108, 115, 111], [97, 115], [99, 97, 115, 101], [100, 97, 116, 97, 116, 121, 112, 101], [100, 105, 118], [101, 108, 115, 101], [101, 110, 100], [101, 120, 99, 101, 112, 116, 105, 111, 110], [102, 110], [102, 117, 110], [104, 97, 110, 100, 108, 101], [105, 102], [105, 110], [108, 101, 116], [109, 111, 100], [111, 102], [111, 114, 101, 108, 115, 101], [112, 114, 105, 110, 116], [114, 97, 105, 115, 101], [114, 101, 97, 100], [114, 101, 102], [116, 104, 101, 110], [118, 97, 108]]
def amongR (x : Str) (l : List Str) : Bool := l.any fun w => decide (w = x)
def lowR (l : Str) : Bool := shapedR l false && !decide (l = [95]) && !decide (l = [116, 114, 117, 101]) && !decide (l = [102, 97, 108, 115, 101]) && !amongR l wordsR
def tyLM (nm : Str) : Int × Int × Bool :=
 bif decide (nm = [105, 110, 116]) then (0, 0, true) else bif decide (nm = [98, 111, 111, 108]) then (0, 0, true) else bif decide (nm = [117, 110, 105, 116]) then (0, 0, true) else bif decide (nm = [101, 120, 110]) then (0, 0, true) else
 bif decide (nm = [114, 101, 102]) then (1, 1, true) else bif decide (nm = [45, 62]) then (2, 2, true) else bif decide (nm = [42]) then (2, 8, true) else bif !lowB nm then (0, 0, false) else (0, 8, true)
def wrongTyC (k n : Int) (nm : Str) (len : Int) : Int :=
 bif decide (k = 1) && (!decide (nm = []) || decide (len > 0)) || decide (k = 2) && !decide (n = 0) || !decide (k = 1) && !decide (k = 2) then 29
 else bif decide (k = 1) && decide (n < 0) then 2
 else bif decide (k = 1) then 0
 else bif !(tyLM nm).2.2 then 8
 else bif decide (len < (tyLM nm).1) || decide (len > (tyLM nm).2.1) then 19 else 0
def wrongTyB (t : Ty) : Int := wrongTyC t.kind t.n t.name t.args.length
def patLM (k : Int) : Bool × Bool × Int × Int :=
 bif decide (k = 2) then (true, false, 0, 0) else bif decide (k = 3) then (false, true, 0, 0) else bif decide (k = 4) then (true, false, 0, 1) else bif decide (k = 5) then (false, false, 2, 8) else bif decide (k = 6) then (true, false, 1, 1) else (false, false, 0, 0)
def wrongPatB (p : Pat) : Int :=
 bif decide (p.kind < 1) || decide (p.kind > 6) then 29
 else bif !(patLM p.kind).1 && !decide (p.name = []) || !(patLM p.kind).2.1 && !decide (p.n = 0) || decide ((patLM p.kind).2.2.2 = 0) && decide ((p.kids.length : Int) > 0) then 29
 else bif decide (p.kind = 4) && !conB p.name || (patLM p.kind).1 && !decide (p.kind = 4) && !lowB p.name then 8
 else bif (patLM p.kind).2.1 && !isIntB p.n then 2
 else bif decide ((p.kids.length : Int) < (patLM p.kind).2.2.1) || decide ((p.kids.length : Int) > (patLM p.kind).2.2.2) then 19 else 0
def wrongConB (c : Con) : Int :=
 bif !c.has && (!decide (c.arg.kind = 0) || !decide (c.arg.n = 0) || !decide (c.arg.name = []) || decide ((c.arg.args.length : Int) > 0)) then 29 else bif !capB c.name then 8 else 0
structure Has where
 name : Bool := false
 n : Bool := false
 cases : Bool := false
 decs : Bool := false
 least : Int := 0
 most : Int := 0
def expLM (k : Int) : Has :=
 bif decide (k = 1) then { n := true } else bif decide (k = 2) then { name := true } else bif decide (k = 3) then { name := true, most := 1 } else bif decide (k = 4) then { least := 2, most := 8 } else
 bif decide (k = 5) then { cases := true } else bif decide (k = 10) then { least := 2, most := 4611686018427387904 } else bif decide (k = 8) then { least := 3, most := 3 } else bif decide (k = 7) then { decs := true, least := 1, most := 1 } else
 bif decide (k = 9) || decide (k = 11) then { cases := true, least := 1, most := 1 } else bif decide (k = 12) || decide (k = 16) || decide (k = 17) || decide (k = 19) then { least := 1, most := 1 } else
 bif decide (k = 13) then { n := true, least := 2, most := 2 } else bif decide (k = 6) || decide (k = 14) || decide (k = 15) || decide (k = 18) then { least := 2, most := 2 } else {}
def wrongExpB (e : Exp) : Int :=
 bif decide (e.kind < 1) || decide (e.kind > 20) || !(expLM e.kind).name && !decide (e.name = []) || !(expLM e.kind).n && !decide (e.n = 0) || !(expLM e.kind).cases && decide ((e.cases.length : Int) > 0) || !(expLM e.kind).decs && decide ((e.decs.length : Int) > 0) || decide ((expLM e.kind).most = 0) && decide ((e.kids.length : Int) > 0) then 29
 else bif decide (e.kind = 2) && !lowB e.name || decide (e.kind = 3) && !conB e.name then 8
 else bif decide (e.kind = 1) && !isIntB e.n || decide (e.kind = 13) && (decide (e.n < 1) || decide (e.n > 9)) then 2
 else bif decide ((e.kids.length : Int) < (expLM e.kind).least) || decide ((e.kids.length : Int) > (expLM e.kind).most) || (expLM e.kind).cases && decide ((e.cases.length : Int) = 0) || (expLM e.kind).decs && decide ((e.decs.length : Int) = 0) then 19 else 0
def wrongDecC (k : Int) (nm : Str) (p nl nc nf : Int) (inn : Bool) : Int :=
 bif !(bif decide (k = 1) then !decide (nf > 0) && !(!decide (nm = []) || !decide (p = 0)) && !decide (nl > 0) else bif decide (k = 2) then !decide (nc > 0) && !(!decide (nm = []) || !decide (p = 0)) && !decide (nl > 0) else bif decide (k = 3) then !decide (nc > 0) && !decide (nf > 0) else bif decide (k = 4) then !decide (nc > 0) && !decide (nf > 0) && !(!decide (nm = []) || !decide (p = 0)) else false) || inn && !decide (k = 1) && !decide (k = 2) then 29
 else bif decide (k = 1) then (bif !decide (nc = 1) then 19 else 0)
 else bif decide (k = 2) then (bif !decide (nf > 0) then 19 else 0)
 else bif decide (k = 3) then (bif !lowB nm then 8 else bif !(decide (p ≥ 0) && decide (p ≤ 8) && decide (nl > 0) && decide (nl ≤ 64)) then 19 else 0)
 else bif decide (k = 4) then (bif !decide (nl = 1) then 19 else 0)
 else 0
def wrongDecB (d : Dec) (inn : Bool) : Int := wrongDecC d.kind d.name d.params d.cons.length d.case.length d.funs.length inn
inductive TNode where
 | dec (inn : Bool) (d : Dec)
 | exp (e : Exp)
 | pat (p : Pat)
 | ty (t : Ty) (at_ : Int)
 | fn (f : Fun)
 | con (c : Con)
namespace TNode
def at_ : TNode → Int
 | dec _ d => d.at_
 | exp e => e.at_
 | pat p => p.at_
 | ty _ a => a
 | fn f => f.at_
 | con c => c.at_
def wrong : TNode → Int × Str
 | dec inn d => (wrongDecB d inn, d.name)
 | exp e => (wrongExpB e, e.name)
 | pat p => (wrongPatB p, p.name)
 | ty t _ => (wrongTyB t, t.name)
 | fn f => (bif !lowB f.name then 8 else 0, f.name)
 | con c => (wrongConB c, c.name)
def isNode : TNode → Bool
 | fn _ | con _ => false
 | _ => true
def name : TNode → Str
 | dec _ d => d.name
 | exp e => e.name
 | pat p => p.name
 | ty t _ => t.name
 | fn f => f.name
 | con c => c.name
def thing (r : List AV) : TNode → AV
 | dec inn d => .agg [.cp (d.cells ++ r), .bool inn, .nilp, .nilp, .nilp, .nilp, .nilp, .int .i64 d.at_]
 | exp e => .agg [.nilp, .bool false, .nilp, .nilp, .cp (e.cells ++ r), .nilp, .nilp, .int .i64 e.at_]
 | pat p => .agg [.nilp, .bool false, .nilp, .nilp, .nilp, .cp (p.cells ++ r), .nilp, .int .i64 p.at_]
 | ty t a => .agg [.nilp, .bool false, .nilp, .nilp, .nilp, .nilp, .cp (t.cells ++ r), .int .i64 a]
 | fn f => .agg [.nilp, .bool false, .cp (f.cells ++ r), .nilp, .nilp, .nilp, .nilp, .int .i64 f.at_]
 | con c => .agg [.nilp, .bool false, .nilp, .cp (c.cells ++ r), .nilp, .nilp, .nilp, .int .i64 c.at_]
def cells : TNode → List AV
 | dec inn d => .int .i64 1 :: .bool inn :: .int .i64 d.at_ :: (d.cells ++ (Exp.zero.cells ++ (Pat.zero.cells ++ (Ty.zero.cells ++ (Fun.zero.cells ++ Con.zero.cells)))))
 | exp e => .int .i64 2 :: .bool false :: .int .i64 e.at_ :: (Dec.zero.cells ++ (e.cells ++ (Pat.zero.cells ++ (Ty.zero.cells ++ (Fun.zero.cells ++ Con.zero.cells)))))
 | pat p => .int .i64 3 :: .bool false :: .int .i64 p.at_ :: (Dec.zero.cells ++ (Exp.zero.cells ++ (p.cells ++ (Ty.zero.cells ++ (Fun.zero.cells ++ Con.zero.cells)))))
 | ty t a => .int .i64 4 :: .bool false :: .int .i64 a :: (Dec.zero.cells ++ (Exp.zero.cells ++ (Pat.zero.cells ++ (t.cells ++ (Fun.zero.cells ++ Con.zero.cells)))))
 | fn f => .int .i64 5 :: .bool false :: .int .i64 f.at_ :: (Dec.zero.cells ++ (Exp.zero.cells ++ (Pat.zero.cells ++ (Ty.zero.cells ++ (f.cells ++ Con.zero.cells)))))
 | con c => .int .i64 6 :: .bool false :: .int .i64 c.at_ :: (Dec.zero.cells ++ (Exp.zero.cells ++ (Pat.zero.cells ++ (Ty.zero.cells ++ (Fun.zero.cells ++ c.cells)))))
abbrev enc (n : TNode) : AV := .agg n.cells
@[go_sem] theorem cells_len (n : TNode) : n.cells.length = 47 := by
  cases n <;> simp [go_sem, cells, Con.cells, Con.zero, Fun.zero, Case.zero, Exp.zero, Pat.zero, Ty.zero, Dec.zero]
def inn : TNode → Bool
 | dec i _ => i
 | _ => false
def ok : TNode → Prop
 | dec _ d => d.name.length < 2^40
 | exp e => e.name.length < 2^40 ∧ e.kids.length < 2^40 ∧ -9223372036854775808 ≤ e.n ∧ e.n ≤ 9223372036854775807
 | pat p => p.name.length < 2^40 ∧ -9223372036854775808 ≤ p.n ∧ p.n ≤ 9223372036854775807
 | ty t _ => t.name.length < 2^40
 | fn f => f.name.length < 2^40
 | con c => c.name.length < 2^40
end TNode
structure TBad where
 kind : Int
 at_ : Int
 name : Str
 deriving DecidableEq
def TBad.cells (b : TBad) : List AV := [.int .i64 b.kind, .int .i64 b.at_, .str b.name]
abbrev TBad.enc (b : TBad) : AV := .agg b.cells
def TBad.zero : TBad := ⟨0, 0, []⟩
def mkBad (e at_ : Int) (nm : Str) : TBad := bif decide (e = 0) then .zero else ⟨e, at_, bif !decide (e = 8) then [] else nm⟩
def TNode.bad (n : TNode) : TBad := mkBad n.wrong.1 n.at_ n.wrong.2
mutual
def nodesTy (a : Int) : Ty → List TNode
 | .mk k n s l b => .ty (.mk k n s l b) a :: nodesTys a l
def nodesTys (a : Int) : List Ty → List TNode
 | [] => []
 | t :: l => nodesTy a t ++ nodesTys a l
end
mutual
def nodesPat : Pat → List TNode
 | .mk k a s n l b => .pat (.mk k a s n l b) :: nodesPats l
def nodesPats : List Pat → List TNode
 | [] => []
 | t :: l => nodesPat t ++ nodesPats l
end
def nodesCon (c : Con) : List TNode := .con c :: (bif c.has then nodesTy c.at_ c.arg else [])
def nodesCons : List Con → List TNode
 | [] => []
 | c :: l => nodesCon c ++ nodesCons l
mutual
def nodesExp : Exp → List TNode
 | .mk k a s n l lb c cb d db => .exp (.mk k a s n l lb c cb d db) :: (nodesDecs true d ++ (nodesExps l ++ nodesCases c))
def nodesExps : List Exp → List TNode
 | [] => []
 | t :: l => nodesExp t ++ nodesExps l
def nodesCase : Case → List TNode
 | .mk p e => nodesPat p ++ nodesExp e
def nodesCases : List Case → List TNode
 | [] => []
 | t :: l => nodesCase t ++ nodesCases l
def nodesDec (inn : Bool) : Dec → List TNode
 | .mk k a s p l lb c cb f fb => .dec inn (.mk k a s p l lb c cb f fb) :: (nodesCases c ++ (nodesFuns f ++ nodesCons l))
def nodesDecs (inn : Bool) : List Dec → List TNode
 | [] => []
 | t :: l => nodesDec inn t ++ nodesDecs inn l
def nodesFun : Fun → List TNode
 | .mk s a c => .fn (.mk s a c) :: nodesCase c
def nodesFuns : List Fun → List TNode
 | [] => []
 | t :: l => nodesFun t ++ nodesFuns l
end
mutual
theorem Q4a (a : Int) : ∀ t : Ty, (nodesTy a t).length = t.size
 | .mk k n s l b => by have := Q5W a l; simp only [nodesTy, Ty.size, List.length_cons]; omega
theorem Q5W (a : Int) : ∀ l : List Ty, (nodesTys a l).length = Ty.sizes l
 | [] => rfl
 | t :: l => by have h1 := Q4a a t; have h2 := Q5W a l; simp only [nodesTys, Ty.sizes, List.length_append]; omega
end
mutual
theorem Q5V : ∀ t : Pat, (nodesPat t).length = t.size
 | .mk k a s n l b => by have := Q5i l; simp only [nodesPat, Pat.size, List.length_cons]; omega
theorem Q5i : ∀ l : List Pat, (nodesPats l).length = Pat.sizes l
 | [] => rfl
 | t :: l => by have h1 := Q5V t; have h2 := Q5i l; simp only [nodesPats, Pat.sizes, List.length_append]; omega
end
theorem Qbs (c : Con) : (nodesCon c).length ≤ c.size := by
 have := Q4a c.at_ c.arg
 unfold nodesCon Con.size
 cases c.has <;> simp only [cond_true, cond_false, List.length_cons, List.length_nil] <;> omega
theorem Q5f : ∀ l : List Con, (nodesCons l).length ≤ Con.sizes l
 | [] => Nat.le_refl _
 | t :: l => by have h1 := Qbs t; have h2 := Q5f l; simp only [nodesCons, Con.sizes, List.length_append]; omega
mutual
theorem Q5U : ∀ t : Exp, (nodesExp t).length ≤ t.size
 | .mk k a s n l lb c cb d db => by
   have h1 := Q2D true d; have h2 := Q5g l; have h3 := Q2e c
   simp only [nodesExp, Exp.size, List.length_cons, List.length_append]; omega
theorem Q5g : ∀ l : List Exp, (nodesExps l).length ≤ Exp.sizes l
 | [] => by simp only [nodesExps, Exp.sizes]; exact Nat.le_refl _
 | t :: l => by have h1 := Q5U t; have h2 := Q5g l; simp only [nodesExps, Exp.sizes, List.length_append]; omega
theorem Q5e : ∀ t : Case, (nodesCase t).length ≤ t.size
 | .mk p e => by have h1 := Q5V p; have h2 := Q5U e; simp only [nodesCase, Case.size, List.length_append]; omega
theorem Q2e : ∀ l : List Case, (nodesCases l).length ≤ Case.sizes l
 | [] => by simp only [nodesCases, Case.sizes]; exact Nat.le_refl _
 | t :: l => by have h1 := Q5e t; have h2 := Q2e l; simp only [nodesCases, Case.sizes, List.length_append]; omega
theorem Qbt (inn : Bool) : ∀ t : Dec, (nodesDec inn t).length ≤ t.size
 | .mk k a s p l lb c cb f fb => by
   have h1 := Q2e c; have h2 := Q5h f; have h3 := Q5f l
   simp only [nodesDec, Dec.size, List.length_cons, List.length_append]; omega
theorem Q2D (inn : Bool) : ∀ l : List Dec, (nodesDecs inn l).length ≤ Dec.sizes l
 | [] => by simp only [nodesDecs, Dec.sizes]; exact Nat.le_refl _
 | t :: l => by have h1 := Qbt inn t; have h2 := Q2D inn l; simp only [nodesDecs, Dec.sizes, List.length_append]; omega
theorem Qbu : ∀ t : Fun, (nodesFun t).length ≤ t.size
 | .mk s a c => by have h1 := Q5e c; simp only [nodesFun, Fun.size, List.length_cons]; omega
theorem Q5h : ∀ l : List Fun, (nodesFuns l).length ≤ Fun.sizes l
 | [] => by simp only [nodesFuns, Fun.sizes]; exact Nat.le_refl _
 | t :: l => by have h1 := Qbu t; have h2 := Q5h l; simp only [nodesFuns, Fun.sizes, List.length_append]; omega
end
theorem Zi (a b c : Int) : a ≤ c → b ≤ c → maxI a b ≤ c := by unfold maxI; intros; split <;> omega
theorem Zh (a b : Int) : a ≤ maxI a b := by unfold maxI; split <;> omega
mutual
def deepTy : Ty → Int
 | .mk _ _ _ l _ => deepTys l 0 + 1
def deepTys : List Ty → Int → Int
 | [], n => n
 | t :: l, n => deepTys l (maxI n (deepTy t))
end
mutual
def deepPat : Pat → Int
 | .mk _ _ _ _ l _ => deepPats l 0 + 1
def deepPats : List Pat → Int → Int
 | [], n => n
 | t :: l, n => deepPats l (maxI n (deepPat t))
end
def deepCons : List Con → Int → Int
 | [], n => n
 | c :: l, n => deepCons l (bif c.has then maxI n (deepTy c.arg) else n)
mutual
def deepExp : Exp → Int
 | .mk _ _ _ _ l _ c _ d _ => deepExps l (maxI (deepDecs d 0) (deepCases c 0)) + 1
def deepExps : List Exp → Int → Int
 | [], n => n
 | t :: l, n => deepExps l (maxI n (deepExp t))
def deepCases : List Case → Int → Int
 | [], n => n
 | .mk p e :: l, n => deepCases l (maxI (maxI n (deepPat p)) (deepExp e))
def deepDecs : List Dec → Int → Int
 | [], n => n
 | .mk _ _ _ _ l _ c _ f _ :: r, n => deepDecs r (maxI n (deepCons l (deepFuns f (deepCases c 0)) + 1))
def deepFuns : List Fun → Int → Int
 | [], n => n
 | .mk _ _ c :: l, n => deepFuns l (maxI n (deepCase c))
def deepCase : Case → Int
 | .mk p e => maxI (maxI 0 (deepPat p)) (deepExp e)
end
mutual
theorem Q3N : ∀ t : Ty, 0 ≤ deepTy t ∧ deepTy t ≤ t.size
 | .mk _ _ _ l _ => by have := Q80 l 0; simp only [deepTy, Ty.size] at *; omega
theorem Q80 : ∀ (l : List Ty) (n : Int), n ≤ deepTys l n ∧ deepTys l n ≤ max n (Ty.sizes l)
 | [], n => by simp only [deepTys, Ty.sizes]; omega
 | t :: l, n => by
   have h1 := Q3N t
   have h2 := Q80 l (maxI n (deepTy t))
   simp only [deepTys, Ty.sizes, maxI] at *
   split at h2 <;> split <;> omega
end
mutual
theorem Q1Q : ∀ t : Pat, 0 ≤ deepPat t ∧ deepPat t ≤ t.size
 | .mk _ _ _ _ l _ => by have := Q44 l 0; simp only [deepPat, Pat.size] at *; omega
theorem Q44 : ∀ (l : List Pat) (n : Int), n ≤ deepPats l n ∧ deepPats l n ≤ max n (Pat.sizes l)
 | [], n => by simp only [deepPats, Pat.sizes]; omega
 | t :: l, n => by
   have h1 := Q1Q t
   have h2 := Q44 l (maxI n (deepPat t))
   simp only [deepPats, Pat.sizes, maxI] at *
   split at h2 <;> split <;> omega
end
theorem Q2j : ∀ (l : List Con) (n : Int), n ≤ deepCons l n ∧ deepCons l n ≤ max n (Con.sizes l)
 | [], n => by simp only [deepCons, Con.sizes]; omega
 | c :: l, n => by
   have h1 := Q3N c.arg
   have h2 := Q2j l (bif c.has then maxI n (deepTy c.arg) else n)
   simp only [deepCons, Con.sizes, Con.size, maxI] at *
   cases hc : c.has <;> simp only [hc, cond_true, cond_false] at h2 ⊢
   ·omega
   ·split at h2 <;> split <;> omega
mutual
theorem Q1P : ∀ t : Exp, 0 ≤ deepExp t ∧ deepExp t ≤ t.size
 | .mk _ _ _ _ l _ c _ d _ => by
   have h1 := Q2k d 0
   have h2 := Q09 c 0
   have h3 := Q2l l (maxI (deepDecs d 0) (deepCases c 0))
   simp only [deepExp, Exp.size, maxI] at *
   split at h3 <;> split <;> omega
theorem Q2l : ∀ (l : List Exp) (n : Int), n ≤ deepExps l n ∧ deepExps l n ≤ max n (Exp.sizes l)
 | [], n => by simp only [deepExps, Exp.sizes]; omega
 | t :: l, n => by
   have h1 := Q1P t
   have h2 := Q2l l (maxI n (deepExp t))
   simp only [deepExps, Exp.sizes, maxI] at *
   split at h2 <;> split <;> omega
theorem Q09 : ∀ (l : List Case) (n : Int), n ≤ deepCases l n ∧ deepCases l n ≤ max n (Case.sizes l)
 | [], n => by simp only [deepCases, Case.sizes]; omega
 | .mk p e :: l, n => by
   have h1 := Q1Q p
   have h3 := Q1P e
   have h2 := Q09 l (maxI (maxI n (deepPat p)) (deepExp e))
   have h4 := Zh n (deepPat p)
   have h5 := Zh (maxI n (deepPat p)) (deepExp e)
   have h6 := Zi n (deepPat p) (max n (p.size + e.size)) (by omega) (by omega)
   have h7 := Zi (maxI n (deepPat p)) (deepExp e) (max n (p.size + e.size)) (by omega) (by omega)
   simp only [deepCases, Case.sizes, Case.size] at *
   omega
theorem Q2k : ∀ (l : List Dec) (n : Int), n ≤ deepDecs l n ∧ deepDecs l n ≤ max n (Dec.sizes l)
 | [], n => by simp only [deepDecs, Dec.sizes]; omega
 | .mk _ _ _ _ l _ c _ f _ :: r, n => by
   have h1 := Q09 c 0
   have h2 := Q1a f (deepCases c 0)
   have h3 := Q2j l (deepFuns f (deepCases c 0))
   have h4 := Q2k r (maxI n (deepCons l (deepFuns f (deepCases c 0)) + 1))
   have h5 := Zh n (deepCons l (deepFuns f (deepCases c 0)) + 1)
   have h6 := Zi n (deepCons l (deepFuns f (deepCases c 0)) + 1) (max n (Con.sizes l + Case.sizes c + Fun.sizes f + 1)) (by omega) (by omega)
   simp only [deepDecs, Dec.sizes, Dec.size] at *
   omega
theorem Q1a : ∀ (l : List Fun) (n : Int), n ≤ deepFuns l n ∧ deepFuns l n ≤ max n (Fun.sizes l)
 | [], n => by simp only [deepFuns, Fun.sizes]; omega
 | .mk _ _ c :: l, n => by
   have h1 := Q6F c
   have h2 := Q1a l (maxI n (deepCase c))
   simp only [deepFuns, Fun.sizes, Fun.size, maxI] at *
   split at h2 <;> split <;> omega
theorem Q6F : ∀ (c : Case), 0 ≤ deepCase c ∧ deepCase c ≤ c.size
 | .mk p e => by
   have h1 := Q1Q p
   have h2 := Q1P e
   have h3 := Zh 0 (deepPat p)
   have h4 := Zh (maxI 0 (deepPat p)) (deepExp e)
   have h6 := Zi 0 (deepPat p) (p.size + e.size) (by omega) (by omega)
   have h7 := Zi (maxI 0 (deepPat p)) (deepExp e) (p.size + e.size) (by omega) (by omega)
   simp only [deepCase, Case.size]
   omega
end
theorem Q0Z (a b : Int) : maxI a b = max a b := by unfold maxI; split <;> omega
def countN (l : List TNode) : Nat := (l.filter TNode.isNode).length
def firstBad : List TNode → TBad
 | [] => .zero
 | n :: l => bif decide (n.bad.kind = 0) then firstBad l else n.bad
def rightN (l : List TNode) (deep : Int) : TBad :=
 bif decide (countN l > 8192) then ⟨4, 0, []⟩ else bif decide (deep > 100) then ⟨7, 0, []⟩ else firstBad l
end Go.Am
namespace Go.Am
open Go
section
variable {H : Type} {ti : TypeId → TI}
def Fields (ti : TypeId → TI) (n : Nat) : List (Nat × TypeId) → List (DataW H) → List (List AV) → Prop
 | [], [], [] => True
 | f :: fs, d :: ds, l :: ls => conv ti n f.2 d = some l ∧ Fields ti n fs ds ls
 | _, _, _ => False
theorem Q9J (n : Nat) : ∀ (fs : List (Nat × TypeId)) (ds : List (DataW H)) (ls : List (List AV)), fs.length = ds.length → ((fs.zip ds).mapM fun p => conv ti n p.1.2 p.2) = some ls → Fields ti n fs ds ls
 | [], [], ls, _, h => by simp at h; subst h; trivial
 | f :: fs, d :: ds, ls, hl, h => by
   rw [List.zip_cons_cons, List.mapM_cons] at h
   cases h1 : conv ti n f.2 d with
   | none => simp [h1] at h
   | some l =>
     cases h2 : ((fs.zip ds).mapM fun p => conv ti n p.1.2 p.2) with
     | none => simp [h1, h2] at h
     | some ls' =>
       simp [h1, h2] at h
       subst h
       exact ⟨h1, Q9J n fs ds ls' (by simpa using hl) h2⟩
 | [], _ :: _, _, hl, _ => by simp at hl
 | _ :: _, [], _, hl, _ => by simp at hl
theorem Q2h {n : Nat} {t : TypeId} {d : DataW H} {l : List AV} {fs : List (Nat × TypeId)} (hk : (ti t).k = .struct fs) (h : conv ti (n + 1) t d = some l) : ∃ parts ls, d = .agg parts ∧ Fields ti n fs parts ls ∧ l = ls.flatten := by
 simp only [conv, hk] at h
 split at h <;> first | (cases h; done) | skip
 all_goals try (rename_i hx; cases hx; done)
 rename_i fs' parts hx
 cases hx
 split at h
 ·rename_i hl
  obtain ⟨ls, h1, rfl⟩ := Option.map_eq_some_iff.1 h
  exact ⟨parts, ls, rfl, Q9J n _ _ _ hl h1, rfl⟩
 ·cases h
theorem Q3c {n : Nat} {t : TypeId} {d : DataW H} {l : List AV} {k : IntKind} (hk : (ti t).k = .int k) (h : conv ti n t d = some l) : ∃ x, d = .lit (.int k x) ∧ l = [.int k x] ∧ (Lit.int k x).wf = true := by
 cases n with
 | zero => simp [conv] at h
 | succ n =>
   simp only [conv, hk] at h
   split at h <;> first | (cases h; done) | skip
   all_goals try (rename_i hx; cases hx; done)
   rename_i k' j x hx
   cases hx
   split at h
   ·rename_i hc
    obtain ⟨rfl, hc⟩ := hc
    cases h
    exact ⟨x, rfl, rfl, hc⟩
   ·cases h
theorem QdX {n : Nat} {t : TypeId} {d : DataW H} {l : List AV} (hk : (ti t).k = .bool) (h : conv ti n t d = some l) : ∃ b, d = .lit (.bool b) ∧ l = [.bool b] := by
 cases n with
 | zero => simp [conv] at h
 | succ n =>
   simp only [conv, hk] at h
   split at h <;> first | (cases h; done) | skip
   all_goals try (rename_i hx; cases hx; done)
   rename_i b hx
   cases h
   exact ⟨b, rfl, rfl⟩
theorem Q7q {n : Nat} {t : TypeId} {d : DataW H} {l : List AV} (hk : (ti t).k = .str) (h : conv ti n t d = some l) : ∃ s, d = .lit (.string s) ∧ l = [.str s] := by
 cases n with
 | zero => simp [conv] at h
 | succ n =>
   simp only [conv, hk] at h
   split at h <;> first | (cases h; done) | skip
   all_goals try (rename_i hx; cases hx; done)
   rename_i s hx
   split at h
   ·cases h
    exact ⟨s, rfl, rfl⟩
   ·cases h
theorem Qd2 {n : Nat} {t e : TypeId} {d : DataW H} {l : List AV} (hk : (ti t).k = .slice e) (h : conv ti (n + 1) t d = some l) : (d = .nil ∧ l = [.nils]) ∨ ∃ elems spare xs, d = .slice elems spare ∧ (elems.mapM fun d => (conv ti n e d).bind (ofCells (ti e))) = some xs ∧ l = [.sl xs] := by
 simp only [conv, hk] at h
 split at h <;> first | (cases h; done) | skip
 all_goals try (rename_i hx; cases hx; done)
 ·cases h
  exact .inl ⟨rfl, rfl⟩
 ·rename_i e' elems spare hx
  cases hx
  split at h
  ·obtain ⟨xs, h1, rfl⟩ := Option.map_eq_some_iff.1 h
   exact .inr ⟨elems, spare, xs, rfl, h1, rfl⟩
  ·cases h
end
end Go.Am
namespace Go.Proofs.Ytoahliipbclneaa
open Go Go.Am
set_option linter.unusedVariables false
set_option maxRecDepth 4000
section
variable {H : Type}
theorem Q9C {τ : Type} {cells : τ → List AV} {G : Nat → τ → Prop} {GL : Nat → List τ → Prop} {e : TypeId} {n : Nat} (ha : (C.ti e).isAgg = true) (h0 : GL 0 []) (h1 : ∀ m k t L, G m t → GL k L → GL (m + k) (t :: L))
  (he : ∀ (d : DataW H) l, conv C.ti n e d = some l → Rows.uptoBulk d < 2^30 → ∃ t, l = cells t ∧ G (Rows.uptoBulk d) t) : ∀ (ds : List (DataW H)) (xs : List AV), (ds.mapM fun d => (conv C.ti n e d).bind (ofCells (C.ti e))) = some xs → Rows.uptoBulkAll ds < 2^30 → ∃ L, xs = L.map (fun t => .agg (cells t)) ∧ GL (Rows.uptoBulkAll ds) L
 | [], xs, h, _ => by simp at h; subst h; exact ⟨[], rfl, by simpa only [Rows.uptoBulkAll] using h0⟩
 | d :: ds, xs, h, hb => by
   simp only [Rows.uptoBulkAll] at hb ⊢
   rw [List.mapM_cons] at h
   cases h2 : (conv C.ti n e d) with
   | none => simp [h2] at h
   | some l =>
     obtain ⟨t, rfl, ht⟩ := he d l h2 (by omega)
     cases h3 : ofCells (C.ti e) (cells t) with
     | none => simp [h2, h3] at h
     | some v =>
       cases h4 : (ds.mapM fun d => (conv C.ti n e d).bind (ofCells (C.ti e))) with
       | none => simp [h2, h3, h4] at h
       | some ys =>
         simp [h2, h3, h4] at h
         subst h
         obtain ⟨L, rfl, hL⟩ := Q9C ha h0 h1 he ds ys h4 (by omega)
         have : v = .agg (cells t) := by
          unfold ofCells at h3
          rw [ha, cond_true] at h3
          split at h3 <;> cases h3
          rfl
         subst this
         exact ⟨t :: L, rfl, h1 _ _ _ _ ht hL⟩
theorem Qa9 {τ : Type} {cells : τ → List AV} {G : Nat → τ → Prop} {GL : Nat → List τ → Prop} {t e : TypeId} {n : Nat} (hk : (C.ti t).k = .slice e) (ha : (C.ti e).isAgg = true) (h0 : GL 0 []) (h1 : ∀ m k t L, G m t → GL k L → GL (m + k) (t :: L))
  (he : ∀ (d : DataW H) l, conv C.ti n e d = some l → Rows.uptoBulk d < 2^30 → ∃ t, l = cells t ∧ G (Rows.uptoBulk d) t) (d : DataW H) (l : List AV) (h : conv C.ti (n + 1) t d = some l) (hb : Rows.uptoBulk d < 2^30) : ∃ L b k, l = [encS b (L.map fun t => .agg (cells t))] ∧ GL k L ∧ k + 1 ≤ Rows.uptoBulk d := by
 rcases Qd2 hk h with ⟨rfl, rfl⟩ | ⟨elems, spare, xs, rfl, h2, rfl⟩
 ·exact ⟨[], true, 0, rfl, h0, by simp only [Rows.uptoBulk]; omega⟩
 ·simp only [Rows.uptoBulk] at hb ⊢
  obtain ⟨L, rfl, hL⟩ := Q9C ha h0 h1 he elems xs h2 (by omega)
  exact ⟨L, false, _, rfl, hL, by omega⟩
def GTy (b : Nat) (t : Ty) : Prop := t.size ≤ b ∧ ∀ a, ∀ n ∈ nodesTy a t, n.ok
def GTys (b : Nat) (l : List Ty) : Prop := Ty.sizes l ≤ b ∧ ∀ a, ∀ n ∈ nodesTys a l, n.ok
theorem GTys.nil : GTys 0 [] := ⟨Nat.le_refl _, by simp [nodesTys]⟩
theorem GTys.cons (m k : Nat) (t : Ty) (L : List Ty) (h : GTy m t) (g : GTys k L) : GTys (m + k) (t :: L) := by
 refine ⟨by have := h.1; have := g.1; simp only [Ty.sizes]; omega, fun a n hn => ?_⟩
 simp only [nodesTys, List.mem_append] at hn
 rcases hn with hn | hn
 ·exact h.2 a n hn
 ·exact g.2 a n hn
theorem Qe2 : ∀ (n : Nat) (d : DataW H) l, conv C.ti n Q4 d = some l → Rows.uptoBulk d < 2^30 → ∃ t : Ty, l = t.cells ∧ GTy (Rows.uptoBulk d) t
 | 0, d, l, h, _ => by simp [conv] at h
 | 1, d, l, h, _ => by
   obtain ⟨parts, ls, rfl, hf, rfl⟩ := Q2h QdI h
   rcases parts with _ | ⟨d1, _ | ⟨d2, _ | ⟨d3, _ | ⟨d4, _ | _⟩⟩⟩⟩ <;> rcases ls with _ | ⟨l1, _ | ⟨l2, _ | ⟨l3, _ | ⟨l4, _ | _⟩⟩⟩⟩ <;> simp only [Fields, and_false] at hf
   simp [conv] at hf
 | n + 2, d, l, h, hb => by
   obtain ⟨parts, ls, rfl, hf, rfl⟩ := Q2h QdI h
   rcases parts with _ | ⟨d1, _ | ⟨d2, _ | ⟨d3, _ | ⟨d4, _ | _⟩⟩⟩⟩ <;> rcases ls with _ | ⟨l1, _ | ⟨l2, _ | ⟨l3, _ | ⟨l4, _ | _⟩⟩⟩⟩ <;> simp only [Fields, and_false] at hf
   obtain ⟨c1, c2, c3, c4, -⟩ := hf
   simp only [Rows.uptoBulk, Rows.uptoBulkAll] at hb ⊢
   obtain ⟨k, rfl, rfl, w1⟩ := Q3c QcU c1
   obtain ⟨m, rfl, rfl, w2⟩ := Q3c Q6m c2
   obtain ⟨s, rfl, rfl⟩ := Q7q QD c3
   simp only [Rows.uptoBulk] at hb ⊢
   obtain ⟨L, b, k', rfl, hL, hk⟩ := Qa9 Q4D QaR GTys.nil GTys.cons (fun d l h hb => Qe2 n d l h hb) d4 l4 c4 (by omega)
   refine ⟨.mk k m s L b, by rw [Ty.cells_mk]; rfl, by have := hL.1; simp only [Ty.size]; omega, fun a nd hn => ?_⟩
   simp only [nodesTy, List.mem_cons] at hn
   rcases hn with rfl | hn
   ·simp only [TNode.ok, Ty.name]; omega
   ·exact hL.2 a nd hn
def GPat (b : Nat) (t : Pat) : Prop := t.size ≤ b ∧ ∀ n ∈ nodesPat t, n.ok
def GPats (b : Nat) (l : List Pat) : Prop := Pat.sizes l ≤ b ∧ ∀ n ∈ nodesPats l, n.ok
theorem GPats.nil : GPats 0 [] := ⟨Nat.le_refl _, by simp [nodesPats]⟩
theorem GPats.cons (m k : Nat) (t : Pat) (L : List Pat) (h : GPat m t) (g : GPats k L) : GPats (m + k) (t :: L) := by
 refine ⟨by have := h.1; have := g.1; simp only [Pat.sizes]; omega, fun n hn => ?_⟩
 simp only [nodesPats, List.mem_append] at hn
 rcases hn with hn | hn
 ·exact h.2 n hn
 ·exact g.2 n hn
def GCon (b : Nat) (t : Con) : Prop := t.size ≤ b ∧ ∀ n ∈ nodesCon t, n.ok
def GCons (b : Nat) (l : List Con) : Prop := Con.sizes l ≤ b ∧ ∀ n ∈ nodesCons l, n.ok
theorem GCons.nil : GCons 0 [] := ⟨Nat.le_refl _, by simp [nodesCons]⟩
theorem GCons.cons (m k : Nat) (t : Con) (L : List Con) (h : GCon m t) (g : GCons k L) : GCons (m + k) (t :: L) := by
 refine ⟨by have := h.1; have := g.1; simp only [Con.sizes]; omega, fun n hn => ?_⟩
 simp only [nodesCons, List.mem_append] at hn
 rcases hn with hn | hn
 ·exact h.2 n hn
 ·exact g.2 n hn
def GExp (b : Nat) (t : Exp) : Prop := t.size ≤ b ∧ ∀ n ∈ nodesExp t, n.ok
def GExps (b : Nat) (l : List Exp) : Prop := Exp.sizes l ≤ b ∧ ∀ n ∈ nodesExps l, n.ok
def GCase (b : Nat) (t : Case) : Prop := t.size ≤ b ∧ ∀ n ∈ nodesCase t, n.ok
def GCases (b : Nat) (l : List Case) : Prop := Case.sizes l ≤ b ∧ ∀ n ∈ nodesCases l, n.ok
def GDec (b : Nat) (t : Dec) : Prop := t.size ≤ b ∧ ∀ i, ∀ n ∈ nodesDec i t, n.ok
def GDecs (b : Nat) (l : List Dec) : Prop := Dec.sizes l ≤ b ∧ ∀ i, ∀ n ∈ nodesDecs i l, n.ok
def GFun (b : Nat) (t : Fun) : Prop := t.size ≤ b ∧ ∀ n ∈ nodesFun t, n.ok
def GFuns (b : Nat) (l : List Fun) : Prop := Fun.sizes l ≤ b ∧ ∀ n ∈ nodesFuns l, n.ok
theorem GDecs.nil : GDecs 0 [] := ⟨by simp [Dec.sizes], by simp [nodesDecs]⟩
theorem GDecs.cons (m k : Nat) (t : Dec) (L : List Dec) (h : GDec m t) (g : GDecs k L) : GDecs (m + k) (t :: L) := by
 refine ⟨by have := h.1; have := g.1; simp only [Dec.sizes]; omega, fun i n hn => ?_⟩
 simp only [nodesDecs, List.mem_append] at hn
 rcases hn with hn | hn
 ·exact h.2 i n hn
 ·exact g.2 i n hn
theorem GExps.nil : GExps 0 [] := ⟨by simp [Exp.sizes], by simp [nodesExps]⟩
theorem GExps.cons (m k : Nat) (t : Exp) (L : List Exp) (h : GExp m t) (g : GExps k L) : GExps (m + k) (t :: L) := by
 refine ⟨by have := h.1; have := g.1; simp only [Exp.sizes]; omega, fun n hn => ?_⟩
 simp only [nodesExps, List.mem_append] at hn
 rcases hn with hn | hn
 ·exact h.2 n hn
 ·exact g.2 n hn
theorem GCases.nil : GCases 0 [] := ⟨by simp [Case.sizes], by simp [nodesCases]⟩
theorem GCases.cons (m k : Nat) (t : Case) (L : List Case) (h : GCase m t) (g : GCases k L) : GCases (m + k) (t :: L) := by
 refine ⟨by have := h.1; have := g.1; simp only [Case.sizes]; omega, fun n hn => ?_⟩
 simp only [nodesCases, List.mem_append] at hn
 rcases hn with hn | hn
 ·exact h.2 n hn
 ·exact g.2 n hn
theorem GFuns.nil : GFuns 0 [] := ⟨by simp [Fun.sizes], by simp [nodesFuns]⟩
theorem GFuns.cons (m k : Nat) (t : Fun) (L : List Fun) (h : GFun m t) (g : GFuns k L) : GFuns (m + k) (t :: L) := by
 refine ⟨by have := h.1; have := g.1; simp only [Fun.sizes]; omega, fun n hn => ?_⟩
 simp only [nodesFuns, List.mem_append] at hn
 rcases hn with hn | hn
 ·exact h.2 n hn
 ·exact g.2 n hn
structure DecAll (H : Type) (n : Nat) : Prop where
 exp : ∀ (d : DataW H) l, conv C.ti n ZZ d = some l → Rows.uptoBulk d < 2^30 → ∃ t : Exp, l = t.cells ∧ GExp (Rows.uptoBulk d) t
 case : ∀ (d : DataW H) l, conv C.ti n Zn d = some l → Rows.uptoBulk d < 2^30 → ∃ t : Case, l = t.cells ∧ GCase (Rows.uptoBulk d) t
 dec : ∀ (d : DataW H) l, conv C.ti n Qf d = some l → Rows.uptoBulk d < 2^30 → ∃ t : Dec, l = t.cells ∧ GDec (Rows.uptoBulk d) t
 fn : ∀ (d : DataW H) l, conv C.ti n Q1J d = some l → Rows.uptoBulk d < 2^30 → ∃ t : Fun, l = t.cells ∧ GFun (Rows.uptoBulk d) t
end
end Go.Proofs.Ytoahliipbclneaa
namespace Go.Am
open Go Go.RowKit
section
variable {H : Type} {enc : TypeId × Value → H} {P : Program}
theorem Left0.cell {w w' : World} (h : Left0 w w') {b off : Nat} (hb : b < w.heap.size) : w'.cell? ⟨b, off, none⟩ = w.cell? ⟨b, off, none⟩ := by
 unfold World.cell?
 rw [h.heap b hb]
theorem Left0.sameAt {w w' : World} (h : Left0 w w') {p : MemPlace} (hp : p.block < w.heap.size) : w.sameAt w' p := by
 cases p with
 | cell b off => exact h.cell hp
 | map b => exact h.heap b hp
theorem Left0.kept {w w' : World} (h : Left0 w w') (may : MemPlace → Prop) : w.keptBut w' may := by
 refine ⟨h.os, h.output, fun i hi => ?_⟩
 rw [h.heap i hi]
 cases w.heap[i]? with
 | none => rfl
 | some o => cases o with
   | cells c t fr => exact ⟨rfl, rfl, rfl, fun _ _ => rfl⟩
   | map es clock => exact .inr ⟨rfl, rfl⟩
   | _ => rfl
theorem Q9t {w w' : World} {base : Nat} {spare : Nat → Bool} {held : Bool} : ∀ {ts : List TypeId} {vs : List Value} {ds : List (DataW H)} {ps : List MemPlace}, DataW.TrodAll enc P w base spare held ts vs ds ps → (∀ p ∈ ps, w.sameAt w' p) → DataW.TrodAll enc P w' base spare held ts vs ds ps
 | [], [], [], _, h, _ => h
 | t :: ts, v :: vs, d :: ds, _, h, hs => by
   obtain ⟨p, q, ⟨n, h1⟩, h2, rfl⟩ := h
   exact ⟨p, q, ⟨n, DataW.trod_carry n _ _ _ h1 fun x hx => hs x (List.mem_append_left _ hx)⟩, Q9t h2 fun x hx => hs x (List.mem_append_right _ hx), rfl⟩
theorem Qez {f : Func} {s : ChangeSpec} {apart fresh handsOn : Bool} {W W' : World} {args : Array Value} {v : Value} {ds gs : List (DataW H)} {before pv : List MemPlace}
  (hW : DataW.Whole enc P f.params.toList s.vars apart W args.toList ds gs before)
  (hres : ∀ (b : Nat) (sp : Nat → Bool) (hd : Bool), DataW.TrodAll enc P W' b sp hd f.resultTypes.toList (v.resultList f.resultTypes.size) (s.fn H (ds ++ gs)).results [])
  (hargs : ∀ sp : Nat → Bool, (∀ p ∈ before, sp p.block = true) → ∃ pa, DataW.TrodAll enc P W' 0 sp true f.params.toList args.toList (s.fn H (ds ++ gs)).args pa)
  (hvars : ∀ sp : Nat → Bool, DataW.TrodVars enc P W' sp s.vars (s.fn H (ds ++ gs)).vars pv) (hl : Left0 W W') :
  s.post enc P f apart fresh handsOn false W args v W' := by
 have hold : ∀ p ∈ before, (fun b => decide (b < W.heap.size)) p.block = true := fun p hp => by simpa using hW.lt p hp
 obtain ⟨pa, ha⟩ := hargs (fun b => decide (b < W.heap.size)) hold
 exact ⟨ds, gs, before, [], pa, pv, hW, hres _ _ _, ha, hvars _, hl.kept _, fun h => by cases h⟩
end
end Go.Am
namespace Go.Proofs.Ytoahliipbclneaa
open Go Go.Am Go.RowKit
set_option linter.unusedVariables false
theorem types : ∀ t, TyOK Try.prog C t := QfP QeL fun t ht => by
 show tis.getD t {} = {}
 rw [List.getD_eq_getElem?_getD, List.getElem?_eq_none ht]
 rfl
theorem QdM {P : Program} {W : World} {r : Reach} {base : Nat} {t e : TypeId} {v : Value} (hu : P.underlying t = some (.slice e)) (h : Value.okWide P W r base t v) : v.cells.toList = [v] := by
 unfold Value.okWide at h
 simp only [hu] at h
 unfold Cell.okWide at h
 simp only [hu] at h
 cases v <;> first | rfl | (simp [Cell.ok, hu] at h)
theorem kids : Kids Try.prog (· < Try.prog.types.size) := kids_rows (by kernel_rfl) (by kernel_rfl)
theorem full : ∀ t e, t < Try.prog.types.size → Try.prog.underlying t = some (.slice e) → 0 < Try.prog.cellsOf e := fun t e ht hu => slices_full_of Try.prog (by kernel_rfl) t e ht hu
theorem again {H : Type} {enc : TypeId × Value → H} {W W' : World} {ts : List TypeId} {vs : List Value} {ds : List (DataW H)} {ps : List MemPlace} (hts : ∀ t ∈ ts, t < Try.prog.types.size) (h : DataW.TrodAll enc Try.prog W 0 (fun _ => true) true ts vs ds ps) (hl : Left0 W W') (hlt : ∀ p ∈ ps, p.block < W.heap.size)
  (sp : Nat → Bool) (hsp : ∀ p ∈ ps, sp p.block = true) : ∃ pa, DataW.TrodAll enc Try.prog W' 0 sp true ts vs ds pa :=
 ⟨ps, Q9t (DataW.TrodAll.respare kids full hts h hsp) fun p hp => hl.sameAt (hlt p hp)⟩
end Go.Proofs.Ytoahliipbclneaa
namespace Go.Proofs.Ytoahliipbclneaa
open Go Go.Am Go.RowKit
theorem Qfj (P : Program) (W : World) : laidMet P [] W := ⟨[], rfl, by simp, by simp⟩
theorem QfS {κ : Kn} {a : AV} {l : List AV} {v : Value} {vs : List Value} (h : VR κ a v) (g : VRl κ l vs) : VRl κ (a :: l) (v :: vs) := ⟨v, vs, rfl, h, g⟩
end Go.Proofs.Ytoahliipbclneaa
namespace Go.Proofs.Ytoahliipbclneaa
open Go Go.Am
set_option linter.unusedVariables false
def Ends (s : St) (r : Res) : Prop := ∀ o s', r = some (o, s') → s' = s
theorem Ends.ret {s : St} (o : Out) : Ends s (some (o, s)) := fun _ _ h => by cases h; rfl
theorem Ends.none {s : St} : Ends s none := fun _ _ h => by cases h
theorem Ends.bind1 {s : St} {r : Option Slot} {k : Slot → Res} (h : ∀ v, Ends s (k v)) : Ends s (bind1 r k) := by
 cases r with
 | none => exact .none
 | some v => exact h v
theorem Ends.bindL {s : St} {r : Option (List Slot)} {k : List Slot → Res} (h : ∀ v, Ends s (k v)) : Ends s (bindL r k) := by
 cases r with
 | none => exact .none
 | some v => exact h v
theorem Ends.bindA {s : St} {r : Option (List AV)} {k : List AV → Res} (h : ∀ v, Ends s (k v)) : Ends s (bindA r k) := by
 cases r with
 | none => exact .none
 | some v => exact h v
theorem Ends.bindB {s : St} {r : Option Bool} {k : Bool → Res} (h : ∀ v, Ends s (k v)) : Ends s (bindB r k) := by
 cases r with
 | none => exact .none
 | some v => exact h v
theorem Ends.condS {s : St} {c : Slot} {a b : Res} (h : Ends s a) (g : Ends s b) : Ends s (condS c a b) := by
 unfold Go.Am.condS
 split
 ·rename_i t _; cases t
  ·exact g
  ·exact h
 ·exact .none
theorem Ends.chkP {s : St} {a b : Bool} {k : Unit → Res} (h : Ends s (k ())) : Ends s (chkP a b k) := by
 unfold Go.Am.chkP
 cases (a || !b) with
 | true => exact h
 | false => exact .none
theorem QdW (a : AV) (s : St) : Ends s (cw (.f Q0j) [a] s) := by
 rw [Q6E]
 repeat (first | exact Ends.ret _ | exact Ends.none | apply Ends.condS | apply Ends.chkP | (apply Ends.bind1; intro) | (apply Ends.bindL; intro) | (apply Ends.bindA; intro) | (apply Ends.bindB; intro))
theorem QgE : ∀ n, QuietOK C (call C n) := fun n F m h l s o s' hl hc => by
 have hF : Nat.beq F Q0j = true ∧ Nat.beq m 1 = true := by simpa only [Bool.and_eq_true] using (show (Nat.beq F Q0j && Nat.beq m 1) = true from h)
 have h1 := Nat.eq_of_beq_eq_true hF.1
 have h2 := Nat.eq_of_beq_eq_true hF.2
 subst h1 h2
 match l, hl with
 | [a], _ => exact QdW a s o s' (Q7R.2 ⟨n, hc⟩)
end Go.Proofs.Ytoahliipbclneaa
namespace Go.Proofs.Ytoahliipbclneaa
open Go Go.Am Go.RowKit
set_option linter.unusedVariables false
theorem QjL (f : Nat) (g : List AV → Option AV) (h : C.ext f = some g) : f = 72 ∧ g = extContains := by
 change findExt f exts = some g at h
 unfold exts findExt at h
 cases hf : Nat.beq f 72 with
 | false => rw [hf] at h; cases h
 | true =>
   rw [hf] at h
   exact ⟨Nat.eq_of_beq_eq_true hf, (Option.some.inj h).symm⟩
theorem Qb4 : ∀ (l : List AV) (v : AV), extContains l = some v → ∃ s t, l = [.str s, .str t] ∧ s.length < 4294967281 ∧ v = .bool (Go.Lib.contains s t)
 | [.str s, .str t], v, h => by
   simp only [extContains] at h
   split at h
   ·cases h
    exact ⟨s, t, rfl, ‹_›, rfl⟩
   ·cases h
theorem codeOK : CodeOK Try.prog C where
 ty := types
 code := Qgo rfl QdV
 quiet := QgE
 ext := by
  intro f g l v hf hg κ B s w vs hi hG hB hv
  obtain ⟨rfl, rfl⟩ := QjL f g hf
  obtain ⟨x, y, rfl, hx, rfl⟩ := Qb4 l v hg
  obtain ⟨v1, r1, rfl, h1, v2, r2, rfl, h2, h3⟩ := hv
  cases r2 with
  | cons _ _ => cases h3
  | nil =>
    simp only [VR] at h1 h2
    obtain ⟨z1, rfl, rfl⟩ := h1
    obtain ⟨z2, rfl, rfl⟩ := h2
    obtain ⟨m, hm⟩ := hG.2 0 (by simp [C])
    have hc := hi.im 0 0 _ hm
    have hk := Try.strings_Contains z1 z2 m w (by simpa using hx) hc
    have he := enters_of Try.func72 (by kernel_rfl) (c := body Try.f72) (by kernel_rfl) #[.string z1, .string z2] w
    have hx := callsIn_wide (n := 0).2 hk
    refine .inr ⟨he, hx.mono fun e w' h => ?_⟩
    obtain ⟨h4, h5⟩ := h
    subst h4
    subst h5
    exact ⟨κ, .refl _ _, hi, by simp only [OutR, SR, VR]⟩
theorem globOK {W : World} (h : W.ShapedOpen Try.prog) : GlobOK C (kn0 W) := by
 refine ⟨fun g l hg => (by cases hg), fun g hg => ?_⟩
 obtain rfl : g = 0 := by simpa [C] using hg
 exact Try.laysM144.s1_3 W h
end Go.Proofs.Ytoahliipbclneaa
namespace Go.Proofs.Ytoahliipbclneaa
open Go Go.Am
set_option linter.unusedVariables false
theorem Q6u (n : Int) (c : Bool) (s : St) : cw (.f Q24) [.int .u8 n, .bool c] s = some (.ret (.val (.bool (letterR n c))), s) := by
 rw [Q8y]; cases c <;> simp only [go_sem] <;> rfl
theorem Q8z (n : Int) (s : St) : cw (.f Q38) [.int .u8 n] s = some (.ret (.val (.bool (restR n))), s) := by
 rw [Qay]; simp only [go_sem]; rfl
theorem Q6v (l : Str) (pre : Str) : ∀ (suf : Str) (s : St), pre ++ suf = l → l.length < 2^62 → Zk (.val (.str l)) (.val (.int .i64 pre.length)) s = some (.ret (.val (.bool (suf.all fun c => restR c.toNat))), s) := by
 intro suf
 induction suf generalizing pre with
 | nil =>
   intro s h hl
   rw [List.append_nil] at h
   subst h
   rw [Q2v]; simp only [QaP, QaN, Q4R QD, Q2V, Q4F, Q2W]
   rw [Q9e (by simp)]
   rfl
 | cons c suf ih =>
   intro s h hl
   have hc : l[pre.length]? = some c := by rw [← h]; simp
   have hlt : pre.length < l.length := by rw [← h]; simp
   have := ih (pre ++ [c]) s (by simp [h]) hl
   rw [Q2v]
   simp only [QaP, QaN, Q4R QD, Q2V, Q4F, Q2W]
   rw [Q9f (by simpa using hlt), Q4O QD hc]
   simp only [go_sem, Q8z]
   rw [wrap64 (by omega) (by omega)]
   have e : (pre.length : Int) + 1 = ((pre ++ [c]).length : Int) := by simp
   rw [e, this]
   simp only [go_sem, List.all_cons]
   cases restR c.toNat <;> rfl
theorem Q6w (l : Str) (c : Bool) (s : St) (hl : l.length < 2^62) : cw (.f Q0Q) [.str l, .bool c] s = some (.ret (.val (.bool (shapedR l c))), s) := by
 rw [Q8A]
 cases l with
 | nil => simp only [go_sem]; rfl
 | cons x l =>
   have h := Q6v (x :: l) [x] l s rfl hl
   simp only [go_sem, List.length_singleton] at h
   simp only [go_sem, Q6u, Q49 QD (List.cons_ne_nil x l)]
   have h' : Zk (.val (.str (x :: l))) (.val (.int .i64 1)) s = some (.ret (.val (.bool (l.all fun c => restR c.toNat))), s) := h
   rw [h']
   show ifR _ _ _ = some (Out.ret (.val (.bool (!(decide (((l.length + 1 : Nat) : Int) < 1) || decide (((l.length + 1 : Nat) : Int) > 32) || !letterR (((x :: l).headD 0).toNat : Int) c) && (l.all fun c => restR c.toNat)))), s)
   generalize (decide (((l.length + 1 : Nat) : Int) < 1) || decide (((l.length + 1 : Nat) : Int) > 32) || !letterR (((x :: l).headD 0).toNat : Int) c) = b
   cases b <;> rfl
theorem Q7A (s : St) : cw (.f Q2B) [] s = some (.ret (.full (wordsR.map .str)), s) := by
 rw [Q9k]; simp only [go_sem, Nat.reduceAdd]; rfl
theorem Q7B (x : Str) (l : List Str) (pre : List Str) : ∀ (suf : List Str) (y : Slot) (s : St), y.list? = some (l.map .str) → pre ++ suf = l → l.length < 2^62 → Q0c (.val (.str x)) y (.val (.int .i64 pre.length)) s = some (.ret (.val (.bool (amongR x suf))), s) := by
 intro suf
 induction suf generalizing pre with
 | nil =>
   intro y s hy h hl
   rw [List.append_nil] at h
   subst h
   rw [Q2L]; simp only [go_sem, hy]
   rw [Q9e (by simp)]
   rfl
 | cons c suf ih =>
   intro y s hy h hl
   have hc : (l.map AV.str)[pre.length]? = some (.str c) := by rw [← h]; simp
   have hlt : pre.length < l.length := by rw [← h]; simp
   have := ih (pre ++ [c]) y s hy (by simp [h]) hl
   rw [Q2L]
   simp only [go_sem, hy]
   rw [Q9f (by simpa using hlt), Q1v (sz := 1) hy hc rfl (by decide)]
   simp only [go_sem, Nat.reduceAdd, Nat.reduceLeDiff]
   rw [wrap64 (by omega) (by omega)]
   have e : (pre.length : Int) + 1 = ((pre ++ [c]).length : Int) := by simp
   rw [e, this]
   simp only [go_sem, amongR, List.any_cons]
   cases decide (c = x) <;> rfl
theorem Q7C (x : Str) (l : List Str) (s : St) (hl : l.length < 2^62) (nl : Bool) : cw (.f Q1n) [.str x, encS nl (l.map .str)] s = some (.ret (.val (.bool (amongR x l))), s) := by
 rw [Q9l]
 exact Q7B x l [] l _ s (by simp only [go_sem]) rfl hl
theorem Q9j (l : Str) (s : St) (hl : l.length < 2^62) : cw (.f Q42) [.str l] s = some (.ret (.val (.bool (lowR l))), s) := by
 rw [QbD]
 have h := fun s => Q7C l wordsR s (by decide) false
 rw [Q1R] at h
 simp only [go_sem, Q6w l _ _ hl, Q7A, h]
 rfl
end Go.Proofs.Ytoahliipbclneaa
namespace Go.Proofs.Ytoahliipbclneaa
open Go Go.Am
set_option linter.unusedVariables false
set_option maxRecDepth 4000
def plainV : AV → Bool
 | .vs _ _ _ _ _ => false
 | .agg _ => false
 | _ => true
theorem Q1u (ti : TypeId → TI) (n : Nat) {v : AV} (h : plainV v = true) (s : St) : frz ti (n + 1) v s = some (v, s) := by
 cases v <;> first | rfl | simp [plainV] at h
theorem Q46 (ti : TypeId → TI) (k : IntKind) (n : Int) (s : St) : frzSlot ti (.val (.int k n)) s = some (.val (.int k n), s) := rfl
theorem Q47 (ti : TypeId → TI) (l : List UInt8) (s : St) : frzSlot ti (.val (.str l)) s = some (.val (.str l), s) := rfl
theorem Qba (ti : TypeId → TI) (s : St) : frzSlot ti (.val .nils) s = some (.val .nils, s) := rfl
theorem Qb9 (ti : TypeId → TI) (l : List AV) (s : St) : frzSlot ti (.full l) s = some (.full l, s) := rfl
theorem Qfb {t : TI} {e : TypeId} (h : t.k = .slice e) : binS t .eql (.val .nils) (.val .nils) = some (.val (.bool true)) := by simp only [binS, Q05, eqS, h]; rfl
theorem Qea {t : TI} {e : TypeId} (h : t.k = .slice e) (l : List AV) : binS t .eql (.val (.sl l)) (.val .nils) = some (.val (.bool false)) := by simp only [binS, Q05, eqS, h]; rfl
theorem QbW {e : TypeId} {t : TI} {s : St} {y : Slot} {l : List AV} (hy : y.list? = some l) (hl : l ≠ []) (hs : ∀ v ∈ l, v.cells.length = t.size) (h0 : 0 < t.size) (b1 : l.length * t.bytes ≤ 140737488355328) (b2 : l.length ≤ 9223372036854775807) :
  appendV e t s (.full []) y = some (.val (.vs s.locs.length e t.size 0 l.length), s.addLoc (.var ((flatL l).map .val))) := by
 unfold appendV
 rw [hy]
 cases l with
 | nil => exact absurd rfl hl
 | cons a l =>
   simp only [Zx hs h0, cond_true]
   simp only [newV]
   rw [show okSz t.size [] = true from Zx (by simp) h0]
   simp only [cond_true, List.nil_append]
   rw [if_pos ⟨b1, b2⟩]
theorem Qfq (et : TypeId) (t : TI) (s : St) (n : Int) (h0 : 0 ≤ n) (hn : n < 2^30) (hb : t.bytes ≤ 2^16) (hs : 0 < t.size) (z : AV) (hz : ofCells t t.zero = some z) :
  ∃ x s', makeS et t s (.val (.int .i64 0)) (.val (.int .i64 n)) = some (x, s') ∧ AccR et s s' x [] := by
 have h1 : n * (t.bytes : Int) ≤ n * 2^16 := Int.mul_le_mul_of_nonneg_left (by omega) h0
 refine ⟨.own s.toks.length et [], { s with toks := s.toks ++ [0] }, ?_, ⟨(Grew.refl s).pushTok 0, .inr (.inr ⟨s.toks.length, rfl, Nat.le_refl _, by simp⟩)⟩⟩
 simp only [makeS, hz]
 rw [if_pos ⟨Int.le_refl _, h0, by omega, hs, by omega⟩]
 rfl
theorem Q5A (l : List Slot) (s : St) (k : List Slot → St → Res) : bindLS (some (l, s)) k = k l s := rfl
theorem Q4M (ti : TypeId → TI) (n : Nat) : ∀ (l : List AV) (s : St), (∀ v ∈ l, plainV v = true) → frzW (frz ti (n + 1)) l s = some (l, s)
 | [], s, _ => rfl
 | v :: l, s, h => by
   simp only [frzW]
   rw [Q1u ti n (h v List.mem_cons_self)]
   simp only []
   rw [Q4M ti n l s fun w hw => h w (List.mem_cons_of_mem _ hw)]
theorem Q0X (v : AV) (l : List AV) : flatL (v :: l) = v.cells ++ flatL l := by simp [flatL]
theorem Q0L {sz : Nat} : ∀ {l : List AV}, (∀ v ∈ l, v.cells.length = sz) → (flatL l).length = l.length * sz
 | [], _ => by simp [flatL]
 | v :: l, h => by
   rw [Q0X, List.length_append, Q0L fun w hw => h w (List.mem_cons_of_mem _ hw), h v List.mem_cons_self, List.length_cons, Nat.succ_mul, Nat.add_comm]
theorem Q30 {t : TI} : ∀ {l : List AV}, (∀ v ∈ l, v.cells.length = t.size ∧ ofCells t v.cells = some v) → rows t l.length (flatL l) = some l
 | [], _ => rfl
 | v :: l, h => by
   have hv := h v List.mem_cons_self
   rw [List.length_cons, Q0X]
   simp only [rows]
   rw [List.take_left' hv.1, List.drop_left' hv.1, hv.2]
   simp only []
   rw [Q30 fun w hw => h w (List.mem_cons_of_mem _ hw)]
theorem Q7v {sz : Nat} : ∀ {l : List AV} {i : Nat} {v : AV}, (∀ v ∈ l, v.cells.length = sz) → l[i]? = some v → ∃ a b, flatL l = a ++ (v.cells ++ b) ∧ a.length = i * sz
 | [], i, v, _, h => by simp at h
 | w :: l, 0, v, h, g => by
   simp at g; subst g
   exact ⟨[], flatL l, by rw [Q0X]; rfl, by simp⟩
 | w :: l, i + 1, v, h, g => by
   obtain ⟨a, b, e, k⟩ := Q7v (l := l) (i := i) (v := v) (fun w hw => h w (List.mem_cons_of_mem _ hw)) (by simpa using g)
   refine ⟨w.cells ++ a, b, by rw [Q0X, e, List.append_assoc], ?_⟩
   rw [List.length_append, h w List.mem_cons_self, k, Nat.succ_mul, Nat.add_comm]
def Holds (s : St) (loc : Nat) (l : List AV) : Prop := s.locs[loc]? = some (.var ((flatL l).map .val))
theorem Holds.move {s s' : St} {loc : Nat} {l : List AV} (h : Holds s loc l) (g : Grew s s') : Holds s' loc l := g.loc h
theorem Holds.ld {s : St} {loc : Nat} {l : List AV} (h : Holds s loc l) {t : TI} (hs : ∀ v ∈ l, v.cells.length = t.size) {i : Nat} {v : AV} (hv : l[i]? = some v) : ldV t false s (.val (.vp loc (i * t.size))) = ofSlots t (v.cells.map .val) := by
 obtain ⟨a, b, e, k⟩ := Q7v hs hv
 have hv' := hs v (List.mem_of_getElem? hv)
 unfold Holds at h
 simp only [ldV, cond_false, h, e, List.map_append]
 rw [List.drop_left' (by simpa using k), List.take_left' (by simpa using hv')]
theorem Holds.st {s : St} {loc : Nat} {l : List AV} (h : Holds s loc l) {sz : Nat} (hs : ∀ v ∈ l, v.cells.length = sz) {i : Nat} {v : AV} (hv : l[i]? = some v) : stV s (.val (.vp loc (i * sz))) (v.cells.map .val) = some s := by
 obtain ⟨a, b, e, k⟩ := Q7v hs hv
 unfold Holds at h
 simp only [stV, h, e, List.map_append]
 have : putAt (List.map Slot.val a ++ (List.map Slot.val v.cells ++ List.map Slot.val b)) (i * sz) (List.map Slot.val v.cells) = some (List.map Slot.val a ++ (List.map Slot.val v.cells ++ List.map Slot.val b)) := by
  unfold putAt
  rw [if_pos (by simp only [List.length_append, List.length_map, k]; omega), List.take_left' (by simpa using k), List.drop_append, List.drop_of_length_le (by simp only [List.length_map, k]; omega)]
  simp only [List.length_map, k]
  rw [Nat.add_sub_cancel_left, List.nil_append, List.drop_left' (by simp)]
 rw [this]
 simp only []
 have hlt := (List.getElem?_eq_some_iff.1 h)
 obtain ⟨hlt, hget⟩ := hlt
 congr 1
 rw [show s.locs.set loc (Obj.var (List.map Slot.val a ++ (List.map Slot.val v.cells ++ List.map Slot.val b))) = s.locs from ?_]
 rw [← List.map_append, ← List.map_append, ← e, ← hget]
 exact List.set_getElem_self hlt
theorem Holds.frz {s : St} {loc : Nat} {l : List AV} (h : Holds s loc l) {ti : TypeId → TI} {e : TypeId} (hs : ∀ v ∈ l, v.cells.length = (ti e).size ∧ ofCells (ti e) v.cells = some v) (hp : ∀ v ∈ l, ∀ x ∈ v.cells, plainV x = true) (h0 : 0 < (ti e).size) :
  frzSlot ti (.val (.vs loc e (ti e).size 0 l.length)) s = some (.val (.sl l), { s with locs := s.locs.set loc .dead }) := by
 have hl := Q0L (fun v hv => (hs v hv).1)
 unfold Holds at h
 simp only [frzSlot, Am.frz, h]
 rw [Nat.zero_mul, List.drop_zero, List.take_of_length_le (by simp only [List.length_map, hl]; omega), Q43]
 simp only []
 rw [Q4M ti 14 _ _ (by intro v hv; obtain ⟨w, hw, hx⟩ := List.mem_flatMap.1 hv; exact hp w hw v hx)]
 simp only []
 rw [Q30 hs]
 simp only [List.length_map, hl, Nat.zero_add]
 rw [show (Nat.blt 0 (ti e).size && Nat.ble (l.length * (ti e).size) (l.length * (ti e).size)) = true by simp [h0, Nat.blt_eq, Nat.ble_eq]]
 rfl
theorem Q3R {s0 s : St} (h : Grew s0 s) {k : Nat} (hk : s0.locs.length ≤ k) (o : Am.Obj) : Grew s0 { s with locs := s.locs.set k o } := by
 obtain ⟨⟨a, ha⟩, hb⟩ := h
 refine ⟨⟨a.set (k - s0.locs.length) o, ?_⟩, hb⟩
 simp only [ha]
 rw [List.set_append_right _ _ hk]
end Go.Proofs.Ytoahliipbclneaa
namespace Go.Proofs.Ytoahliipbclneaa
open Go Go.Am
set_option linter.unusedVariables false
set_option maxRecDepth 4000
theorem Q3Q (a b : List AV) : flatL (a ++ b) = flatL a ++ flatL b := by simp [flatL]
def _root_.Go.Am.St.kill (s : St) (k : Nat) : St := { s with locs := s.locs.set k .dead }
def _root_.Go.Am.St.turn (s : St) (k : Nat) (o : Am.Obj) : St := { s with locs := s.locs.set k .dead ++ [o] }
theorem Holds.lt {s : St} {k : Nat} {l : List AV} (h : Holds s k l) : k < s.locs.length := (List.getElem?_eq_some_iff.1 h).1
theorem Holds.kill {s : St} {j k : Nat} {l : List AV} (h : Holds s j l) (n : j ≠ k) : Holds (s.kill k) j l := by
 unfold Holds St.kill at *
 rw [List.getElem?_set_ne (Ne.symm n)]; exact h
theorem Holds.turn {s : St} {j k : Nat} {l : List AV} (h : Holds s j l) (n : j ≠ k) (o : Am.Obj) : Holds (s.turn k o) j l := by
 have hl := h.lt
 unfold Holds St.turn at *
 simp only []
 rw [List.getElem?_append_left (by rw [List.length_set]; exact hl), List.getElem?_set_ne (Ne.symm n)]; exact h
theorem Q8d (s : St) (k : Nat) (l : List AV) : Holds (s.turn k (.var ((flatL l).map .val))) s.locs.length l := by
 unfold Holds St.turn
 simp only []
 rw [List.getElem?_append_right (by rw [List.length_set]; exact Nat.le_refl _), List.length_set, Nat.sub_self]; rfl
theorem Q9R (s : St) (l : List AV) : Holds (s.addLoc (.var ((flatL l).map .val))) s.locs.length l := Q3F _ _
theorem Holds.put {s : St} {j k : Nat} {l : List AV} (h : Holds s j l) (n : j ≠ k) (o : Am.Obj) : Holds { s with locs := s.locs.set k o } j l := by
 unfold Holds at *
 simp only []
 rw [List.getElem?_set_ne (Ne.symm n)]; exact h
theorem Q9Q {s0 s : St} (h : Grew s0 s) {k : Nat} (hk : s0.locs.length ≤ k) (o : Am.Obj) : Grew s0 (s.turn k o) := by
 have := (Q3R h hk .dead).addLoc o
 exact this
theorem Qfm (s : St) (k : Nat) (o : Am.Obj) : (s.turn k o).locs.length = s.locs.length + 1 := by simp [St.turn]
theorem Q7O {e : TypeId} {t : TI} {s : St} {loc : Nat} {l m : List AV} {y : Slot} (h : Holds s loc l) (hl : ∀ v ∈ l, v.cells.length = t.size) (hy : y.list? = some m) (hm0 : m ≠ []) (hm : ∀ v ∈ m, v.cells.length = t.size) (h0 : 0 < t.size)
  (b1 : (l.length + m.length) * t.bytes ≤ 140737488355328) (b2 : l.length + m.length ≤ 9223372036854775807) :
  appendV e t s (.val (.vs loc e t.size 0 l.length)) y = some (.val (.vs s.locs.length e t.size 0 (l.length + m.length)), s.turn loc (.var ((flatL (l ++ m)).map .val))) := by
 have hlen := Q0L hl
 unfold appendV
 rw [hy]
 cases m with
 | nil => exact absurd rfl hm0
 | cons a m =>
   simp only [Zx hm h0, cond_true]
   unfold Holds at h
   rw [h]
   simp only []
   rw [if_pos ⟨trivial, by simp [hlen], b1, b2⟩]
   simp only [St.turn]
   rw [List.take_of_length_le (by simp [hlen]), Q3Q, List.map_append]
theorem Qbb (f : AV → St → Option (AV × St)) : ∀ (a b : List AV) (s : St), frzW f (a ++ b) s = match frzW f a s with
  | some (l, s') => match frzW f b s' with
    | some (m, s'') => some (l ++ m, s'')
    | none => none
  | none => none
 | [], b, s => by simp only [List.nil_append, frzW]; cases frzW f b s <;> rfl
 | v :: a, b, s => by
   simp only [List.cons_append, frzW]
   cases f v s with
   | none => rfl
   | some p =>
     obtain ⟨v', s'⟩ := p
     simp only [Qbb f a b s']
     cases frzW f a s' with
     | none => rfl
     | some q =>
       obtain ⟨l, s''⟩ := q
       simp only []
       cases frzW f b s'' <;> rfl
theorem Qed {s : St} {loc : Nat} {l : List AV} (h : Holds s loc l) {ti : TypeId → TI} {e : TypeId} (n : Nat) (hs : ∀ v ∈ l, v.cells.length = (ti e).size ∧ ofCells (ti e) v.cells = some v) (hp : ∀ v ∈ l, ∀ x ∈ v.cells, plainV x = true) (h0 : 0 < (ti e).size) :
  Am.frz ti (n + 2) (.vs loc e (ti e).size 0 l.length) s = some (.sl l, s.kill loc) := by
 have hl := Q0L (fun v hv => (hs v hv).1)
 unfold Holds at h
 simp only [Am.frz, h]
 rw [Nat.zero_mul, List.drop_zero, List.take_of_length_le (by simp only [List.length_map, hl]; omega), Q43]
 simp only []
 rw [Q4M ti n _ _ (by intro v hv; obtain ⟨w, hw, hx⟩ := List.mem_flatMap.1 hv; exact hp w hw v hx)]
 simp only []
 rw [Q30 hs]
 simp only [List.length_map, hl, Nat.zero_add]
 rw [show (Nat.blt 0 (ti e).size && Nat.ble (l.length * (ti e).size) (l.length * (ti e).size)) = true by simp [h0, Nat.blt_eq, Nat.ble_eq]]
 rfl
theorem Q7o {x : Option Slot} {d m h : Nat} (hd : d ≤ m) (e : bound x d m = some h) : h ≤ m := by
 unfold bound at e
 split at e
 ·cases e; exact hd
 ·split at e
  ·rename_i h1; cases e; omega
  ·cases e
 ·cases e
theorem Qcg {t : TI} {e : TypeId} (hk : t.k = .slice e) {x : Slot} {L : List AV} (hv : x.list? = some L) {sz : Nat} (hs : ∀ x ∈ L, x.cells.length = sz) (h0 : 0 < sz) {lo hi : Option Slot} {h a : Nat} (hh : bound hi L.length L.length = some h) (ha : bound lo 0 h = some a) :
  ∃ w, sliceS t sz x lo hi none = some (.val w) ∧ (Slot.val w).list? = some ((L.take h).drop a) := by
 have hall : (L.all (fun v => v.cells.length == sz) && Nat.blt 0 sz) = true := by
  rw [Bool.and_eq_true, List.all_eq_true]
  exact ⟨fun x hx => by simpa using hs x hx, by rw [Nat.blt_eq]; exact h0⟩
 have hv' := hv
 unfold Slot.list? at hv'
 split at hv'
 ·cases hv'
  have := Q7o (by simp) hh
  simp only [List.length_nil, Nat.le_zero] at this
  subst this
  simp only [List.length_nil] at hh
  exact ⟨.nils, by simp only [sliceS, hk, hh, ha], by simp [Slot.list?]⟩
 ·cases hv'
  exact ⟨.sl ((L.take h).drop a), by simp only [sliceS, hk, Qfn, hall, cond_true, hh, ha], rfl⟩
 ·cases hv'
  exact ⟨.sl ((L.take h).drop a), by simp only [sliceS, hk, Qeq, hall, cond_true, hh, ha], rfl⟩
 ·cases hv'
  exact ⟨.sl ((L.take h).drop a), by simp only [sliceS, hk, Q8f, hall, cond_true, hh, ha], rfl⟩
 ·cases hv'
theorem Qdp {t : TI} {e : TypeId} (hk : t.k = .slice e) {v : AV} {L : List AV} (hv : (Slot.val v).list? = some L) {sz : Nat} (hs : ∀ x ∈ L, x.cells.length = sz) (h0 : 0 < sz) {lo hi : Option Slot} {h a : Nat} (hh : bound hi L.length L.length = some h) (ha : bound lo 0 h = some a) :
  ∃ w, sliceS t sz (.val v) lo hi none = some (.val w) ∧ (Slot.val w).list? = some ((L.take h).drop a) := Qcg hk hv hs h0 hh ha
theorem QdP {k : IntKind} {d m n : Nat} (h : n ≤ m) : bound (some (.val (.int k (n : Int)))) d m = some n := by
 simp only [bound]
 rw [if_pos ⟨by omega, by omega⟩]; simp
end Go.Proofs.Ytoahliipbclneaa
namespace Go.Am
open Go
def tvar (n : Int) : Ty := .mk 1 n [] [] true
mutual
def ownTy : Ty → Ty
 | .mk k n s l _ => .mk k n s (ownTys l) true
def ownTys : List Ty → List Ty
 | [] => []
 | t :: l => ownTy t :: ownTys l
end
def ofTy (name : Str) (l : List Ty) : Ty := .mk 2 0 name (l.map ownTy) true
def fnTy (a b : Ty) : Ty := ofTy [45, 62] [a, b]
section
variable {σ : Type} (to : Int → σ → Ty × σ)
mutual
def chTy : Ty → σ → Ty × σ
 | .mk k n s l _, st => bif decide (k = 1) then to n st else (.mk k n s (chTys l st).1 true, (chTys l st).2)
def chTys : List Ty → σ → List Ty × σ
 | [], st => ([], st)
 | t :: l, st => ((chTy t st).1 :: (chTys l (chTy t st).2).1, (chTys l (chTy t st).2).2)
end
end
def toPut (l : List Ty) (n : Int) (u : Unit) : Ty × Unit := (if 0 ≤ n ∧ n < l.length then ownTy (l.getD n.toNat default) else tvar n, u)
def putTy (t : Ty) (l : List Ty) : Ty := (chTy (toPut l) t ()).1
def placeI (n : Int) : List Int → Nat → Option Nat
 | [], _ => none
 | m :: l, i => if n = m then some i else placeI n l (i + 1)
def toCanon (n : Int) (old : List Int) : Ty × List Int :=
 match placeI n old 0 with
 | some i => (tvar i, old)
 | none => (tvar old.length, old ++ [n])
def givenB (nm : Str) : Int × Int × Bool :=
 bif decide (nm = [105, 110, 116]) || decide (nm = [98, 111, 111, 108]) || decide (nm = [117, 110, 105, 116]) || decide (nm = [101, 120, 110]) then (0, 0, true) else
 bif decide (nm = [114, 101, 102]) then (1, 1, true) else bif decide (nm = [45, 62]) then (2, 2, true) else bif decide (nm = [42]) then (2, 8, true) else (0, 8, false)
def goodC (k n : Int) (nm : Str) (len : Int) (low : Bool) : Bool :=
 bif decide (k = 1) then decide (n ≥ 0) && decide (nm = []) && decide (len = 0)
 else bif decide (k = 2) then decide (n = 0) && decide (len ≥ (givenB nm).1) && decide (len ≤ (givenB nm).2.1) && ((givenB nm).2.2 || low)
 else false
def goodB (t : Ty) : Bool := goodC t.kind t.n t.name t.args.length (lowB t.name)
mutual
def allTy (p : Ty → Bool) : Ty → Bool
 | .mk k n s l b => p (.mk k n s l b) && allTys p l
def allTys (p : Ty → Bool) : List Ty → Bool
 | [] => true
 | t :: l => allTy p t && allTys p l
end
mutual
theorem Q8p : ∀ t : Ty, (ownTy t).size = t.size
 | .mk k n s l b => by simp only [ownTy, Ty.size, Q73 l]
theorem Q73 : ∀ l : List Ty, Ty.sizes (ownTys l) = Ty.sizes l
 | [] => rfl
 | t :: l => by simp only [ownTys, Ty.sizes, Q8p t, Q73 l]
end
theorem Q4W : ∀ l : List Ty, ownTys l = l.map ownTy
 | [] => rfl
 | t :: l => by rw [ownTys, Q4W l]; rfl
theorem Q5X (a : Int) : ∀ {l : List Ty} {t : Ty}, t ∈ l → ∀ n ∈ nodesTy a t, n ∈ nodesTys a l
 | x :: l, t, h, n, hn => by
   simp only [nodesTys, List.mem_append]
   rcases List.mem_cons.1 h with rfl | h
   ·exact .inl hn
   ·exact .inr (Q5X a h n hn)
def NamesTy (t : Ty) : Prop := ∀ n ∈ nodesTy 0 t, n.ok
theorem NamesTy.name {k n : Int} {s : Str} {l : List Ty} {b : Bool} (h : NamesTy (.mk k n s l b)) : s.length < 2^40 := h (.ty (.mk k n s l b) 0) (by simp only [nodesTy]; exact List.mem_cons_self)
theorem NamesTy.arg {k n : Int} {s : Str} {l : List Ty} {b : Bool} (h : NamesTy (.mk k n s l b)) {t : Ty} (ht : t ∈ l) : NamesTy t := fun nd hn => h nd (by simp only [nodesTy]; exact List.mem_cons_of_mem _ (Q5X 0 ht nd hn))
mutual
def WideTy : Ty → Prop
 | .mk _ _ _ l _ => l.length < 2^28 ∧ WideTys l
def WideTys : List Ty → Prop
 | [] => True
 | t :: l => WideTy t ∧ WideTys l
end
theorem WideTys.iff : ∀ {l : List Ty}, WideTys l ↔ ∀ t ∈ l, WideTy t
 | [] => by simp [WideTys]
 | t :: l => by simp only [WideTys, WideTys.iff (l := l), List.mem_cons, forall_eq_or_imp]
theorem WideTy.len {k n : Int} {s : Str} {l : List Ty} {b : Bool} (h : WideTy (.mk k n s l b)) : l.length < 2^28 := by simp only [WideTy] at h; exact h.1
theorem WideTy.arg {k n : Int} {s : Str} {l : List Ty} {b : Bool} (h : WideTy (.mk k n s l b)) {t : Ty} (ht : t ∈ l) : WideTy t := by simp only [WideTy] at h; exact WideTys.iff.1 h.2 t ht
theorem Q36 {k n : Int} {s : Str} {l : List Ty} {b : Bool} (h : l.length < 2^28) (g : ∀ t ∈ l, WideTy t) : WideTy (.mk k n s l b) := by simp only [WideTy]; exact ⟨h, WideTys.iff.2 g⟩
mutual
theorem Q1Y : ∀ (t : Ty), t.size < 2^28 → WideTy t
 | .mk k n s l b, h => by
   simp only [Ty.size] at h
   have := Ty.len_sizes l
   simp only [WideTy]
   exact ⟨by omega, Q5l l (by omega)⟩
theorem Q5l : ∀ (l : List Ty), Ty.sizes l < 2^28 → WideTys l
 | [], _ => trivial
 | t :: l, h => by
   simp only [Ty.sizes] at h
   exact ⟨Q1Y t (by omega), Q5l l (by omega)⟩
end
mutual
theorem Q3A : ∀ (t : Ty), WideTy t → WideTy (ownTy t)
 | .mk k n s l b, h => by
   simp only [ownTy, WideTy] at h ⊢
   exact ⟨by rw [Q4W, List.length_map]; exact h.1, Qai l h.2⟩
theorem Qai : ∀ (l : List Ty), WideTys l → WideTys (ownTys l)
 | [], _ => trivial
 | t :: l, h => ⟨Q3A t h.1, Qai l h.2⟩
end
theorem Q9w {σ : Type} (to : Int → σ → Ty × σ) : ∀ (l : List Ty) (st : σ), (chTys to l st).1.length = l.length
 | [], _ => rfl
 | t :: l, st => by simp only [chTys, List.length_cons, Q9w to l]
section
variable {σ : Type} (to : Int → σ → Ty × σ)
mutual
theorem QcR (h : ∀ n st, WideTy (to n st).1) : ∀ (t : Ty) (st : σ), WideTy t → WideTy (chTy to t st).1
 | .mk k n s l b, st, g => by
   simp only [chTy]
   cases decide (k = 1) with
   | true => exact h n st
   | false =>
     simp only [cond_false, WideTy] at g ⊢
     exact ⟨by rw [Q9w]; exact g.1, QbO h l st g.2⟩
theorem QbO (h : ∀ n st, WideTy (to n st).1) : ∀ (l : List Ty) (st : σ), WideTys l → WideTys (chTys to l st).1
 | [], _, _ => trivial
 | t :: l, st, g => ⟨QcR h t st g.1, QbO h l _ g.2⟩
end
end
theorem Qah (n : Int) : WideTy (tvar n) := by simp only [tvar, WideTy, WideTys]; decide
theorem Qdx (l : List Ty) (g : ∀ t ∈ l, WideTy t) (n : Int) (u : Unit) : WideTy (toPut l n u).1 := by
 simp only [toPut]
 split
 ·rename_i hn
  have hm : n.toNat < l.length := by omega
  rw [List.getD_eq_getElem?_getD, List.getElem?_eq_getElem hm, Option.getD_some]
  exact Q3A _ (g _ (List.getElem_mem hm))
 ·exact Qah n
theorem QfT (t : Ty) (l : List Ty) (h : WideTy t) (g : ∀ t ∈ l, WideTy t) : WideTy (putTy t l) := QcR (toPut l) (Qdx l g) t () h
mutual
def preTy : Ty → List Ty
 | .mk k n s l b => .mk k n s l b :: preTys l
def preTys : List Ty → List Ty
 | [] => []
 | t :: l => preTy t ++ preTys l
end
mutual
theorem Q0A (a : Int) : ∀ t : Ty, nodesTy a t = (preTy t).map fun u => TNode.ty u a
 | .mk k n s l b => by simp only [nodesTy, preTy, List.map_cons, Q5Y a l]
theorem Q5Y (a : Int) : ∀ l : List Ty, nodesTys a l = (preTys l).map fun u => TNode.ty u a
 | [] => rfl
 | t :: l => by simp only [nodesTys, preTys, List.map_append, Q0A a t, Q5Y a l]
end
mutual
theorem Q3T : ∀ t : Ty, (preTy t).length = t.size
 | .mk k n s l b => by simp only [preTy, Ty.size, List.length_cons, Q8t l]
theorem Q8t : ∀ l : List Ty, (preTys l).length = Ty.sizes l
 | [] => rfl
 | t :: l => by simp only [preTys, Ty.sizes, List.length_append, Q3T t, Q8t l]
end
mutual
theorem Q5x (p : Ty → Bool) : ∀ t : Ty, allTy p t = (preTy t).all p
 | .mk k n s l b => by simp only [allTy, preTy, List.all_cons, Q7N p l]
theorem Q7N (p : Ty → Bool) : ∀ l : List Ty, allTys p l = (preTys l).all p
 | [] => rfl
 | t :: l => by simp only [allTys, preTys, List.all_append, Q5x p t, Q7N p l]
end
theorem NamesTy.pre {t : Ty} (h : NamesTy t) : ∀ u ∈ preTy t, u.name.length < 2^40 := fun u hu => by
 have := h (.ty u 0) (by rw [Q0A]; exact List.mem_map.2 ⟨u, hu, rfl⟩)
 exact this
def placeR (n : Int) (l : List Int) : Int := match placeI n l 0 with | some i => i | none => -1
def varsL : List Ty → List Int → List Int
 | [], acc => acc
 | u :: r, acc => varsL r (bif decide (u.kind = 1) && decide (placeR u.n acc < 0) then acc ++ [u.n] else acc)
def varsTyR (t : Ty) : List Int := varsL (preTy t) []
mutual
def putR (l : List Ty) : Ty → Ty
 | .mk k n s a b => bif decide (k = 1) then (if 0 ≤ n ∧ n < l.length then ownTy (l.getD n.toNat default) else ownTy (.mk k n s a b)) else .mk k n s (putRs l a) true
def putRs (l : List Ty) : List Ty → List Ty
 | [] => []
 | t :: r => putR l t :: putRs l r
end
mutual
def renR (v : List Int) : Ty → Ty
 | .mk k n s a _ => bif decide (k = 1) then tvar (placeR n v) else .mk k n s (renRs v a) true
def renRs (v : List Int) : List Ty → List Ty
 | [] => []
 | t :: r => renR v t :: renRs v r
end
end Go.Am