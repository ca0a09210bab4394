/- What the tree layer's small tests come to (plain). -/
import Derived.Test.YtemfpnlpnmglfaaT1
set_option linter.unusedVariables false
set_option linter.unusedSimpArgs false
namespace Go.Am
open Go

def smallB (n : Int) : Bool := decide (n ≥ 97) && decide (n ≤ 122) || decide (n = 95)
def greatB (n : Int) : Bool := decide (n ≥ 65) && decide (n ≤ 90)
def unrestB (n : Int) : Bool := !smallB n && !greatB n && (decide (n < 48) || decide (n > 57)) && !decide (n = 39)
def restAll (l : Str) : Bool := l.all fun c => !unrestB c.toNat
def runB (l : Str) : Bool := restAll (l.drop 1) && decide (l.length ≤ 32)
def headB (l : Str) : Int := ((l.headD 0).toNat : Int)
def wordsS : Str := [32, 97, 110, 100, 32, 97, 110, 100, 97, 108, 115, 111, 32, 97, 115, 32, 99, 97, 115, 101, 32, 100, 97, 116, 97, 116, 121, 112, 101, 32, 100, 105, 118, 32, 101, 108, 115, 101, 32, 101, 110, 100, 32, 101, 120, 99, 101, 112, 116, 105, 111, 110, 32, 102, 110, 32, 102, 117, 110, 32, 104, 97, 110, 100, 108, 101, 32, 105, 102, 32, 105, 110, 32, 108, 101, 116, 32, 109, 111, 100, 32, 111, 102, 32, 111, 114, 101, 108, 115, 101, 32, 112, 114, 105, 110, 116, 32, 114, 97, 105, 115, 101, 32, 114, 101, 97, 100, 32, 114, 101, 102, 32, 116, 104, 101, 110, 32, 118, 97, 108, 32, 116, 114, 117, 101, 32, 102, 97, 108, 115, 101, 32, 95, 32]
def lowB (l : Str) : Bool := !decide (l = []) && smallB (headB l) && runB l && !Go.Lib.contains wordsS (32 :: (l ++ [32]))
def capB (l : Str) : Bool := !decide (l = []) && greatB (headB l) && runB l
def conB (l : Str) : Bool := capB l || decide (l = [116, 114, 117, 101]) || decide (l = [102, 97, 108, 115, 101]) || decide (l = [40, 41])
def isIntB (n : Int) : Bool := decide (n ≥ -1073741824) && decide (n ≤ 1073741823)

/-! ### the document's way -/

def letterR (n : Int) (cap : Bool) : Bool := bif cap then decide (n ≥ 65) && decide (n ≤ 90) else decide (n ≥ 97) && decide (n ≤ 122) || decide (n = 95)
def restR (n : Int) : Bool := decide (n ≥ 97) && decide (n ≤ 122) || decide (n ≥ 65) && decide (n ≤ 90) || decide (n ≥ 48) && decide (n ≤ 57) || decide (n = 95) || decide (n = 39)
def shapedR (l : Str) (cap : Bool) : Bool := !(decide ((l.length : Int) < 1) || decide ((l.length : Int) > 32) || !letterR (headB l) cap) && (l.drop 1).all fun c => restR c.toNat
def wordsR : List Str := [[97, 110, 100], [97, 110, 100, 97, 108, 115, 111], [97, 115], [99, 97, 115, 101], [100, 97, 116, 97, 116, 121, 112, 101], [100, 105, 118], [101, 108, 115, 101], [101, 110, 100], [101, 120, 99, 101, 112, 116, 105, 111, 110], [102, 110], [102, 117, 110], [104, 97, 110, 100, 108, 101], [105, 102], [105, 110], [108, 101, 116], [109, 111, 100], [111, 102], [111, 114, 101, 108, 115, 101], [112, 114, 105, 110, 116], [114, 97, 105, 115, 101], [114, 101, 97, 100], [114, 101, 102], [116, 104, 101, 110], [118, 97, 108]]
def amongR (x : Str) (l : List Str) : Bool := l.any fun w => decide (w = x)
def lowR (l : Str) : Bool := shapedR l false && !decide (l = [95]) && !decide (l = [116, 114, 117, 101]) && !decide (l = [102, 97, 108, 115, 101]) && !amongR l wordsR
def capR (l : Str) : Bool := shapedR l true
def conR (l : Str) : Bool := capR l || decide (l = [116, 114, 117, 101]) || decide (l = [102, 97, 108, 115, 101]) || decide (l = [40, 41])
def isR (n low high : Int) : Bool := decide (n ≥ low) && decide (n ≤ high)

/-! ### what is wrong with a node alone: the program's way -/

def tyLM (nm : Str) : Int × Int × Bool :=
  bif decide (nm = [105, 110, 116]) then (0, 0, true) else bif decide (nm = [98, 111, 111, 108]) then (0, 0, true) else bif decide (nm = [117, 110, 105, 116]) then (0, 0, true) else bif decide (nm = [101, 120, 110]) then (0, 0, true) else
  bif decide (nm = [114, 101, 102]) then (1, 1, true) else bif decide (nm = [45, 62]) then (2, 2, true) else bif decide (nm = [42]) then (2, 8, true) else bif !lowB nm then (0, 0, false) else (0, 8, true)
def wrongTyC (k n : Int) (nm : Str) (len : Int) : Int :=
  bif decide (k = 1) && (!decide (nm = []) || decide (len > 0)) || decide (k = 2) && !decide (n = 0) || !decide (k = 1) && !decide (k = 2) then 29
  else bif decide (k = 1) && decide (n < 0) then 2
  else bif decide (k = 1) then 0
  else bif !(tyLM nm).2.2 then 8
  else bif decide (len < (tyLM nm).1) || decide (len > (tyLM nm).2.1) then 19 else 0
def wrongTyB (t : Ty) : Int := wrongTyC t.kind t.n t.name t.args.length

/-- a pattern's kind: has it a name, a number; how few and many parts -/
def patLM (k : Int) : Bool × Bool × Int × Int :=
  bif decide (k = 2) then (true, false, 0, 0) else bif decide (k = 3) then (false, true, 0, 0) else bif decide (k = 4) then (true, false, 0, 1) else bif decide (k = 5) then (false, false, 2, 8) else bif decide (k = 6) then (true, false, 1, 1) else (false, false, 0, 0)
def wrongPatB (p : Pat) : Int :=
  bif decide (p.kind < 1) || decide (p.kind > 6) then 29
  else bif !(patLM p.kind).1 && !decide (p.name = []) || !(patLM p.kind).2.1 && !decide (p.n = 0) || decide ((patLM p.kind).2.2.2 = 0) && decide ((p.kids.length : Int) > 0) then 29
  else bif decide (p.kind = 4) && !conB p.name || (patLM p.kind).1 && !decide (p.kind = 4) && !lowB p.name then 8
  else bif (patLM p.kind).2.1 && !isIntB p.n then 2
  else bif decide ((p.kids.length : Int) < (patLM p.kind).2.2.1) || decide ((p.kids.length : Int) > (patLM p.kind).2.2.2) then 19 else 0

def wrongConB (c : Con) : Int :=
  bif !c.has && (!decide (c.arg.kind = 0) || !decide (c.arg.n = 0) || !decide (c.arg.name = []) || decide ((c.arg.args.length : Int) > 0)) then 29 else bif !capB c.name then 8 else 0

structure Has where
  name : Bool := false
  n : Bool := false
  cases : Bool := false
  decs : Bool := false
  least : Int := 0
  most : Int := 0
def expLM (k : Int) : Has :=
  bif decide (k = 1) then { n := true } else bif decide (k = 2) then { name := true } else bif decide (k = 3) then { name := true, most := 1 } else bif decide (k = 4) then { least := 2, most := 8 } else
  bif decide (k = 5) then { cases := true } else bif decide (k = 10) then { least := 2, most := 4611686018427387904 } else bif decide (k = 8) then { least := 3, most := 3 } else bif decide (k = 7) then { decs := true, least := 1, most := 1 } else
  bif decide (k = 9) || decide (k = 11) then { cases := true, least := 1, most := 1 } else bif decide (k = 12) || decide (k = 16) || decide (k = 17) || decide (k = 19) then { least := 1, most := 1 } else
  bif decide (k = 13) then { n := true, least := 2, most := 2 } else bif decide (k = 6) || decide (k = 14) || decide (k = 15) || decide (k = 18) then { least := 2, most := 2 } else {}
def wrongExpB (e : Exp) : Int :=
  bif decide (e.kind < 1) || decide (e.kind > 20) || !(expLM e.kind).name && !decide (e.name = []) || !(expLM e.kind).n && !decide (e.n = 0) || !(expLM e.kind).cases && decide ((e.cases.length : Int) > 0) || !(expLM e.kind).decs && decide ((e.decs.length : Int) > 0) || decide ((expLM e.kind).most = 0) && decide ((e.kids.length : Int) > 0) then 29
  else bif decide (e.kind = 2) && !lowB e.name || decide (e.kind = 3) && !conB e.name then 8
  else bif decide (e.kind = 1) && !isIntB e.n || decide (e.kind = 13) && (decide (e.n < 1) || decide (e.n > 9)) then 2
  else bif decide ((e.kids.length : Int) < (expLM e.kind).least) || decide ((e.kids.length : Int) > (expLM e.kind).most) || (expLM e.kind).cases && decide ((e.cases.length : Int) = 0) || (expLM e.kind).decs && decide ((e.decs.length : Int) = 0) then 19 else 0

def wrongDecC (k : Int) (nm : Str) (p nl nc nf : Int) (inn : Bool) : Int :=
  bif !(bif decide (k = 1) then !decide (nf > 0) && !(!decide (nm = []) || !decide (p = 0)) && !decide (nl > 0) else bif decide (k = 2) then !decide (nc > 0) && !(!decide (nm = []) || !decide (p = 0)) && !decide (nl > 0) else bif decide (k = 3) then !decide (nc > 0) && !decide (nf > 0) else bif decide (k = 4) then !decide (nc > 0) && !decide (nf > 0) && !(!decide (nm = []) || !decide (p = 0)) else false) || inn && !decide (k = 1) && !decide (k = 2) then 29
  else bif decide (k = 1) then (bif !decide (nc = 1) then 19 else 0)
  else bif decide (k = 2) then (bif !decide (nf > 0) then 19 else 0)
  else bif decide (k = 3) then (bif !lowB nm then 8 else bif !(decide (p ≥ 0) && decide (p ≤ 8) && decide (nl > 0) && decide (nl ≤ 64)) then 19 else 0)
  else bif decide (k = 4) then (bif !decide (nl = 1) then 19 else 0)
  else 0
def wrongDecB (d : Dec) (inn : Bool) : Int := wrongDecC d.kind d.name d.params d.cons.length d.case.length d.funs.length inn

/-! ### nodes -/

inductive TNode where
  | dec (inn : Bool) (d : Dec)
  | exp (e : Exp)
  | pat (p : Pat)
  | ty (t : Ty) (at_ : Int)
  | fn (f : Fun)
  | con (c : Con)

namespace TNode
def at_ : TNode → Int
  | dec _ d => d.at_
  | exp e => e.at_
  | pat p => p.at_
  | ty _ a => a
  | fn f => f.at_
  | con c => c.at_
/-- what is wrong with it alone, and its name -/
def wrong : TNode → Int × Str
  | dec inn d => (wrongDecB d inn, d.name)
  | exp e => (wrongExpB e, e.name)
  | pat p => (wrongPatB p, p.name)
  | ty t _ => (wrongTyB t, t.name)
  | fn f => (bif !lowB f.name then 8 else 0, f.name)
  | con c => (wrongConB c, c.name)
def isNode : TNode → Bool
  | fn _ | con _ => false
  | _ => true
def name : TNode → Str
  | dec _ d => d.name
  | exp e => e.name
  | pat p => p.name
  | ty t _ => t.name
  | fn f => f.name
  | con c => c.name
/-- as the program's walker tells it; 'r': what lies behind the part in memory -/
def thing (r : List AV) : TNode → AV
  | dec inn d => .agg [.cp (d.cells ++ r), .bool inn, .nilp, .nilp, .nilp, .nilp, .nilp, .int .i64 d.at_]
  | exp e => .agg [.nilp, .bool false, .nilp, .nilp, .cp (e.cells ++ r), .nilp, .nilp, .int .i64 e.at_]
  | pat p => .agg [.nilp, .bool false, .nilp, .nilp, .nilp, .cp (p.cells ++ r), .nilp, .int .i64 p.at_]
  | ty t a => .agg [.nilp, .bool false, .nilp, .nilp, .nilp, .nilp, .cp (t.cells ++ r), .int .i64 a]
  | fn f => .agg [.nilp, .bool false, .cp (f.cells ++ r), .nilp, .nilp, .nilp, .nilp, .int .i64 f.at_]
  | con c => .agg [.nilp, .bool false, .nilp, .cp (c.cells ++ r), .nilp, .nilp, .nilp, .int .i64 c.at_]
/-- as the document's list holds it -/
def cells : TNode → List AV
  | dec inn d => .int .i64 1 :: .bool inn :: .int .i64 d.at_ :: (d.cells ++ (Exp.zero.cells ++ (Pat.zero.cells ++ (Ty.zero.cells ++ (Fun.zero.cells ++ Con.zero.cells)))))
  | exp e => .int .i64 2 :: .bool false :: .int .i64 e.at_ :: (Dec.zero.cells ++ (e.cells ++ (Pat.zero.cells ++ (Ty.zero.cells ++ (Fun.zero.cells ++ Con.zero.cells)))))
  | pat p => .int .i64 3 :: .bool false :: .int .i64 p.at_ :: (Dec.zero.cells ++ (Exp.zero.cells ++ (p.cells ++ (Ty.zero.cells ++ (Fun.zero.cells ++ Con.zero.cells)))))
  | ty t a => .int .i64 4 :: .bool false :: .int .i64 a :: (Dec.zero.cells ++ (Exp.zero.cells ++ (Pat.zero.cells ++ (t.cells ++ (Fun.zero.cells ++ Con.zero.cells)))))
  | fn f => .int .i64 5 :: .bool false :: .int .i64 f.at_ :: (Dec.zero.cells ++ (Exp.zero.cells ++ (Pat.zero.cells ++ (Ty.zero.cells ++ (f.cells ++ Con.zero.cells)))))
  | con c => .int .i64 6 :: .bool false :: .int .i64 c.at_ :: (Dec.zero.cells ++ (Exp.zero.cells ++ (Pat.zero.cells ++ (Ty.zero.cells ++ (Fun.zero.cells ++ c.cells)))))
abbrev enc (n : TNode) : AV := .agg n.cells
@[go_sem] theorem cells_len (n : TNode) : n.cells.length = 47 := by
  cases n <;> simp [go_sem, cells, Con.cells, Con.zero, Fun.zero, Case.zero, Exp.zero, Pat.zero, Ty.zero, Dec.zero]
def what : TNode → Int
  | dec _ _ => 1 | exp _ => 2 | pat _ => 3 | ty _ _ => 4 | fn _ => 5 | con _ => 6
def inn : TNode → Bool
  | dec i _ => i
  | _ => false
theorem cells_3 (n : TNode) : n.cells = .int .i64 n.what :: .bool n.inn :: .int .i64 n.at_ :: n.cells.drop 3 := by cases n <;> rfl
theorem what_isNode (n : TNode) : decide (n.what ≤ 4) = n.isNode := by cases n <;> rfl
/-- numbers within their bounds -/
def ok : TNode → Prop
  | dec _ d => d.name.length < 2^40
  | exp e => e.name.length < 2^40 ∧ e.kids.length < 2^40 ∧ -9223372036854775808 ≤ e.n ∧ e.n ≤ 9223372036854775807
  | pat p => p.name.length < 2^40 ∧ -9223372036854775808 ≤ p.n ∧ p.n ≤ 9223372036854775807
  | ty t _ => t.name.length < 2^40
  | fn f => f.name.length < 2^40
  | con c => c.name.length < 2^40
end TNode

/-- what is wrong: which error, where, the name -/
structure TBad where
  kind : Int
  at_ : Int
  name : Str
  deriving DecidableEq
def TBad.cells (b : TBad) : List AV := [.int .i64 b.kind, .int .i64 b.at_, .str b.name]
abbrev TBad.enc (b : TBad) : AV := .agg b.cells
def TBad.zero : TBad := ⟨0, 0, []⟩
def mkBad (e at_ : Int) (nm : Str) : TBad := bif decide (e = 0) then .zero else ⟨e, at_, bif !decide (e = 8) then [] else nm⟩
def TNode.bad (n : TNode) : TBad := mkBad n.wrong.1 n.at_ n.wrong.2

/-! ### the nodes of a tree, in order -/

mutual
def nodesTy (a : Int) : Ty → List TNode
  | .mk k n s l b => .ty (.mk k n s l b) a :: nodesTys a l
def nodesTys (a : Int) : List Ty → List TNode
  | [] => []
  | t :: l => nodesTy a t ++ nodesTys a l
end
mutual
def nodesPat : Pat → List TNode
  | .mk k a s n l b => .pat (.mk k a s n l b) :: nodesPats l
def nodesPats : List Pat → List TNode
  | [] => []
  | t :: l => nodesPat t ++ nodesPats l
end
def nodesCon (c : Con) : List TNode := .con c :: (bif c.has then nodesTy c.at_ c.arg else [])
def nodesCons : List Con → List TNode
  | [] => []
  | c :: l => nodesCon c ++ nodesCons l
mutual
def nodesExp : Exp → List TNode
  | .mk k a s n l lb c cb d db => .exp (.mk k a s n l lb c cb d db) :: (nodesDecs true d ++ (nodesExps l ++ nodesCases c))
def nodesExps : List Exp → List TNode
  | [] => []
  | t :: l => nodesExp t ++ nodesExps l
def nodesCase : Case → List TNode
  | .mk p e => nodesPat p ++ nodesExp e
def nodesCases : List Case → List TNode
  | [] => []
  | t :: l => nodesCase t ++ nodesCases l
def nodesDec (inn : Bool) : Dec → List TNode
  | .mk k a s p l lb c cb f fb => .dec inn (.mk k a s p l lb c cb f fb) :: (nodesCases c ++ (nodesFuns f ++ nodesCons l))
def nodesDecs (inn : Bool) : List Dec → List TNode
  | [] => []
  | t :: l => nodesDec inn t ++ nodesDecs inn l
def nodesFun : Fun → List TNode
  | .mk s a c => .fn (.mk s a c) :: nodesCase c
def nodesFuns : List Fun → List TNode
  | [] => []
  | t :: l => nodesFun t ++ nodesFuns l
end

mutual
theorem nodesTy_len (a : Int) : ∀ t : Ty, (nodesTy a t).length = t.size
  | .mk k n s l b => by have := nodesTys_len a l; simp only [nodesTy, Ty.size, List.length_cons]; omega
theorem nodesTys_len (a : Int) : ∀ l : List Ty, (nodesTys a l).length = Ty.sizes l
  | [] => rfl
  | t :: l => by have h1 := nodesTy_len a t; have h2 := nodesTys_len a l; simp only [nodesTys, Ty.sizes, List.length_append]; omega
end
mutual
theorem nodesPat_len : ∀ t : Pat, (nodesPat t).length = t.size
  | .mk k a s n l b => by have := nodesPats_len l; simp only [nodesPat, Pat.size, List.length_cons]; omega
theorem nodesPats_len : ∀ l : List Pat, (nodesPats l).length = Pat.sizes l
  | [] => rfl
  | t :: l => by have h1 := nodesPat_len t; have h2 := nodesPats_len l; simp only [nodesPats, Pat.sizes, List.length_append]; omega
end
theorem nodesCon_len (c : Con) : (nodesCon c).length ≤ c.size := by
  have := nodesTy_len c.at_ c.arg
  unfold nodesCon Con.size
  cases c.has <;> simp only [cond_true, cond_false, List.length_cons, List.length_nil] <;> omega
theorem nodesCons_len : ∀ l : List Con, (nodesCons l).length ≤ Con.sizes l
  | [] => Nat.le_refl _
  | t :: l => by have h1 := nodesCon_len t; have h2 := nodesCons_len l; simp only [nodesCons, Con.sizes, List.length_append]; omega
mutual
theorem nodesExp_len : ∀ t : Exp, (nodesExp t).length ≤ t.size
  | .mk k a s n l lb c cb d db => by
    have h1 := nodesDecs_len true d; have h2 := nodesExps_len l; have h3 := nodesCases_len c
    simp only [nodesExp, Exp.size, List.length_cons, List.length_append]; omega
theorem nodesExps_len : ∀ l : List Exp, (nodesExps l).length ≤ Exp.sizes l
  | [] => by simp only [nodesExps, Exp.sizes]; exact Nat.le_refl _
  | t :: l => by have h1 := nodesExp_len t; have h2 := nodesExps_len l; simp only [nodesExps, Exp.sizes, List.length_append]; omega
theorem nodesCase_len : ∀ t : Case, (nodesCase t).length ≤ t.size
  | .mk p e => by have h1 := nodesPat_len p; have h2 := nodesExp_len e; simp only [nodesCase, Case.size, List.length_append]; omega
theorem nodesCases_len : ∀ l : List Case, (nodesCases l).length ≤ Case.sizes l
  | [] => by simp only [nodesCases, Case.sizes]; exact Nat.le_refl _
  | t :: l => by have h1 := nodesCase_len t; have h2 := nodesCases_len l; simp only [nodesCases, Case.sizes, List.length_append]; omega
theorem nodesDec_len (inn : Bool) : ∀ t : Dec, (nodesDec inn t).length ≤ t.size
  | .mk k a s p l lb c cb f fb => by
    have h1 := nodesCases_len c; have h2 := nodesFuns_len f; have h3 := nodesCons_len l
    simp only [nodesDec, Dec.size, List.length_cons, List.length_append]; omega
theorem nodesDecs_len (inn : Bool) : ∀ l : List Dec, (nodesDecs inn l).length ≤ Dec.sizes l
  | [] => by simp only [nodesDecs, Dec.sizes]; exact Nat.le_refl _
  | t :: l => by have h1 := nodesDec_len inn t; have h2 := nodesDecs_len inn l; simp only [nodesDecs, Dec.sizes, List.length_append]; omega
theorem nodesFun_len : ∀ t : Fun, (nodesFun t).length ≤ t.size
  | .mk s a c => by have h1 := nodesCase_len c; simp only [nodesFun, Fun.size, List.length_cons]; omega
theorem nodesFuns_len : ∀ l : List Fun, (nodesFuns l).length ≤ Fun.sizes l
  | [] => by simp only [nodesFuns, Fun.sizes]; exact Nat.le_refl _
  | t :: l => by have h1 := nodesFun_len t; have h2 := nodesFuns_len l; simp only [nodesFuns, Fun.sizes, List.length_append]; omega
end

/-! ### how deep -/

theorem maxI_le (a b c : Int) : a ≤ c → b ≤ c → maxI a b ≤ c := by unfold maxI; intros; split <;> omega
theorem le_maxI (a b : Int) : a ≤ maxI a b := by unfold maxI; split <;> omega
mutual
def deepTy : Ty → Int
  | .mk _ _ _ l _ => deepTys l 0 + 1
def deepTys : List Ty → Int → Int
  | [], n => n
  | t :: l, n => deepTys l (maxI n (deepTy t))
end
mutual
def deepPat : Pat → Int
  | .mk _ _ _ _ l _ => deepPats l 0 + 1
def deepPats : List Pat → Int → Int
  | [], n => n
  | t :: l, n => deepPats l (maxI n (deepPat t))
end
def deepCons : List Con → Int → Int
  | [], n => n
  | c :: l, n => deepCons l (bif c.has then maxI n (deepTy c.arg) else n)
mutual
def deepExp : Exp → Int
  | .mk _ _ _ _ l _ c _ d _ => deepExps l (maxI (deepDecs d 0) (deepCases c 0)) + 1
def deepExps : List Exp → Int → Int
  | [], n => n
  | t :: l, n => deepExps l (maxI n (deepExp t))
def deepCases : List Case → Int → Int
  | [], n => n
  | .mk p e :: l, n => deepCases l (maxI (maxI n (deepPat p)) (deepExp e))
def deepDecs : List Dec → Int → Int
  | [], n => n
  | .mk _ _ _ _ l _ c _ f _ :: r, n => deepDecs r (maxI n (deepCons l (deepFuns f (deepCases c 0)) + 1))
def deepFuns : List Fun → Int → Int
  | [], n => n
  | .mk _ _ c :: l, n => deepFuns l (maxI n (deepCase c))
def deepCase : Case → Int
  | .mk p e => maxI (maxI 0 (deepPat p)) (deepExp e)
end

mutual
theorem deepTy_le : ∀ t : Ty, 0 ≤ deepTy t ∧ deepTy t ≤ t.size
  | .mk _ _ _ l _ => by have := deepTys_le l 0; simp only [deepTy, Ty.size] at *; omega
theorem deepTys_le : ∀ (l : List Ty) (n : Int), n ≤ deepTys l n ∧ deepTys l n ≤ max n (Ty.sizes l)
  | [], n => by simp only [deepTys, Ty.sizes]; omega
  | t :: l, n => by
    have h1 := deepTy_le t
    have h2 := deepTys_le l (maxI n (deepTy t))
    simp only [deepTys, Ty.sizes, maxI] at *
    split at h2 <;> split <;> omega
end
mutual
theorem deepPat_le : ∀ t : Pat, 0 ≤ deepPat t ∧ deepPat t ≤ t.size
  | .mk _ _ _ _ l _ => by have := deepPats_le l 0; simp only [deepPat, Pat.size] at *; omega
theorem deepPats_le : ∀ (l : List Pat) (n : Int), n ≤ deepPats l n ∧ deepPats l n ≤ max n (Pat.sizes l)
  | [], n => by simp only [deepPats, Pat.sizes]; omega
  | t :: l, n => by
    have h1 := deepPat_le t
    have h2 := deepPats_le l (maxI n (deepPat t))
    simp only [deepPats, Pat.sizes, maxI] at *
    split at h2 <;> split <;> omega
end
theorem deepCons_le : ∀ (l : List Con) (n : Int), n ≤ deepCons l n ∧ deepCons l n ≤ max n (Con.sizes l)
  | [], n => by simp only [deepCons, Con.sizes]; omega
  | c :: l, n => by
    have h1 := deepTy_le c.arg
    have h2 := deepCons_le l (bif c.has then maxI n (deepTy c.arg) else n)
    simp only [deepCons, Con.sizes, Con.size, maxI] at *
    cases hc : c.has <;> simp only [hc, cond_true, cond_false] at h2 ⊢
    · omega
    · split at h2 <;> split <;> omega
mutual
theorem deepExp_le : ∀ t : Exp, 0 ≤ deepExp t ∧ deepExp t ≤ t.size
  | .mk _ _ _ _ l _ c _ d _ => by
    have h1 := deepDecs_le d 0
    have h2 := deepCases_le c 0
    have h3 := deepExps_le l (maxI (deepDecs d 0) (deepCases c 0))
    simp only [deepExp, Exp.size, maxI] at *
    split at h3 <;> split <;> omega
theorem deepExps_le : ∀ (l : List Exp) (n : Int), n ≤ deepExps l n ∧ deepExps l n ≤ max n (Exp.sizes l)
  | [], n => by simp only [deepExps, Exp.sizes]; omega
  | t :: l, n => by
    have h1 := deepExp_le t
    have h2 := deepExps_le l (maxI n (deepExp t))
    simp only [deepExps, Exp.sizes, maxI] at *
    split at h2 <;> split <;> omega
theorem deepCases_le : ∀ (l : List Case) (n : Int), n ≤ deepCases l n ∧ deepCases l n ≤ max n (Case.sizes l)
  | [], n => by simp only [deepCases, Case.sizes]; omega
  | .mk p e :: l, n => by
    have h1 := deepPat_le p
    have h3 := deepExp_le e
    have h2 := deepCases_le l (maxI (maxI n (deepPat p)) (deepExp e))
    have h4 := le_maxI n (deepPat p)
    have h5 := le_maxI (maxI n (deepPat p)) (deepExp e)
    have h6 := maxI_le n (deepPat p) (max n (p.size + e.size)) (by omega) (by omega)
    have h7 := maxI_le (maxI n (deepPat p)) (deepExp e) (max n (p.size + e.size)) (by omega) (by omega)
    simp only [deepCases, Case.sizes, Case.size] at *
    omega
theorem deepDecs_le : ∀ (l : List Dec) (n : Int), n ≤ deepDecs l n ∧ deepDecs l n ≤ max n (Dec.sizes l)
  | [], n => by simp only [deepDecs, Dec.sizes]; omega
  | .mk _ _ _ _ l _ c _ f _ :: r, n => by
    have h1 := deepCases_le c 0
    have h2 := deepFuns_le f (deepCases c 0)
    have h3 := deepCons_le l (deepFuns f (deepCases c 0))
    have h4 := deepDecs_le r (maxI n (deepCons l (deepFuns f (deepCases c 0)) + 1))
    have h5 := le_maxI n (deepCons l (deepFuns f (deepCases c 0)) + 1)
    have h6 := maxI_le n (deepCons l (deepFuns f (deepCases c 0)) + 1) (max n (Con.sizes l + Case.sizes c + Fun.sizes f + 1)) (by omega) (by omega)
    simp only [deepDecs, Dec.sizes, Dec.size] at *
    omega
theorem deepFuns_le : ∀ (l : List Fun) (n : Int), n ≤ deepFuns l n ∧ deepFuns l n ≤ max n (Fun.sizes l)
  | [], n => by simp only [deepFuns, Fun.sizes]; omega
  | .mk _ _ c :: l, n => by
    have h1 := deepCase_le c
    have h2 := deepFuns_le l (maxI n (deepCase c))
    simp only [deepFuns, Fun.sizes, Fun.size, maxI] at *
    split at h2 <;> split <;> omega
theorem deepCase_le : ∀ (c : Case), 0 ≤ deepCase c ∧ deepCase c ≤ c.size
  | .mk p e => by
    have h1 := deepPat_le p
    have h2 := deepExp_le e
    have h3 := le_maxI 0 (deepPat p)
    have h4 := le_maxI (maxI 0 (deepPat p)) (deepExp e)
    have h6 := maxI_le 0 (deepPat p) (p.size + e.size) (by omega) (by omega)
    have h7 := maxI_le (maxI 0 (deepPat p)) (deepExp e) (p.size + e.size) (by omega) (by omega)
    simp only [deepCase, Case.size]
    omega
end

theorem maxI_eq (a b : Int) : maxI a b = max a b := by unfold maxI; split <;> omega
theorem deepExps_acc : ∀ (l : List Exp) (n m : Int), deepExps l (max n m) = max n (deepExps l m)
  | [], n, m => by simp only [deepExps]
  | t :: l, n, m => by
    simp only [deepExps, maxI_eq]
    rw [← deepExps_acc l n]
    congr 1
    omega
theorem deepCases_acc : ∀ (l : List Case) (n m : Int), deepCases l (max n m) = max n (deepCases l m)
  | [], n, m => by simp only [deepCases]
  | .mk p e :: l, n, m => by
    simp only [deepCases, maxI_eq]
    rw [← deepCases_acc l n]
    congr 1
    omega
theorem deepExp_alt (l : List Exp) (c : List Case) (d : List Dec) : deepCases c (deepExps l (deepDecs d 0)) = deepExps l (maxI (deepDecs d 0) (deepCases c 0)) := by
  have h1 := deepDecs_le d 0
  have h2 := deepExps_le l (deepDecs d 0)
  rw [maxI_eq, show deepExps l (deepDecs d 0) = max (deepExps l (deepDecs d 0)) 0 by omega, deepCases_acc]
  rw [Int.max_comm (deepDecs d 0), deepExps_acc]
  omega
theorem deepCase_alt (c : Case) (n : Int) (h : 0 ≤ n) : maxI (maxI n (deepPat c.pat)) (deepExp c.exp) = maxI n (deepCase c) := by
  obtain ⟨p, e⟩ := c
  simp only [Case.pat, Case.exp, deepCase, maxI_eq]
  omega

/-! ### what is wrong first -/

def countN (l : List TNode) : Nat := (l.filter TNode.isNode).length
def firstBad : List TNode → TBad
  | [] => .zero
  | n :: l => bif decide (n.bad.kind = 0) then firstBad l else n.bad
def rightN (l : List TNode) (deep : Int) : TBad :=
  bif decide (countN l > 8192) then ⟨4, 0, []⟩ else bif decide (deep > 100) then ⟨7, 0, []⟩ else firstBad l

end Go.Am
