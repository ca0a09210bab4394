/- A part of the proof: PTree, RDec, RBase0, RBase2, RLaidA, SQuiet, SBld, SBld2, SBld3. -/
import Derived.Test.YtgfhplcmcdimiaaGreatDoorM2
import Derived.Test.YtgfhplcmcdimiaaGreatDoorM3
import Derived.Test.YtgfhplcmcdimiaaGreatDoorM4
import Derived.Test.YtgfhplcmcdimiaaGreatDoorM5
import Derived.Test.YtgfhplcmcdimiaaGreatDoorM6
import Derived.Test.YtgfhplcmcdimiaaGreatDoorM7
import Derived.Test.YtgfhplcmcdimiaaGreatDoorRows
import Derived.Test.YtgfhplcmcdimiaaGreatDoorShelf
import Derived.ChangeSame
import Derived.ReadAgain
import Derived.ChangeOld
import Derived.Deep.DeepHandedRow
import Derived.WalkKit
import Derived.ProofKit
import Derived.OpenShut
import Derived.MakeChecks
import Derived.LaidMore
import Derived.LaidSub
import Derived.Lib.UnsafeStr
import Derived.Test.YtgfhplcmcdimiaaGreatDoorProg
import Derived.Lib.AppendZeros
import Derived.Lib.Builder
import Derived.Lib.Walk
import Derived.Lib.MakeNoZero
import Derived.Shelf.RegionOpenPlain
import Derived.Laws.Externs
import Derived.KernelRfl
set_option linter.unusedVariables false
set_option linter.unusedSimpArgs false
open Bool renaming and_eq_true→Yf
open List renaming length_cons→Ya,length_append→Yb,mem_cons_of_mem→Yc,length_nil→Ye,map_cons→Yh,mem_append_right→Yp,mem_append_left→Yq,mem_cons→Yw,mem_append→Yy
open Nat renaming le_refl→Yg,eq_of_beq_eq_true→Yn
namespace Go.Am
open Go
def smallB(n:Int):Bool:=decide (n≥97)&&decide (n<=122) || decide (n=95)
def greatB(n:Int):Bool:=decide (n≥65)&&decide (n<=90)
def unrestB(n:Int):Bool:=!smallB n && !greatB n&&(decide (n<48) || decide (n>57)) && !decide (n=39)
def restAll(l:Str):Bool:=l.all λc=>!unrestB c.toNat
def runB(l:Str):Bool:=restAll (l.drop 1)&&decide (l.length<=32)
def headB(l:Str):Int:=((l.headD 0).toNat:Int)
def wordsS:Str:=[32,97,110,100,32,97,110,100,97,108,115,111,32,97,115,32,99,97,115,101,32,100,97,116,97,116,121,112,101,32,100,105,118,32,101,108,115,101,32,101,110,100,32,101,120,99,101,112,116,105,111,110,32,102,110,32,102,117,110,32,104,97,110,100,108,101,32,105,102,32,105,110,32,108,101,116,32,109,111,100,32,111,102,32,111,114,101,108,115,101,32,112,114,105,110,116,32,114,97,105,115,101,32,114,101,97,100,32,114,101,102,32,116,104,101,110,32,118,97,108,32,116,114,117,101,32,102,97,108,115,101,32,95,32]
def lowB(l:Str):Bool:=!decide (l=[])&&smallB (headB l)&&runB l && !Go.Lib.contains wordsS (32::(l++[32]))
def capB(l:Str):Bool:=!decide (l=[])&&greatB (headB l)&&runB l
def conB(l:Str):Bool:=capB l || decide (l=[116,114,117,101]) || decide (l=[102,97,108,115,101]) || decide (l=[40,41])
def isIntB(n:Int):Bool:=decide (n≥-1073741824)&&decide (n<=1073741823)
def letterR(n:Int)(cap:Bool):Bool:=bif cap then decide (n≥65)&&decide (n<=90) else decide (n≥97)&&decide (n<=122) || decide (n=95)
def restR(n:Int):Bool:=decide (n≥97)&&decide (n<=122) || decide (n≥65)&&decide (n<=90) || decide (n≥48)&&decide (n<=57) || decide (n=95) || decide (n=39)
def shapedR(l:Str)(cap:Bool):Bool:=!(decide ((l.length:Int)<1) || decide ((l.length:Int)>32) || !letterR (headB l) cap)&&(l.drop 1).all λc=>restR c.toNat
def wordsR:List Str:=[[97,110,100],[97,110,100,97,108,115,111],[97,115],[99,97,115,101],[100,97,116,97,116,121,112,101],[100,105,118],[101,108,115,101],[101,110,100],[101,120,99,101,112,116,105,111,110],[102,110],[102,117,110],[104,97,110,100,108,101],[105,102],[105,110],[108,101,116],[109,111,100],[111,102],[111,114,101,108,115,101],[112,114,105,110,116],[114,97,105,115,101],[114,101,97,100],[114,101,102],[116,104,101,110],[118,97,108]]
def amongR(x:Str)(l:List Str):Bool:=l.any λw=>decide (w=x)
def lowR(l:Str):Bool:=shapedR l false && !decide (l=[95]) && !decide (l=[116,114,117,101]) && !decide (l=[102,97,108,115,101]) && !amongR l wordsR
def capR(l:Str):Bool:=shapedR l true
def conR(l:Str):Bool:=capR l || decide (l=[116,114,117,101]) || decide (l=[102,97,108,115,101]) || decide (l=[40,41])
def isR(n low high:Int):Bool:=decide (n≥low)&&decide (n<=high)
def tyLM(nm:Str):Int × Int × Bool:=
 bif decide (nm=[105,110,116]) then (0,0,true) else bif decide (nm=[98,111,111,108]) then (0,0,true) else bif decide (nm=[117,110,105,116]) then (0,0,true) else bif decide (nm=[101,120,110]) then (0,0,true) else
 bif decide (nm=[114,101,102]) then (1,1,true) else bif decide (nm=[45,62]) then (2,2,true) else bif decide (nm=[42]) then (2,8,true) else bif !lowB nm then (0,0,false) else (0,8,true)
def wrongTyC(k n:Int)(nm:Str)(len:Int):Int:=
 bif decide (k=1)&&(!decide (nm=[]) || decide (len>0)) || decide (k=2) && !decide (n=0) || !decide (k=1) && !decide (k=2) then 29
 else bif decide (k=1)&&decide (n<0) then 2
 else bif decide (k=1) then 0
 else bif !(tyLM nm).2.2 then 8
 else bif decide (len<(tyLM nm).1) || decide (len>(tyLM nm).2.1) then 19 else 0
def wrongTyB(t:Ty):Int:=wrongTyC t.kind t.n t.name t.args.length
def patLM(k:Int):Bool × Bool × Int × Int:=
 bif decide (k=2) then (true,false,0,0) else bif decide (k=3) then (false,true,0,0) else bif decide (k=4) then (true,false,0,1) else bif decide (k=5) then (false,false,2,8) else bif decide (k=6) then (true,false,1,1) else (false,false,0,0)
def wrongPatB(p:Pat):Int:=
 bif decide (p.kind<1) || decide (p.kind>6) then 29
 else bif !(patLM p.kind).1 && !decide (p.name=[]) || !(patLM p.kind).2.1 && !decide (p.n=0) || decide ((patLM p.kind).2.2.2=0)&&decide ((p.kids.length:Int)>0) then 29
 else bif decide (p.kind=4) && !conB p.name || (patLM p.kind).1 && !decide (p.kind=4) && !lowB p.name then 8
 else bif (patLM p.kind).2.1 && !isIntB p.n then 2
 else bif decide ((p.kids.length:Int)<(patLM p.kind).2.2.1) || decide ((p.kids.length:Int)>(patLM p.kind).2.2.2) then 19 else 0
def wrongConB(c:Con):Int:=
 bif !c.has&&(!decide (c.arg.kind=0) || !decide (c.arg.n=0) || !decide (c.arg.name=[]) || decide ((c.arg.args.length:Int)>0)) then 29 else bif !capB c.name then 8 else 0
structure Has where
 name:Bool:=false
 n:Bool:=false
 cases:Bool:=false
 decs:Bool:=false
 least:Int:=0
 most:Int:=0
def expLM(k:Int):Has:=
 bif decide (k=1) then { n:=true } else bif decide (k=2) then { name:=true } else bif decide (k=3) then { name:=true,most:=1 } else bif decide (k=4) then { least:=2,most:=8 } else
 bif decide (k=5) then { cases:=true } else bif decide (k=10) then { least:=2,most:=4611686018427387904 } else bif decide (k=8) then { least:=3,most:=3 } else bif decide (k=7) then { decs:=true,least:=1,most:=1 } else
 bif decide (k=9) || decide (k=11) then { cases:=true,least:=1,most:=1 } else bif decide (k=12) || decide (k=16) || decide (k=17) || decide (k=19) then { least:=1,most:=1 } else
 bif decide (k=13) then { n:=true,least:=2,most:=2 } else bif decide (k=6) || decide (k=14) || decide (k=15) || decide (k=18) then { least:=2,most:=2 } else {}
def wrongExpB(e:Exp):Int:=
 bif decide (e.kind<1) || decide (e.kind>20) || !(expLM e.kind).name && !decide (e.name=[]) || !(expLM e.kind).n && !decide (e.n=0) || !(expLM e.kind).cases&&decide ((e.cases.length:Int)>0) || !(expLM e.kind).decs&&decide ((e.decs.length:Int)>0) || decide ((expLM e.kind).most=0)&&decide ((e.kids.length:Int)>0) then 29
 else bif decide (e.kind=2) && !lowB e.name || decide (e.kind=3) && !conB e.name then 8
 else bif decide (e.kind=1) && !isIntB e.n || decide (e.kind=13)&&(decide (e.n<1) || decide (e.n>9)) then 2
 else bif decide ((e.kids.length:Int)<(expLM e.kind).least) || decide ((e.kids.length:Int)>(expLM e.kind).most) || (expLM e.kind).cases&&decide ((e.cases.length:Int)=0) || (expLM e.kind).decs&&decide ((e.decs.length:Int)=0) then 19 else 0
def wrongDecC(k:Int)(nm:Str)(p nl nc nf:Int)(inn:Bool):Int:=
 bif !(bif decide (k=1) then !decide (nf>0) && !(!decide (nm=[]) || !decide (p=0)) && !decide (nl>0) else bif decide (k=2) then !decide (nc>0) && !(!decide (nm=[]) || !decide (p=0)) && !decide (nl>0) else bif decide (k=3) then !decide (nc>0) && !decide (nf>0) else bif decide (k=4) then !decide (nc>0) && !decide (nf>0) && !(!decide (nm=[]) || !decide (p=0)) else false) || inn && !decide (k=1) && !decide (k=2) then 29
 else bif decide (k=1) then (bif !decide (nc=1) then 19 else 0)
 else bif decide (k=2) then (bif !decide (nf>0) then 19 else 0)
 else bif decide (k=3) then (bif !lowB nm then 8 else bif !(decide (p≥0)&&decide (p<=8)&&decide (nl>0)&&decide (nl<=64)) then 19 else 0)
 else bif decide (k=4) then (bif !decide (nl=1) then 19 else 0)
 else 0
def wrongDecB(d:Dec)(inn:Bool):Int:=wrongDecC d.kind d.name d.params d.cons.length d.case.length d.funs.length inn
inductive TNode where
 |dec (inn:Bool) (d:Dec)
 |exp (e:Exp)
 |pat (p:Pat)
 |ty (t:Ty) (at_:Int)
 |fn (f:Fun)
 |con (c:Con)
namespace TNode
def at_:TNode->Int
 |dec _ d=>d.at_
 |exp e=>e.at_
 |pat p=>p.at_
 |ty _ a=>a
 |fn f=>f.at_
 |con c=>c.at_
def wrong:TNode->Int × Str
 |dec inn d=>(wrongDecB d inn,d.name)
 |exp e=>(wrongExpB e,e.name)
 |pat p=>(wrongPatB p,p.name)
 |ty t _=>(wrongTyB t,t.name)
 |fn f=>(bif !lowB f.name then 8 else 0,f.name)
 |con c=>(wrongConB c,c.name)
def isNode:TNode->Bool
 |fn _|con _=>false
 |_=>true
def name:TNode->Str
 |dec _ d=>d.name
 |exp e=>e.name
 |pat p=>p.name
 |ty t _=>t.name
 |fn f=>f.name
 |con c=>c.name
def thing(r:List AV):TNode->AV
 |dec inn d=>.agg [.cp (d.cells++r),.bool inn,.nilp,.nilp,.nilp,.nilp,.nilp,.int .i64 d.at_]
 |exp e=>.agg [.nilp,.bool false,.nilp,.nilp,.cp (e.cells++r),.nilp,.nilp,.int .i64 e.at_]
 |pat p=>.agg [.nilp,.bool false,.nilp,.nilp,.nilp,.cp (p.cells++r),.nilp,.int .i64 p.at_]
 |ty t a=>.agg [.nilp,.bool false,.nilp,.nilp,.nilp,.nilp,.cp (t.cells++r),.int .i64 a]
 |fn f=>.agg [.nilp,.bool false,.cp (f.cells++r),.nilp,.nilp,.nilp,.nilp,.int .i64 f.at_]
 |con c=>.agg [.nilp,.bool false,.nilp,.cp (c.cells++r),.nilp,.nilp,.nilp,.int .i64 c.at_]
def cells:TNode->List AV
 |dec inn d=>.int .i64 1 :: .bool inn :: .int .i64 d.at_::(d.cells++(Exp.zero.cells++(Pat.zero.cells++(Ty.zero.cells++(Fun.zero.cells++Con.zero.cells)))))
 |exp e=>.int .i64 2 :: .bool false :: .int .i64 e.at_::(Dec.zero.cells++(e.cells++(Pat.zero.cells++(Ty.zero.cells++(Fun.zero.cells++Con.zero.cells)))))
 |pat p=>.int .i64 3 :: .bool false :: .int .i64 p.at_::(Dec.zero.cells++(Exp.zero.cells++(p.cells++(Ty.zero.cells++(Fun.zero.cells++Con.zero.cells)))))
 |ty t a=>.int .i64 4 :: .bool false :: .int .i64 a::(Dec.zero.cells++(Exp.zero.cells++(Pat.zero.cells++(t.cells++(Fun.zero.cells++Con.zero.cells)))))
 |fn f=>.int .i64 5 :: .bool false :: .int .i64 f.at_::(Dec.zero.cells++(Exp.zero.cells++(Pat.zero.cells++(Ty.zero.cells++(f.cells++Con.zero.cells)))))
 |con c=>.int .i64 6 :: .bool false :: .int .i64 c.at_::(Dec.zero.cells++(Exp.zero.cells++(Pat.zero.cells++(Ty.zero.cells++(Fun.zero.cells++c.cells)))))
abbrev enc(n:TNode):AV:=.agg n.cells
@[go_sem] theorem cells_len(n:TNode):n.cells.length=47:=by
  cases n<;>simp[go_sem,cells,Con.cells,Con.zero,Fun.zero,Case.zero,Exp.zero,Pat.zero,Ty.zero,Dec.zero]
def what:TNode->Int
 |dec _ _=>1|exp _=>2|pat _=>3|ty _ _=>4|fn _=>5|con _=>6
def inn:TNode->Bool
 |dec i _=>i
 |_=>false
theorem cells_3(n:TNode):n.cells = .int .i64 n.what :: .bool n.inn :: .int .i64 n.at_::n.cells.drop 3:=by cases n<;>rfl
theorem what_isNode(n:TNode):decide (n.what<=4)=n.isNode:=by cases n<;>rfl
def ok:TNode->Prop
 |dec _ d=>d.name.length<2^40
 |exp e=>e.name.length<2^40/\e.kids.length<2^40/\-9223372036854775808<=e.n/\e.n<=9223372036854775807
 |pat p=>p.name.length<2^40/\-9223372036854775808<=p.n/\p.n<=9223372036854775807
 |ty t _=>t.name.length<2^40
 |fn f=>f.name.length<2^40
 |con c=>c.name.length<2^40
end TNode
structure TBad where
 kind:Int
 at_:Int
 name:Str
 deriving DecidableEq
def TBad.cells(b:TBad):List AV:=[.int .i64 b.kind,.int .i64 b.at_,.str b.name]
abbrev TBad.enc(b:TBad):AV:=.agg b.cells
def TBad.zero:TBad:=⟨0,0,[]⟩
def mkBad(e at_:Int)(nm:Str):TBad:=bif decide (e=0) then .zero else ⟨e,at_,bif !decide (e=8) then [] else nm⟩
def TNode.bad(n:TNode):TBad:=mkBad n.wrong.1 n.at_ n.wrong.2
mutual
def nodesTy(a:Int):Ty->List TNode
 |.mk k n s l b=>.ty (.mk k n s l b) a::nodesTys a l
def nodesTys(a:Int):List Ty->List TNode
 |[]=>[]
 |t::l=>nodesTy a t++nodesTys a l
end
mutual
def nodesPat:Pat->List TNode
 |.mk k a s n l b=>.pat (.mk k a s n l b)::nodesPats l
def nodesPats:List Pat->List TNode
 |[]=>[]
 |t::l=>nodesPat t++nodesPats l
end
def nodesCon(c:Con):List TNode:=.con c::(bif c.has then nodesTy c.at_ c.arg else [])
def nodesCons:List Con->List TNode
 |[]=>[]
 |c::l=>nodesCon c++nodesCons l
mutual
def nodesExp:Exp->List TNode
 |.mk k a s n l lb c cb d db=>.exp (.mk k a s n l lb c cb d db)::(nodesDecs true d++(nodesExps l++nodesCases c))
def nodesExps:List Exp->List TNode
 |[]=>[]
 |t::l=>nodesExp t++nodesExps l
def nodesCase:Case->List TNode
 |.mk p e=>nodesPat p++nodesExp e
def nodesCases:List Case->List TNode
 |[]=>[]
 |t::l=>nodesCase t++nodesCases l
def nodesDec(inn:Bool):Dec->List TNode
 |.mk k a s p l lb c cb f fb=>.dec inn (.mk k a s p l lb c cb f fb)::(nodesCases c++(nodesFuns f++nodesCons l))
def nodesDecs(inn:Bool):List Dec->List TNode
 |[]=>[]
 |t::l=>nodesDec inn t++nodesDecs inn l
def nodesFun:Fun->List TNode
 |.mk s a c=>.fn (.mk s a c)::nodesCase c
def nodesFuns:List Fun->List TNode
 |[]=>[]
 |t::l=>nodesFun t++nodesFuns l
end
mutual
theorem Q6C(a:Int):∀ t:Ty,(nodesTy a t).length=t.size
 |.mk k n s l b=>by have:=Qb3 a l;simp only[nodesTy,Ty.size,Ya];omega
theorem Qb3(a:Int):∀ l:List Ty,(nodesTys a l).length=Ty.sizes l
 |[]=>rfl
 |t::l=>by have h1:=Q6C a t;have h2:=Qb3 a l;simp only[nodesTys,Ty.sizes,Yb];omega
end
mutual
theorem Q2d:∀ t:Pat,(nodesPat t).length=t.size
 |.mk k a s n l b=>by have:=Qap l;simp only[nodesPat,Pat.size,Ya];omega
theorem Qap:∀ l:List Pat,(nodesPats l).length=Pat.sizes l
 |[]=>rfl
 |t::l=>by have h1:=Q2d t;have h2:=Qap l;simp only[nodesPats,Pat.sizes,Yb];omega
end
theorem Qii(c:Con):(nodesCon c).length<=c.size:=by
 have:=Q6C c.at_ c.arg
 unfold nodesCon Con.size
 cases c.has<;>simp only[cond_true,cond_false,Ya,Ye]<;>omega
theorem Qal:∀ l:List Con,(nodesCons l).length<=Con.sizes l
 |[]=>Yg _
 |t::l=>by have h1:=Qii t;have h2:=Qal l;simp only[nodesCons,Con.sizes,Yb];omega
mutual
theorem Q2c:∀ t:Exp,(nodesExp t).length<=t.size
 |.mk k a s n l lb c cb d db=>by
   have h1:=Qam true d;have h2:=Qan l;have h3:=Q6s c
   simp only[nodesExp,Exp.size,Ya,Yb];omega
theorem Qan:∀ l:List Exp,(nodesExps l).length<=Exp.sizes l
 |[]=>by simp only[nodesExps,Exp.sizes];exact Yg _
 |t::l=>by have h1:=Q2c t;have h2:=Qan l;simp only[nodesExps,Exp.sizes,Yb];omega
theorem Q2N:∀ t:Case,(nodesCase t).length<=t.size
 |.mk p e=>by have h1:=Q2d p;have h2:=Q2c e;simp only[nodesCase,Case.size,Yb];omega
theorem Q6s:∀ l:List Case,(nodesCases l).length<=Case.sizes l
 |[]=>by simp only[nodesCases,Case.sizes];exact Yg _
 |t::l=>by have h1:=Q2N t;have h2:=Q6s l;simp only[nodesCases,Case.sizes,Yb];omega
theorem Qb2(inn:Bool):∀ t:Dec,(nodesDec inn t).length<=t.size
 |.mk k a s p l lb c cb f fb=>by
   have h1:=Q6s c;have h2:=Qao f;have h3:=Qal l
   simp only[nodesDec,Dec.size,Ya,Yb];omega
theorem Qam(inn:Bool):∀ l:List Dec,(nodesDecs inn l).length<=Dec.sizes l
 |[]=>by simp only[nodesDecs,Dec.sizes];exact Yg _
 |t::l=>by have h1:=Qb2 inn t;have h2:=Qam inn l;simp only[nodesDecs,Dec.sizes,Yb];omega
theorem Qij:∀ t:Fun,(nodesFun t).length<=t.size
 |.mk s a c=>by have h1:=Q2N c;simp only[nodesFun,Fun.size,Ya];omega
theorem Qao:∀ l:List Fun,(nodesFuns l).length<=Fun.sizes l
 |[]=>by simp only[nodesFuns,Fun.sizes];exact Yg _
 |t::l=>by have h1:=Qij t;have h2:=Qao l;simp only[nodesFuns,Fun.sizes,Yb];omega
end
theorem QZ(a b c:Int):a<=c->b<=c->maxI a b<=c:=by unfold maxI;intros;split<;>omega
theorem QY(a b:Int):a<=maxI a b:=by unfold maxI;split<;>omega
mutual
def deepTy:Ty->Int
 |.mk _ _ _ l _=>deepTys l 0+1
def deepTys:List Ty->Int->Int
 |[],n=>n
 |t::l,n=>deepTys l (maxI n (deepTy t))
end
mutual
def deepPat:Pat->Int
 |.mk _ _ _ _ l _=>deepPats l 0+1
def deepPats:List Pat->Int->Int
 |[],n=>n
 |t::l,n=>deepPats l (maxI n (deepPat t))
end
def deepCons:List Con->Int->Int
 |[],n=>n
 |c::l,n=>deepCons l (bif c.has then maxI n (deepTy c.arg) else n)
mutual
def deepExp:Exp->Int
 |.mk _ _ _ _ l _ c _ d _=>deepExps l (maxI (deepDecs d 0) (deepCases c 0))+1
def deepExps:List Exp->Int->Int
 |[],n=>n
 |t::l,n=>deepExps l (maxI n (deepExp t))
def deepCases:List Case->Int->Int
 |[],n=>n
 |.mk p e::l,n=>deepCases l (maxI (maxI n (deepPat p)) (deepExp e))
def deepDecs:List Dec->Int->Int
 |[],n=>n
 |.mk _ _ _ _ l _ c _ f _::r,n=>deepDecs r (maxI n (deepCons l (deepFuns f (deepCases c 0))+1))
def deepFuns:List Fun->Int->Int
 |[],n=>n
 |.mk _ _ c::l,n=>deepFuns l (maxI n (deepCase c))
def deepCase:Case->Int
 |.mk p e=>maxI (maxI 0 (deepPat p)) (deepExp e)
end
mutual
theorem Q4X:∀ t:Ty,0<=deepTy t/\deepTy t<=t.size
 |.mk _ _ _ l _=>by have:=Qdv l 0;simp only[deepTy,Ty.size] at *;omega
theorem Qdv:∀ (l:List Ty) (n:Int),n<=deepTys l n/\deepTys l n<=max n (Ty.sizes l)
 |[],n=>by simp only[deepTys,Ty.sizes];omega
 |t::l,n=>by
   have h1:=Q4X t
   have h2:=Qdv l (maxI n (deepTy t))
   simp only[deepTys,Ty.sizes,maxI] at *
   split at h2<;>split<;>omega
end
mutual
theorem Q0K:∀ t:Pat,0<=deepPat t/\deepPat t<=t.size
 |.mk _ _ _ _ l _=>by have:=Qc7 l 0;simp only[deepPat,Pat.size] at *;omega
theorem Qc7:∀ (l:List Pat) (n:Int),n<=deepPats l n/\deepPats l n<=max n (Pat.sizes l)
 |[],n=>by simp only[deepPats,Pat.sizes];omega
 |t::l,n=>by
   have h1:=Q0K t
   have h2:=Qc7 l (maxI n (deepPat t))
   simp only[deepPats,Pat.sizes,maxI] at *
   split at h2<;>split<;>omega
end
theorem Q6A:∀ (l:List Con) (n:Int),n<=deepCons l n/\deepCons l n<=max n (Con.sizes l)
 |[],n=>by simp only[deepCons,Con.sizes];omega
 |c::l,n=>by
   have h1:=Q4X c.arg
   have h2:=Q6A l (bif c.has then maxI n (deepTy c.arg) else n)
   simp only[deepCons,Con.sizes,Con.size,maxI] at *
   cases hc:c.has<;>simp only[hc,cond_true,cond_false] at h2 |-
   ·omega
   ·split at h2<;>split<;>omega
mutual
theorem Q0J:∀ t:Exp,0<=deepExp t/\deepExp t<=t.size
 |.mk _ _ _ _ l _ c _ d _=>by
   have h1:=Q49 d 0
   have h2:=Q28 c 0
   have h3:=Q92 l (maxI (deepDecs d 0) (deepCases c 0))
   simp only[deepExp,Exp.size,maxI] at *
   split at h3<;>split<;>omega
theorem Q92:∀ (l:List Exp) (n:Int),n<=deepExps l n/\deepExps l n<=max n (Exp.sizes l)
 |[],n=>by simp only[deepExps,Exp.sizes];omega
 |t::l,n=>by
   have h1:=Q0J t
   have h2:=Q92 l (maxI n (deepExp t))
   simp only[deepExps,Exp.sizes,maxI] at *
   split at h2<;>split<;>omega
theorem Q28:∀ (l:List Case) (n:Int),n<=deepCases l n/\deepCases l n<=max n (Case.sizes l)
 |[],n=>by simp only[deepCases,Case.sizes];omega
 |.mk p e::l,n=>by
   have h1:=Q0K p
   have h3:=Q0J e
   have h2:=Q28 l (maxI (maxI n (deepPat p)) (deepExp e))
   have h4:=QY n (deepPat p)
   have h5:=QY (maxI n (deepPat p)) (deepExp e)
   have h6:=QZ n (deepPat p) (max n (p.size+e.size)) (by omega) (by omega)
   have h7:=QZ (maxI n (deepPat p)) (deepExp e) (max n (p.size+e.size)) (by omega) (by omega)
   simp only[deepCases,Case.sizes,Case.size] at *
   omega
theorem Q49:∀ (l:List Dec) (n:Int),n<=deepDecs l n/\deepDecs l n<=max n (Dec.sizes l)
 |[],n=>by simp only[deepDecs,Dec.sizes];omega
 |.mk _ _ _ _ l _ c _ f _::r,n=>by
   have h1:=Q28 c 0
   have h2:=Q6B f (deepCases c 0)
   have h3:=Q6A l (deepFuns f (deepCases c 0))
   have h4:=Q49 r (maxI n (deepCons l (deepFuns f (deepCases c 0))+1))
   have h5:=QY n (deepCons l (deepFuns f (deepCases c 0))+1)
   have h6:=QZ n (deepCons l (deepFuns f (deepCases c 0))+1) (max n (Con.sizes l+Case.sizes c+Fun.sizes f+1)) (by omega) (by omega)
   simp only[deepDecs,Dec.sizes,Dec.size] at *
   omega
theorem Q6B:∀ (l:List Fun) (n:Int),n<=deepFuns l n/\deepFuns l n<=max n (Fun.sizes l)
 |[],n=>by simp only[deepFuns,Fun.sizes];omega
 |.mk _ _ c::l,n=>by
   have h1:=Qc6 c
   have h2:=Q6B l (maxI n (deepCase c))
   simp only[deepFuns,Fun.sizes,Fun.size,maxI] at *
   split at h2<;>split<;>omega
theorem Qc6:∀ (c:Case),0<=deepCase c/\deepCase c<=c.size
 |.mk p e=>by
   have h1:=Q0K p
   have h2:=Q0J e
   have h3:=QY 0 (deepPat p)
   have h4:=QY (maxI 0 (deepPat p)) (deepExp e)
   have h6:=QZ 0 (deepPat p) (p.size+e.size) (by omega) (by omega)
   have h7:=QZ (maxI 0 (deepPat p)) (deepExp e) (p.size+e.size) (by omega) (by omega)
   simp only[deepCase,Case.size]
   omega
end
theorem QbI(a b:Int):maxI a b=max a b:=by unfold maxI;split<;>omega
theorem QaL:∀ (l:List Exp) (n m:Int),deepExps l (max n m)=max n (deepExps l m)
 |[],n,m=>by simp only[deepExps]
 |t::l,n,m=>by
   simp only[deepExps,QbI]
   rw[<-QaL l n]
   congr 1
   omega
theorem Qai:∀ (l:List Case) (n m:Int),deepCases l (max n m)=max n (deepCases l m)
 |[],n,m=>by simp only[deepCases]
 |.mk p e::l,n,m=>by
   simp only[deepCases,QbI]
   rw[<-Qai l n]
   congr 1
   omega
theorem Qjo(l:List Exp)(c:List Case)(d:List Dec):deepCases c (deepExps l (deepDecs d 0))=deepExps l (maxI (deepDecs d 0) (deepCases c 0)):=by
 have h1:=Q49 d 0
 have h2:=Q92 l (deepDecs d 0)
 rw[QbI,show deepExps l (deepDecs d 0)=max (deepExps l (deepDecs d 0)) 0 by omega,Qai]
 rw[Int.max_comm (deepDecs d 0),QaL]
 omega
theorem QhG(c:Case)(n:Int)(h:0<=n):maxI (maxI n (deepPat c.pat)) (deepExp c.exp)=maxI n (deepCase c):=by
 obtain⟨p,e⟩:=c
 simp only[Case.pat,Case.exp,deepCase,QbI]
 omega
def countN(l:List TNode):Nat:=(l.filter TNode.isNode).length
def firstBad:List TNode->TBad
 |[]=>.zero
 |n::l=>bif decide (n.bad.kind=0) then firstBad l else n.bad
def rightN(l:List TNode)(deep:Int):TBad:=
 bif decide (countN l>8192) then ⟨4,0,[]⟩ else bif decide (deep>100) then ⟨7,0,[]⟩ else firstBad l
end Go.Am
namespace Go.Am
open Go
section
variable {H:Type} {ti:TypeId->TI}
def Fields(ti:TypeId->TI)(n:Nat):List (Nat × TypeId)->List (DataW H)->List (List AV)->Prop
 |[],[],[]=>True
 |f::fs,d::ds,l::ls=>conv ti n f.2 d=some l/\Fields ti n fs ds ls
 |_,_,_=>False
theorem Qg1(n:Nat):∀ (fs:List (Nat × TypeId)) (ds:List (DataW H)) (ls:List (List AV)),fs.length=ds.length->((fs.zip ds).mapM λp=>conv ti n p.1.2 p.2)=some ls->Fields ti n fs ds ls
 |[],[],ls,_,h=>by simp at h;subst h;trivial
 |f::fs,d::ds,ls,hl,h=>by
   rw[List.zip_cons_cons,List.mapM_cons] at h
   cases h1:conv ti n f.2 d with
   |none=>simp[h1] at h
   |some l=>
     cases h2:((fs.zip ds).mapM λp=>conv ti n p.1.2 p.2) with
     |none=>simp[h1,h2] at h
     |some ls'=>
       simp[h1,h2] at h
       subst h
       exact⟨h1,Qg1 n fs ds ls' (by simpa using hl) h2⟩
 |[],_::_,_,hl,_=>by simp at hl
 |_::_,[],_,hl,_=>by simp at hl
theorem ZE{n:Nat}{t:TypeId}{d:DataW H}{l:List AV}{fs:List (Nat × TypeId)}(hk:(ti t).k = .struct fs)(h:conv ti (n+1) t d=some l):∃ parts ls,d = .agg parts/\Fields ti n fs parts ls/\l=ls.flatten:=by
 simp only[conv,hk] at h
 split at h<;>first|(cases h;done)|skip
 all_goals try (rename_i hx;cases hx;done)
 rename_i fs' parts hx
 cases hx
 split at h
 ·rename_i hl
  obtain⟨ls,h1,rfl⟩:=Option.map_eq_some_iff.1 h
  exact⟨parts,ls,rfl,Qg1 n _ _ _ hl h1,rfl⟩
 ·cases h
theorem Q0c{n:Nat}{t:TypeId}{d:DataW H}{l:List AV}{k:IntKind}(hk:(ti t).k = .int k)(h:conv ti n t d=some l):∃ x,d = .lit (.int k x)/\l=[.int k x]/\(Lit.int k x).wf=true:=by
 cases n with
 |zero=>simp[conv] at h
 |succ n=>
   simp only[conv,hk] at h
   split at h<;>first|(cases h;done)|skip
   all_goals try (rename_i hx;cases hx;done)
   rename_i k' j x hx
   cases hx
   split at h
   ·rename_i hc
    obtain⟨rfl,hc⟩:=hc
    cases h
    exact⟨x,rfl,rfl,hc⟩
   ·cases h
theorem QlP{n:Nat}{t:TypeId}{d:DataW H}{l:List AV}(hk:(ti t).k = .bool)(h:conv ti n t d=some l):∃ b,d = .lit (.bool b)/\l=[.bool b]:=by
 cases n with
 |zero=>simp[conv] at h
 |succ n=>
   simp only[conv,hk] at h
   split at h<;>first|(cases h;done)|skip
   all_goals try (rename_i hx;cases hx;done)
   rename_i b hx
   cases h
   exact⟨b,rfl,rfl⟩
theorem Q6j{n:Nat}{t:TypeId}{d:DataW H}{l:List AV}(hk:(ti t).k = .str)(h:conv ti n t d=some l):∃ s,d = .lit (.string s)/\l=[.str s]:=by
 cases n with
 |zero=>simp[conv] at h
 |succ n=>
   simp only[conv,hk] at h
   split at h<;>first|(cases h;done)|skip
   all_goals try (rename_i hx;cases hx;done)
   rename_i s hx
   split at h
   ·cases h
    exact⟨s,rfl,rfl⟩
   ·cases h
theorem QkM{n:Nat}{t e:TypeId}{d:DataW H}{l:List AV}(hk:(ti t).k = .slice e)(h:conv ti (n+1) t d=some l):(d = .nil/\l=[.nils])\/∃ elems spare xs,d = .slice elems spare/\(elems.mapM λd=>(conv ti n e d).bind (ofCells (ti e)))=some xs/\l=[.sl xs]:=by
 simp only[conv,hk] at h
 split at h<;>first|(cases h;done)|skip
 all_goals try (rename_i hx;cases hx;done)
 ·cases h
  exact .inl ⟨rfl,rfl⟩
 ·rename_i e' elems spare hx
  cases hx
  split at h
  ·obtain⟨xs,h1,rfl⟩:=Option.map_eq_some_iff.1 h
   exact .inr ⟨elems,spare,xs,rfl,h1,rfl⟩
  ·cases h
end
end Go.Am
namespace Go.Proofs.YtgfhplcmcdimiaaGreatDoor
open Go Go.Am
set_option maxRecDepth 4000
section
variable {H:Type}
theorem QfR{τ:Type}{cells:τ->List AV}{G:Nat->τ->Prop}{GL:Nat->List τ->Prop}{e:TypeId}{n:Nat}(ha:(C.ti e).isAgg=true)(h0:GL 0 [])(h1:∀ m k t L,G m t->GL k L->GL (m+k) (t::L))
  (he:∀ (d:DataW H) l,conv C.ti n e d=some l->Rows.uptoBulk d<2^30->∃ t,l=cells t/\G (Rows.uptoBulk d) t):∀ (ds:List (DataW H)) (xs:List AV),(ds.mapM λd=>(conv C.ti n e d).bind (ofCells (C.ti e)))=some xs->Rows.uptoBulkAll ds<2^30->∃ L,xs=L.map (λt=>.agg (cells t))/\GL (Rows.uptoBulkAll ds) L
 |[],xs,h,_=>by simp at h;subst h;exact⟨[],rfl,by simpa only[Rows.uptoBulkAll] using h0⟩
 |d::ds,xs,h,hb=>by
   simp only[Rows.uptoBulkAll] at hb |-
   rw[List.mapM_cons] at h
   cases h2:(conv C.ti n e d) with
   |none=>simp[h2] at h
   |some l=>
     obtain⟨t,rfl,ht⟩:=he d l h2 (by omega)
     cases h3:ofCells (C.ti e) (cells t) with
     |none=>simp[h2,h3] at h
     |some v=>
       cases h4:(ds.mapM λd=>(conv C.ti n e d).bind (ofCells (C.ti e))) with
       |none=>simp[h2,h3,h4] at h
       |some ys=>
         simp[h2,h3,h4] at h
         subst h
         obtain⟨L,rfl,hL⟩:=QfR ha h0 h1 he ds ys h4 (by omega)
         have:v = .agg (cells t):=by
          unfold ofCells at h3
          rw[ha,cond_true] at h3
          split at h3<;>cases h3
          rfl
         subst this
         exact⟨t::L,rfl,h1 _ _ _ _ ht hL⟩
theorem Q2y{τ:Type}{cells:τ->List AV}{G:Nat->τ->Prop}{GL:Nat->List τ->Prop}{t e:TypeId}{n:Nat}(hk:(C.ti t).k = .slice e)(ha:(C.ti e).isAgg=true)(h0:GL 0 [])(h1:∀ m k t L,G m t->GL k L->GL (m+k) (t::L))
  (he:∀ (d:DataW H) l,conv C.ti n e d=some l->Rows.uptoBulk d<2^30->∃ t,l=cells t/\G (Rows.uptoBulk d) t) (d:DataW H) (l:List AV) (h:conv C.ti (n+1) t d=some l) (hb:Rows.uptoBulk d<2^30):∃ L b k,l=[encS b (L.map λt=>.agg (cells t))]/\GL k L/\k+1<=Rows.uptoBulk d:=by
 rcases QkM hk h with ⟨rfl,rfl⟩|⟨elems,spare,xs,rfl,h2,rfl⟩
 ·exact⟨[],true,0,rfl,h0,by simp only[Rows.uptoBulk];omega⟩
 ·simp only[Rows.uptoBulk] at hb |-
  obtain⟨L,rfl,hL⟩:=QfR ha h0 h1 he elems xs h2 (by omega)
  exact⟨L,false,_,rfl,hL,by omega⟩
def GTy(b:Nat)(t:Ty):Prop:=t.size<=b/\∀ a,∀ n ∈ nodesTy a t,n.ok
def GTys(b:Nat)(l:List Ty):Prop:=Ty.sizes l<=b/\∀ a,∀ n ∈ nodesTys a l,n.ok
theorem GTys.nil:GTys 0 []:=⟨Yg _,by simp[nodesTys]⟩
theorem GTys.cons(m k:Nat)(t:Ty)(L:List Ty)(h:GTy m t)(g:GTys k L):GTys (m+k) (t::L):=by
 refine⟨by have:=h.1;have:=g.1;simp only[Ty.sizes];omega,λa n hn=>?_⟩
 simp only[nodesTys,Yy] at hn
 rcases hn with hn|hn
 ·exact h.2 a n hn
 ·exact g.2 a n hn
theorem QhE:∀ (n:Nat) (d:DataW H) l,conv C.ti n Qo d=some l->Rows.uptoBulk d<2^30->∃ t:Ty,l=t.cells/\GTy (Rows.uptoBulk d) t
 |0,d,l,h,_=>by simp[conv] at h
 |1,d,l,h,_=>by
   obtain⟨parts,ls,rfl,hf,rfl⟩:=ZE QlF h
   rcases parts with _|⟨d1,_|⟨d2,_|⟨d3,_|⟨d4,_|_⟩⟩⟩⟩<;>rcases ls with _|⟨l1,_|⟨l2,_|⟨l3,_|⟨l4,_|_⟩⟩⟩⟩<;>simp only[Fields,and_false] at hf
   simp[conv] at hf
 |n+2,d,l,h,hb=>by
   obtain⟨parts,ls,rfl,hf,rfl⟩:=ZE QlF h
   rcases parts with _|⟨d1,_|⟨d2,_|⟨d3,_|⟨d4,_|_⟩⟩⟩⟩<;>rcases ls with _|⟨l1,_|⟨l2,_|⟨l3,_|⟨l4,_|_⟩⟩⟩⟩<;>simp only[Fields,and_false] at hf
   obtain⟨c1,c2,c3,c4,-⟩:=hf
   simp only[Rows.uptoBulk,Rows.uptoBulkAll] at hb |-
   obtain⟨k,rfl,rfl,w1⟩:=Q0c QkH c1
   obtain⟨m,rfl,rfl,w2⟩:=Q0c Q35 c2
   obtain⟨s,rfl,rfl⟩:=Q6j Qk c3
   simp only[Rows.uptoBulk] at hb |-
   obtain⟨L,b,k',rfl,hL,hk⟩:=Q2y QmT QmV GTys.nil GTys.cons (λd l h hb=>QhE n d l h hb) d4 l4 c4 (by omega)
   refine⟨.mk k m s L b,by rw[Ty.cells_mk];rfl,by have:=hL.1;simp only[Ty.size];omega,λa nd hn=>?_⟩
   simp only[nodesTy,Yw] at hn
   rcases hn with rfl|hn
   ·simp only[TNode.ok,Ty.name];omega
   ·exact hL.2 a nd hn
theorem wf64{x:Int}(h:(Lit.int .i64 x).wf=true):-9223372036854775808<=x/\x<=9223372036854775807:=by
 simp only[Lit.wf,Yf,decide_eq_true_eq] at h
 exact h
def GPat(b:Nat)(t:Pat):Prop:=t.size<=b/\∀ n ∈ nodesPat t,n.ok
def GPats(b:Nat)(l:List Pat):Prop:=Pat.sizes l<=b/\∀ n ∈ nodesPats l,n.ok
theorem GPats.nil:GPats 0 []:=⟨Yg _,by simp[nodesPats]⟩
theorem GPats.cons(m k:Nat)(t:Pat)(L:List Pat)(h:GPat m t)(g:GPats k L):GPats (m+k) (t::L):=by
 refine⟨by have:=h.1;have:=g.1;simp only[Pat.sizes];omega,λn hn=>?_⟩
 simp only[nodesPats,Yy] at hn
 rcases hn with hn|hn
 ·exact h.2 n hn
 ·exact g.2 n hn
theorem QeI:∀ (n:Nat) (d:DataW H) l,conv C.ti n Ql d=some l->Rows.uptoBulk d<2^30->∃ t:Pat,l=t.cells/\GPat (Rows.uptoBulk d) t
 |0,d,l,h,_=>by simp[conv] at h
 |1,d,l,h,_=>by
   obtain⟨parts,ls,rfl,hf,rfl⟩:=ZE Qk1 h
   rcases parts with _|⟨d1,_|⟨d2,_|⟨d3,_|⟨d4,_|⟨d5,_|_⟩⟩⟩⟩⟩<;>rcases ls with _|⟨l1,_|⟨l2,_|⟨l3,_|⟨l4,_|⟨l5,_|_⟩⟩⟩⟩⟩<;>simp only[Fields,and_false] at hf
   simp[conv] at hf
 |n+2,d,l,h,hb=>by
   obtain⟨parts,ls,rfl,hf,rfl⟩:=ZE Qk1 h
   rcases parts with _|⟨d1,_|⟨d2,_|⟨d3,_|⟨d4,_|⟨d5,_|_⟩⟩⟩⟩⟩<;>rcases ls with _|⟨l1,_|⟨l2,_|⟨l3,_|⟨l4,_|⟨l5,_|_⟩⟩⟩⟩⟩<;>simp only[Fields,and_false] at hf
   obtain⟨c1,c2,c3,c4,c5,-⟩:=hf
   simp only[Rows.uptoBulk,Rows.uptoBulkAll] at hb |-
   obtain⟨k,rfl,rfl,w1⟩:=Q0c Qjf c1
   obtain⟨a,rfl,rfl,w2⟩:=Q0c Q35 c2
   obtain⟨s,rfl,rfl⟩:=Q6j Qk c3
   obtain⟨m,rfl,rfl,w4⟩:=Q0c Q35 c4
   simp only[Rows.uptoBulk] at hb |-
   obtain⟨L,b,k',rfl,hL,hk⟩:=Q2y QlD Qly GPats.nil GPats.cons (λd l h hb=>QeI n d l h hb) d5 l5 c5 (by omega)
   refine⟨.mk k a s m L b,by rw[Pat.cells_mk];rfl,by have:=hL.1;simp only[Pat.size];omega,λnd hn=>?_⟩
   simp only[nodesPat,Yw] at hn
   rcases hn with rfl|hn
   ·exact⟨by simp only[Pat.name];omega,wf64 w4⟩
   ·exact hL.2 nd hn
def GCon(b:Nat)(t:Con):Prop:=t.size<=b/\∀ n ∈ nodesCon t,n.ok
def GCons(b:Nat)(l:List Con):Prop:=Con.sizes l<=b/\∀ n ∈ nodesCons l,n.ok
theorem GCons.nil:GCons 0 []:=⟨Yg _,by simp[nodesCons]⟩
theorem GCons.cons(m k:Nat)(t:Con)(L:List Con)(h:GCon m t)(g:GCons k L):GCons (m+k) (t::L):=by
 refine⟨by have:=h.1;have:=g.1;simp only[Con.sizes];omega,λn hn=>?_⟩
 simp only[nodesCons,Yy] at hn
 rcases hn with hn|hn
 ·exact h.2 n hn
 ·exact g.2 n hn
theorem QoP:∀ (n:Nat) (d:DataW H) l,conv C.ti n Z6 d=some l->Rows.uptoBulk d<2^30->∃ t:Con,l=t.cells/\GCon (Rows.uptoBulk d) t
 |0,d,l,h,_=>by simp[conv] at h
 |n+1,d,l,h,hb=>by
   obtain⟨parts,ls,rfl,hf,rfl⟩:=ZE Qol h
   rcases parts with _|⟨d1,_|⟨d2,_|⟨d3,_|⟨d4,_|_⟩⟩⟩⟩<;>rcases ls with _|⟨l1,_|⟨l2,_|⟨l3,_|⟨l4,_|_⟩⟩⟩⟩<;>simp only[Fields,and_false] at hf
   obtain⟨c1,c2,c3,c4,-⟩:=hf
   simp only[Rows.uptoBulk,Rows.uptoBulkAll] at hb |-
   obtain⟨s,rfl,rfl⟩:=Q6j Qk c1
   obtain⟨a,rfl,rfl,w2⟩:=Q0c Q35 c2
   obtain⟨hs,rfl,rfl⟩:=QlP QmW c3
   simp only[Rows.uptoBulk] at hb |-
   obtain⟨t,rfl,ht⟩:=QhE n d4 l4 c4 (by omega)
   refine⟨⟨s,a,hs,t⟩,by simp[Con.cells],by have:=ht.1;simp only[Con.size];omega,λnd hn=>?_⟩
   simp only[nodesCon,Yw] at hn
   rcases hn with rfl|hn
   ·simp only[TNode.ok];omega
   ·cases hs
    ·simp at hn
    ·exact ht.2 _ nd hn
def GExp(b:Nat)(t:Exp):Prop:=t.size<=b/\∀ n ∈ nodesExp t,n.ok
def GExps(b:Nat)(l:List Exp):Prop:=Exp.sizes l<=b/\∀ n ∈ nodesExps l,n.ok
def GCase(b:Nat)(t:Case):Prop:=t.size<=b/\∀ n ∈ nodesCase t,n.ok
def GCases(b:Nat)(l:List Case):Prop:=Case.sizes l<=b/\∀ n ∈ nodesCases l,n.ok
def GDec(b:Nat)(t:Dec):Prop:=t.size<=b/\∀ i,∀ n ∈ nodesDec i t,n.ok
def GDecs(b:Nat)(l:List Dec):Prop:=Dec.sizes l<=b/\∀ i,∀ n ∈ nodesDecs i l,n.ok
def GFun(b:Nat)(t:Fun):Prop:=t.size<=b/\∀ n ∈ nodesFun t,n.ok
def GFuns(b:Nat)(l:List Fun):Prop:=Fun.sizes l<=b/\∀ n ∈ nodesFuns l,n.ok
theorem GDecs.nil:GDecs 0 []:=⟨by simp[Dec.sizes],by simp[nodesDecs]⟩
theorem GDecs.cons(m k:Nat)(t:Dec)(L:List Dec)(h:GDec m t)(g:GDecs k L):GDecs (m+k) (t::L):=by
 refine⟨by have:=h.1;have:=g.1;simp only[Dec.sizes];omega,λi n hn=>?_⟩
 simp only[nodesDecs,Yy] at hn
 rcases hn with hn|hn
 ·exact h.2 i n hn
 ·exact g.2 i n hn
theorem GExps.nil:GExps 0 []:=⟨by simp[Exp.sizes],by simp[nodesExps]⟩
theorem GExps.cons(m k:Nat)(t:Exp)(L:List Exp)(h:GExp m t)(g:GExps k L):GExps (m+k) (t::L):=by
 refine⟨by have:=h.1;have:=g.1;simp only[Exp.sizes];omega,λn hn=>?_⟩
 simp only[nodesExps,Yy] at hn
 rcases hn with hn|hn
 ·exact h.2 n hn
 ·exact g.2 n hn
theorem GCases.nil:GCases 0 []:=⟨by simp[Case.sizes],by simp[nodesCases]⟩
theorem GCases.cons(m k:Nat)(t:Case)(L:List Case)(h:GCase m t)(g:GCases k L):GCases (m+k) (t::L):=by
 refine⟨by have:=h.1;have:=g.1;simp only[Case.sizes];omega,λn hn=>?_⟩
 simp only[nodesCases,Yy] at hn
 rcases hn with hn|hn
 ·exact h.2 n hn
 ·exact g.2 n hn
theorem GFuns.nil:GFuns 0 []:=⟨by simp[Fun.sizes],by simp[nodesFuns]⟩
theorem GFuns.cons(m k:Nat)(t:Fun)(L:List Fun)(h:GFun m t)(g:GFuns k L):GFuns (m+k) (t::L):=by
 refine⟨by have:=h.1;have:=g.1;simp only[Fun.sizes];omega,λn hn=>?_⟩
 simp only[nodesFuns,Yy] at hn
 rcases hn with hn|hn
 ·exact h.2 n hn
 ·exact g.2 n hn
structure DecAll (H:Type) (n:Nat):Prop where
 exp:∀ (d:DataW H) l,conv C.ti n Q6 d=some l->Rows.uptoBulk d<2^30->∃ t:Exp,l=t.cells/\GExp (Rows.uptoBulk d) t
 case:∀ (d:DataW H) l,conv C.ti n QF d=some l->Rows.uptoBulk d<2^30->∃ t:Case,l=t.cells/\GCase (Rows.uptoBulk d) t
 dec:∀ (d:DataW H) l,conv C.ti n QL d=some l->Rows.uptoBulk d<2^30->∃ t:Dec,l=t.cells/\GDec (Rows.uptoBulk d) t
 fn:∀ (d:DataW H) l,conv C.ti n Zi d=some l->Rows.uptoBulk d<2^30->∃ t:Fun,l=t.cells/\GFun (Rows.uptoBulk d) t
theorem Qn6(n:Nat)(ih:DecAll H n):∀ (d:DataW H) l,conv C.ti (n+2) Q6 d=some l->Rows.uptoBulk d<2^30->∃ t:Exp,l=t.cells/\GExp (Rows.uptoBulk d) t:=λd l h hb=>by
  obtain⟨parts,ls,rfl,hf,rfl⟩:=ZE Qk0 h
  rcases parts with _|⟨d1,_|⟨d2,_|⟨d3,_|⟨d4,_|⟨d5,_|⟨d6,_|⟨d7,_|_⟩⟩⟩⟩⟩⟩⟩<;>rcases ls with _|⟨l1,_|⟨l2,_|⟨l3,_|⟨l4,_|⟨l5,_|⟨l6,_|⟨l7,_|_⟩⟩⟩⟩⟩⟩⟩<;>simp only[Fields,and_false] at hf
  obtain⟨c1,c2,c3,c4,c5,c6,c7,-⟩:=hf
  simp only[Rows.uptoBulk,Rows.uptoBulkAll] at hb |-
  obtain⟨k,rfl,rfl,w1⟩:=Q0c Qje c1
  obtain⟨a,rfl,rfl,w2⟩:=Q0c Q35 c2
  obtain⟨s,rfl,rfl⟩:=Q6j Qk c3
  obtain⟨m,rfl,rfl,w4⟩:=Q0c Q35 c4
  simp only[Rows.uptoBulk] at hb |-
  obtain⟨L,b,k',rfl,hL,hk⟩:=Q2y QlB Qlw GExps.nil GExps.cons ih.exp d5 l5 c5 (by omega)
  obtain⟨L2,b2,k2',rfl,hL2,hk2⟩:=Q2y Qdo Qdn GCases.nil GCases.cons ih.case d6 l6 c6 (by omega)
  obtain⟨L3,b3,k3',rfl,hL3,hk3⟩:=Q2y QlA Qlv GDecs.nil GDecs.cons ih.dec d7 l7 c7 (by omega)
  refine⟨.mk k a s m L b L2 b2 L3 b3,by rw[Exp.cells_mk];rfl,by have:=hL.1;have:=hL2.1;have:=hL3.1;simp only[Exp.size];omega,λnd hn=>?_⟩
  simp only[nodesExp,Yw,Yy] at hn
  rcases hn with rfl|hn|hn|hn
  ·have h1:=hL.1
   have h2:=Exp.len_sizes L
   exact⟨by simp only[Exp.name];omega,by simp only[Exp.kids];omega,wf64 w4⟩
  ·exact hL3.2 _ nd hn
  ·exact hL.2 nd hn
  ·exact hL2.2 nd hn
theorem Qn5(n:Nat)(ih:DecAll H n):∀ (d:DataW H) l,conv C.ti (n+2) QL d=some l->Rows.uptoBulk d<2^30->∃ t:Dec,l=t.cells/\GDec (Rows.uptoBulk d) t:=λd l h hb=>by
  obtain⟨parts,ls,rfl,hf,rfl⟩:=ZE QjZ h
  rcases parts with _|⟨d1,_|⟨d2,_|⟨d3,_|⟨d4,_|⟨d5,_|⟨d6,_|⟨d7,_|_⟩⟩⟩⟩⟩⟩⟩<;>rcases ls with _|⟨l1,_|⟨l2,_|⟨l3,_|⟨l4,_|⟨l5,_|⟨l6,_|⟨l7,_|_⟩⟩⟩⟩⟩⟩⟩<;>simp only[Fields,and_false] at hf
  obtain⟨c1,c2,c3,c4,c5,c6,c7,-⟩:=hf
  simp only[Rows.uptoBulk,Rows.uptoBulkAll] at hb |-
  obtain⟨k,rfl,rfl,w1⟩:=Q0c Qjd c1
  obtain⟨a,rfl,rfl,w2⟩:=Q0c Q35 c2
  obtain⟨s,rfl,rfl⟩:=Q6j Qk c3
  obtain⟨m,rfl,rfl,w4⟩:=Q0c Q35 c4
  simp only[Rows.uptoBulk] at hb |-
  obtain⟨L,b,k',rfl,hL,hk⟩:=Q2y Qlz Qlu GCons.nil GCons.cons (QoP n) d5 l5 c5 (by omega)
  obtain⟨L2,b2,k2',rfl,hL2,hk2⟩:=Q2y Qdo Qdn GCases.nil GCases.cons ih.case d6 l6 c6 (by omega)
  obtain⟨L3,b3,k3',rfl,hL3,hk3⟩:=Q2y QlC Qlx GFuns.nil GFuns.cons ih.fn d7 l7 c7 (by omega)
  refine⟨.mk k a s m L b L2 b2 L3 b3,by rw[Dec.cells_mk];rfl,by have:=hL.1;have:=hL2.1;have:=hL3.1;simp only[Dec.size];omega,λi nd hn=>?_⟩
  simp only[nodesDec,Yw,Yy] at hn
  rcases hn with rfl|hn|hn|hn
  ·simp only[TNode.ok,Dec.name];omega
  ·exact hL2.2 nd hn
  ·exact hL3.2 nd hn
  ·exact hL.2 nd hn
theorem QfO(n:Nat)(ih:DecAll H n):∀ (d:DataW H) l,conv C.ti (n+1) QF d=some l->Rows.uptoBulk d<2^30->∃ t:Case,l=t.cells/\GCase (Rows.uptoBulk d) t:=λd l h hb=>by
  obtain⟨parts,ls,rfl,hf,rfl⟩:=ZE QmP h
  rcases parts with _|⟨d1,_|⟨d2,_|_⟩⟩<;>rcases ls with _|⟨l1,_|⟨l2,_|_⟩⟩<;>simp only[Fields,and_false] at hf
  obtain⟨c1,c2,-⟩:=hf
  simp only[Rows.uptoBulk,Rows.uptoBulkAll] at hb |-
  obtain⟨p,rfl,hp⟩:=QeI n d1 l1 c1 (by omega)
  obtain⟨e,rfl,he⟩:=ih.exp d2 l2 c2 (by omega)
  refine⟨.mk p e,by rw[Case.cells_mk];simp,by have:=hp.1;have:=he.1;simp only[Case.size];omega,λnd hn=>?_⟩
  simp only[nodesCase,Yy] at hn
  rcases hn with hn|hn
  ·exact hp.2 nd hn
  ·exact he.2 nd hn
theorem QhC(n:Nat)(ih:DecAll H n):∀ (d:DataW H) l,conv C.ti (n+1) Zi d=some l->Rows.uptoBulk d<2^30->∃ t:Fun,l=t.cells/\GFun (Rows.uptoBulk d) t:=λd l h hb=>by
  obtain⟨parts,ls,rfl,hf,rfl⟩:=ZE Qos h
  rcases parts with _|⟨d1,_|⟨d2,_|⟨d3,_|_⟩⟩⟩<;>rcases ls with _|⟨l1,_|⟨l2,_|⟨l3,_|_⟩⟩⟩<;>simp only[Fields,and_false] at hf
  obtain⟨c1,c2,c3,-⟩:=hf
  simp only[Rows.uptoBulk,Rows.uptoBulkAll] at hb |-
  obtain⟨s,rfl,rfl⟩:=Q6j Qk c1
  obtain⟨a,rfl,rfl,w2⟩:=Q0c Q35 c2
  simp only[Rows.uptoBulk] at hb |-
  obtain⟨e,rfl,he⟩:=ih.case d3 l3 c3 (by omega)
  refine⟨.mk s a e,by rw[Fun.cells_mk];simp,by have:=he.1;simp only[Fun.size];omega,λnd hn=>?_⟩
  simp only[nodesFun,Yw] at hn
  rcases hn with rfl|hn
  ·simp only[TNode.ok,Fun.name];omega
  ·exact he.2 nd hn
theorem Q6l:∀ n,DecAll H n
 |0=>⟨λ_ _ h=>by simp[conv] at h,λ_ _ h=>by simp[conv] at h,λ_ _ h=>by simp[conv] at h,λ_ _ h=>by simp[conv] at h⟩
 | 1 => ⟨fun d l h _ => by
     obtain⟨parts,ls,rfl,hf,rfl⟩:=ZE Qk0 h
     rcases parts with _|⟨d1,_|⟨d2,_|⟨d3,_|⟨d4,_|⟨d5,_|⟨d6,_|⟨d7,_|_⟩⟩⟩⟩⟩⟩⟩<;>rcases ls with _|⟨l1,_|⟨l2,_|⟨l3,_|⟨l4,_|⟨l5,_|⟨l6,_|⟨l7,_|_⟩⟩⟩⟩⟩⟩⟩<;>simp only[Fields,and_false] at hf
     simp[conv] at hf,QfO 0 (Q6l 0),λd l h _=>by
     obtain⟨parts,ls,rfl,hf,rfl⟩:=ZE QjZ h
     rcases parts with _|⟨d1,_|⟨d2,_|⟨d3,_|⟨d4,_|⟨d5,_|⟨d6,_|⟨d7,_|_⟩⟩⟩⟩⟩⟩⟩<;>rcases ls with _|⟨l1,_|⟨l2,_|⟨l3,_|⟨l4,_|⟨l5,_|⟨l6,_|⟨l7,_|_⟩⟩⟩⟩⟩⟩⟩<;>simp only[Fields,and_false] at hf
     simp[conv] at hf,QhC 0 (Q6l 0)⟩
 |n+2=>⟨Qn6 n (Q6l n),QfO (n+1) (Q6l (n+1)),Qn5 n (Q6l n),QhC (n+1) (Q6l (n+1))⟩
end
end Go.Proofs.YtgfhplcmcdimiaaGreatDoor
namespace Go.Am
open Go Go.RowKit
section
variable {H:Type} {enc:TypeId × Value->H} {P:Program}
theorem Left0.cell{w w':World}(h:Left0 w w'){b off:Nat}(hb:b<w.heap.size):w'.cell? ⟨b,off,none⟩=w.cell? ⟨b,off,none⟩:=by
 unfold World.cell?
 rw[h.heap b hb]
theorem Left0.sameAt{w w':World}(h:Left0 w w'){p:MemPlace}(hp:p.block<w.heap.size):w.sameAt w' p:=by
 cases p with
 |cell b off=>exact h.cell hp
 |map b=>exact h.heap b hp
theorem Left0.kept{w w':World}(h:Left0 w w')(may:MemPlace->Prop):w.keptBut w' may:=by
 refine⟨h.os,h.output,λi hi=>?_⟩
 rw[h.heap i hi]
 cases w.heap[i]? with
 |none=>rfl
 |some o=>cases o with
   |cells c t fr=>exact⟨rfl,rfl,rfl,λ_ _=>rfl⟩
   |map es clock=>exact .inr ⟨rfl,rfl⟩
   |_=>rfl
theorem QfC{w w':World}{base:Nat}{spare:Nat->Bool}{held:Bool}:∀ {ts:List TypeId} {vs:List Value} {ds:List (DataW H)} {ps:List MemPlace},DataW.TrodAll enc P w base spare held ts vs ds ps->(∀ p ∈ ps,w.sameAt w' p)->DataW.TrodAll enc P w' base spare held ts vs ds ps
 |[],[],[],_,h,_=>h
 |t::ts,v::vs,d::ds,_,h,hs=>by
   obtain⟨p,q,⟨n,h1⟩,h2,rfl⟩:=h
   exact⟨p,q,⟨n,DataW.trod_carry n _ _ _ h1 λx hx=>hs x (Yq _ hx)⟩,QfC h2 λx hx=>hs x (Yp _ hx),rfl⟩
theorem Qmm{f:Func}{s:ChangeSpec}{apart fresh handsOn:Bool}{W W':World}{args:Array Value}{v:Value}{ds gs:List (DataW H)}{before pv:List MemPlace}
  (hW:DataW.Whole enc P f.params.toList s.vars apart W args.toList ds gs before)
  (hres:∀ (b:Nat) (sp:Nat->Bool) (hd:Bool),DataW.TrodAll enc P W' b sp hd f.resultTypes.toList (v.resultList f.resultTypes.size) (s.fn H (ds++gs)).results [])
  (hargs:∀ sp:Nat->Bool,(∀ p ∈ before,sp p.block=true)->∃ pa,DataW.TrodAll enc P W' 0 sp true f.params.toList args.toList (s.fn H (ds++gs)).args pa)
  (hvars:∀ sp:Nat->Bool,DataW.TrodVars enc P W' sp s.vars (s.fn H (ds++gs)).vars pv) (hl:Left0 W W') :
  s.post enc P f apart fresh handsOn false W args v W':=by
 have hold:∀ p ∈ before,(λb=>decide (b<W.heap.size)) p.block=true:=λp hp=>by simpa using hW.lt p hp
 obtain⟨pa,ha⟩:=hargs (λb=>decide (b<W.heap.size)) hold
 exact⟨ds,gs,before,[],pa,pv,hW,hres _ _ _,ha,hvars _,hl.kept _,λh=>by cases h⟩
end
end Go.Am
namespace Go.Proofs.YtgfhplcmcdimiaaGreatDoor
open Go Go.Am Go.RowKit
theorem types:∀ t,TyOK Tryz.prog C t:=Qo6 QmF λt ht=>by
 show tis.getD t {}={}
 rw[List.getD_eq_getElem?_getD,List.getElem?_eq_none ht]
 rfl
theorem QkJ{P:Program}{W:World}{r:Reach}{base:Nat}{t:TypeId}{fs:Array Field}{v:Value}(hu:P.underlying t=some (.struct fs))(h:Value.okWide P W r base t v):∃ cs,v = .agg cs:=by
 unfold Value.okWide at h
 simp only[hu] at h
 obtain⟨cs,rfl,_⟩:=h
 exact⟨cs,rfl⟩
theorem kids:Kids Tryz.prog (· < Tryz.prog.types.size):=kids_rows (by kernel_rfl) (by kernel_rfl)
theorem full:∀ t e,t<Tryz.prog.types.size->Tryz.prog.underlying t=some (.slice e)->0<Tryz.prog.cellsOf e:=λt e ht hu=>slices_full_of Tryz.prog (by kernel_rfl) t e ht hu
theorem again{H:Type}{enc:TypeId × Value->H}{W W':World}{ts:List TypeId}{vs:List Value}{ds:List (DataW H)}{ps:List MemPlace}(hts:∀ t ∈ ts,t<Tryz.prog.types.size)(h:DataW.TrodAll enc Tryz.prog W 0 (λ_=>true) true ts vs ds ps)(hl:Left0 W W')(hlt:∀ p ∈ ps,p.block<W.heap.size)
  (sp:Nat->Bool) (hsp:∀ p ∈ ps,sp p.block=true):∃ pa,DataW.TrodAll enc Tryz.prog W' 0 sp true ts vs ds pa:=
 ⟨ps,QfC (DataW.TrodAll.respare kids full hts h hsp) λp hp=>hl.sameAt (hlt p hp)⟩
open Go Go.Am Go.RowKit
theorem QeD{P:Program}{W:World}{r:Reach}{base:Nat}{t:TypeId}{v:Value}(hu:(match P.underlying t with|some (.struct _)=>true|_=>false)=true)(h:Value.okWide P W r base t v):∃ cs,v = .agg cs:=by
 cases hs:P.underlying t with
 |none=>rw[hs] at hu;cases hu
 |some d=>
   rw[hs] at hu
   cases d<;>first|(cases hu;done)|exact QkJ hs h
theorem Qj5{κ:Kn}{l:List AV}{cs:Array Value}(h:VRl κ l cs.toList)(ho:Ones cs.toList):VR κ (.agg l) (.agg cs):=by
 simp only[VR]
 exact⟨cs.toList,h,ho,by rw[Array.toArray_toList]⟩
theorem Qdk{κ:Kn}{a:AV}{l:List AV}{v:Value}{vs:List Value}(h:VR κ a v)(g:VRl κ l vs):VRl κ (a::l) (v::vs):=⟨v,vs,rfl,h,g⟩
end Go.Proofs.YtgfhplcmcdimiaaGreatDoor
namespace Go.Am
open Go Go.RowKit
section
variable {C:Cfg} {κ:Kn} {B:Nat} {s:St} {w w':World}
theorem Qc3(hb:Below w.heap.size w w'):w.grownBy w' none:=⟨hb.os,hb.tape,hb.output,hb.size,λk hk _=>hb.block k hk⟩
theorem Inv.below(h:Inv C κ B s w)(hb:Below w.heap.size w w'):Inv C κ B s w':=h.grown (Qc3 hb)
theorem Mv.below(h:Inv C κ B s w)(hb:Below w.heap.size w w'):Mv κ κ w w':=Mv.grown κ (Qc3 hb)
theorem Qae:∀ {l:List AV} {cs:List Value},l.length=cs.length->(∀ (i:Nat) (a:AV) (v:Value),l[i]? = some a->cs[i]? = some v->VR κ a v)->VRl κ l cs
 |[],cs,h,_=>by simp only[Ye] at h;simp only[VRl];exact List.length_eq_zero_iff.1 h.symm
 |a::l,[],h,_=>by simp at h
 |a::l,v::cs,h,g=>by
   simp only[VRl]
   exact⟨v,cs,rfl,g 0 a v rfl rfl,Qae (by simpa using h) λi x y hx hy=>g (i+1) x y (by simpa using hx) (by simpa using hy)⟩
theorem Qbi{H:Type}{enc:TypeId × Value->H}{P:Program}{base:Nat}{sp:Nat->Bool}{held:Bool}{n fuel:Nat}{t e:TypeId}{cs:List Value}{d:DataW H}{ps:List MemPlace}
  (hu:P.underlying t=some (.array n e)) (he:P.underlying e=some .string) (h1:P.cellsOf e=1) (hn:P.cellsOf t=n) (h:DataW.trod enc P w base sp held fuel t cs=some (d,ps)) (l:List (List UInt8)) (hd:d = .agg (l.map λs=>.lit (.string s))) (κ:Kn) :
  VRl κ (l.map AV.str) cs/\Ones cs:=by
 obtain⟨xs,m,rfl,hx,hc,hxn,hel⟩:=DataW.trod_array hu h
 simp only[Prod.mk.injEq] at hx
 obtain⟨hx1,-⟩:=hx
 rw[hd] at hx1
 have hx2:l.map (λs=>(DataW.lit (.string s):DataW H))=xs.map (·.1):=by simpa using hx1
 have hll:l.length=n:=by have:=congrArg List.length hx2;simp at this;omega
 have hcl:cs.length=n:=by rw[hc,hn]
 have key:∀ (i:Nat) (v:Value),cs[i]? = some v->∃ b:ByteArray,v = .string b/\l[i]? = some b.data.toList:=by
  intro i v hv
  have hi:i<n:=by rw[<-hcl];exact (List.getElem?_eq_some_iff.1 hv).1
  have ht:=hel i hi
  rw[h1,Nat.mul_one] at ht
  have hi2:i<xs.length:=by rw[hxn];exact hi
  rw[List.getElem?_eq_getElem hi2] at ht
  obtain⟨b,hb1,hb2,-⟩:=DataW.trod_string he ht
  have hv2:(cs.drop i).take 1=[v]:=by
   have hlt:=(List.getElem?_eq_some_iff.1 hv).1
   rw[List.drop_eq_getElem_cons hlt,List.take_succ_cons,List.take_zero]
   rw[List.getElem?_eq_getElem hlt] at hv
   rw[Option.some.inj hv]
  rw[hv2] at hb1
  cases hb1
  refine⟨b,rfl,?_⟩
  have hg:=congrArg (λq=>q[i]?) hx2
  simp only[List.getElem?_map,List.getElem?_eq_getElem hi2,Option.map_some,hb2] at hg
  cases hli:l[i]? with
  |none=>rw[hli] at hg;simp at hg
  |some y=>rw[hli] at hg;simp at hg;rw[hg]
 refine⟨Qae (by simp[hll,hcl]) λi a v ha hv=>?_,λv hv=>?_⟩
 ·obtain⟨b,rfl,hb⟩:=key i v hv
  rw[List.getElem?_map,hb] at ha
  cases ha
  simp only[VR]
  exact⟨b,rfl,rfl⟩
 ·obtain⟨i,hi⟩:=List.mem_iff_getElem?.1 hv
  obtain⟨b,rfl,-⟩:=key i v hi
  rfl
end
end Go.Am
namespace Go.Proofs.YtgfhplcmcdimiaaGreatDoor
open Go Go.Am
theorem Qpj  : ∀ n,QuietOK C (call C n):=λ_ _ _ h=>by cases (show false=true from h)
end Go.Proofs.YtgfhplcmcdimiaaGreatDoor
namespace Go.Am
open Go Go.RowKit
section
variable {C:Cfg} {κ:Kn} {B:Nat} {s:St} {w w':World}
def Kn.dropTok(κ:Kn)(k L:Nat)(e:TypeId):Kn:={ κ with tok:=λi=>if i=k then some (L,e,undef) else κ.tok i }
theorem QkS{k L:Nat}{e:TypeId}{v:Value}(hk:κ.tok k=some (L,e,v)):LE κ (κ.dropTok k (L+1) e):=
 ⟨λ_ _ _ h=>h,λ_ _ h=>h,λi L1 e1 v1 h1=>by
   by_cases hi:i=k
   ·subst hi
    rw[hk] at h1
    cases h1
    exact⟨L+1,undef,by simp[Kn.dropTok],by omega,λh=>by omega⟩
   ·exact⟨L1,v1,by simp only[Kn.dropTok,hi,if_false];exact h1,Yg _,λ_=>rfl⟩,λ_ _ h=>h⟩
theorem QkT{k L:Nat}{e:TypeId}{b:Nat}(h:Wr (κ.dropTok k L e) b):Wr κ b:=by
 rcases h with h|⟨i,L1,e1,v1,h1,h2⟩
 ·exact .inl h
 ·simp only[Kn.dropTok] at h1
  split at h1
  ·cases h1;cases h2
  ·exact .inr ⟨i,L1,e1,v1,h1,h2⟩
theorem Inv.dropTok(h:Inv C κ B s w){k L g:Nat}{e:TypeId}{v:Value}(hk:κ.tok k=some (L,e,v))(hg:v.ownBlock=some g)(hw:w.grownBy w' (some g))(hc:∀ o,w'.cell? ⟨g,o,none⟩=w.cell? ⟨g,o,none⟩) :
  Inv C (κ.dropTok k (L+1) e) B { s with toks:=s.toks.set k (L+1) } w'/\Mv κ (κ.dropTok k (L+1) e) w w':=by
 have hle:=QkS hk
 have hkl:k<s.toks.length:=(List.getElem?_eq_some_iff.1 (h.tokn k L e v hk)).1
 have hwr:Wr κ g:=.inr ⟨k,L,e,v,hk,hg⟩
 have hgB:=(h.wr_lt hwr).1
 have tok':∀ {i L1 e1 v1 b},(κ.dropTok k (L+1) e).tok i=some (L1,e1,v1)->v1.ownBlock=some b->i≠k/\κ.tok i=some (L1,e1,v1):=λ{i L1 e1 v1 b} h1 h2=>by
  simp only[Kn.dropTok] at h1
  split at h1
  ·cases h1;cases h2
  ·rename_i hi;exact⟨hi,h1⟩
 have hne:∀ {l b},κ.loc l=some b->κ.gone l=false->b≠g:=λhl gl e=>by subst e;exact h.loctok _ _ k L _ v hl gl hk hg
 refine⟨⟨λb o u hu=>?_,λl x hx=>?_,h.locn,λi L1 hi=>?_,λi L1 e1 v1 h1=>?_,h.locinj,λi j L1 e1 v1 L2 e2 v2 b hi hj bi bj=>?_,λl b i L1 e1 v1 hl gl hi hv=>?_,h.locim,h.lv,λl e1 sz c hcp=>?_,h.bls,
   h.tabs.mono (λ_ v k=>⟨v,k⟩) λb hb hs _=>hw.block b hs (λe=>by cases e;omega)⟩,
  ⟨hle,hw.os,hw.tape,hw.output,hw.size,λb hb hn=>hw.block b hb (λe=>by cases e;exact hn hwr),λb hb=>.inl (QkT hb),λ_ _ _ k _ _=>k⟩⟩
 ·by_cases hb:b=g
  ·subst hb
   rw[hc]
   exact h.im b o u hu
  ·exact hw.cell (h.im b o u hu) (λe=>hb (by cases e;rfl))
 ·obtain⟨b,o,h1,h2,h3,h4⟩:=h.locs l x hx
  by_cases hd:x = .dead
  ·subst hd
   exact Q6k h1 h2 h3 hw.size
  ·exact⟨b,o,h1,h2,by rw[hw.block b (Array.getElem?_eq_some_iff.1 h3).1 (λe=>hne h1 (h.lv l x hx hd) (by cases e;rfl))];exact h3,h4.mono hle⟩
 ·by_cases hik:k=i
  ·subst hik
   rw[List.getElem?_set_self hkl] at hi
   cases hi
   exact⟨e,undef,by simp[Kn.dropTok],λg' hg'=>by cases hg'⟩
  ·rw[List.getElem?_set_ne hik] at hi
   obtain⟨e1,v1,h1,h2⟩:=h.toks i L1 hi
   refine⟨e1,v1,by simp only[Kn.dropTok,Ne.symm hik,if_false];exact h1,λg1 h3=>?_⟩
   obtain⟨xs,h4,h5⟩:=h2 g1 h3
   exact⟨xs,h4.kept hw (.inr λe'=>hik (h.tokinj k i L e v L1 e1 v1 g hk h1 hg e')),h5⟩
 ·simp only[Kn.dropTok] at h1
  split at h1
  ·rename_i hi;subst hi;cases h1;exact List.getElem?_set_self hkl
  ·rename_i hi;rw[List.getElem?_set_ne (Ne.symm hi)];exact h.tokn i L1 e1 v1 h1
 ·exact h.tokinj i j L1 e1 v1 L2 e2 v2 b (tok' hi bi).2 (tok' hj bj).2 bi bj
 ·exact h.loctok l b i L1 e1 v1 hl gl (tok' hi hv).2 hv
 ·obtain⟨k1,k2,k3,k4,k5⟩:=h.caps l e1 sz c hcp
  refine⟨k1,k2,k3,k4,λgl b hb=>?_⟩
  obtain⟨cs,k6,k7⟩:=k5 gl b hb
  exact⟨cs,by rw[hw.block b (Array.getElem?_eq_some_iff.1 k6).1 (λe=>hne hb gl (by cases e;rfl))];exact k6,k7⟩
theorem Qju(w:World)(p:Addr)(n:Nat)(a:Addr):(w.freeze p n).cell? a=w.cell? a:=by
 unfold World.freeze
 split
 ·rfl
 ·simp only[World.cell?,Array.getElem?_modify]
  by_cases h:p.block=a.block
  ·rw[if_pos h]
   cases hb:w.heap[a.block]? with
   |none=>rfl
   |some o=>cases o<;>rfl
  ·rw[if_neg h]
theorem QhP(w:World)(p:Addr)(n:Nat):w.grownBy (w.freeze p n) (some p.block):=by
 unfold World.freeze
 split
 ·exact⟨rfl,rfl,rfl,Yg _,λ_ _ _=>rfl⟩
 ·refine⟨rfl,rfl,rfl,by simp,λk hk hne=>?_⟩
  simp only[Array.getElem?_modify]
  rw[if_neg (λe=>hne (by rw[e]))]
theorem Qc5:∀ {l:List AV} {bs:List UInt8} {vs:List Value},bytesAV l=some bs->VRl κ (flat l) vs->vs=bs.map λb=>Value.int .u8 b.toNat
 |[],bs,vs,h,hv=>by cases h;simpa [flat,VRl] using hv
 |x::r,bs,vs,h,hv=>by
   cases x<;>(try simp only[bytesAV] at h)
   case int k n=>
    cases k<;>(try simp only[bytesAV] at h)
    case u8=>
     split at h
     ·rename_i hn
      cases hr:bytesAV r with
      |none=>rw[hr] at h;cases h
      |some l=>
        rw[hr] at h
        cases h
        have hf:flat (AV.int IntKind.u8 n::r)=AV.int IntKind.u8 n::flat r:=rfl
        rw[hf] at hv
        simp only[VRl,VR] at hv
        obtain⟨u,us,rfl,rfl,h2⟩:=hv
        rw[Qc5 hr h2]
        have:((n.toNat.toUInt8).toNat:Int)=n:=by
         simp only[Nat.toUInt8,UInt8.toNat_ofNat']
         omega
        simp only[Yh,this]
     ·cases h
    all_goals cases h
   all_goals cases h
theorem Qc4:∀ {l:List AV} {bs:List UInt8},bytesAV l=some bs->bs.length=l.length
 |[],bs,h=>by cases h;rfl
 |x::r,bs,h=>by
   cases x<;>(try simp only[bytesAV] at h)
   case int k n=>
    cases k<;>(try simp only[bytesAV] at h)
    case u8=>
     split at h
     ·cases hr:bytesAV r with
      |none=>rw[hr] at h;cases h
      |some l=>rw[hr] at h;cases h;simp[Qc4 hr]
     ·cases h
    all_goals cases h
   all_goals cases h
end
end Go.Am
namespace Go.Proofs.YtgfhplcmcdimiaaGreatDoor
open Go Go.Proofs Go.RowKit
set_option maxHeartbeats 2000000 in
set_option maxRecDepth 100000 in
theorem Qjm(b g cap:Nat)(cur:Array Value)(l:List UInt8)(w:World)(c1:w.cell? ⟨b,1,none⟩=some (.slice (some ⟨g,0,none⟩) l.length cap))
  (hg:w.heap[g]? = some (.cells cur 5 (0,0))) (h0:l≠[]) (hn:l.length<=cap) (hcm:cap<=maxLen) (hcs:cur.size=cap)
  (hcell:∀ j x,l[j]? = some x->w.cell? ⟨g,j,none⟩=some (.int .u8 x.toNat)) :
  Calls Tryz.prog 41 #[.pointer (some ⟨b,0,none⟩)] w λe w'=>e = .returned (.string ⟨l.toArray⟩)/\w'=w.drew.freeze ⟨g,0,none⟩ l.length:=by
 have hl0:l.length≠0:=by simpa using h0
 replace c1:w.drew.cell? ⟨b,1,none⟩=_:=c1
 have hSD:(Builtin.unsafeSliceData_ #[69] 131 #[.slice (some ⟨g,0,none⟩) l.length cap]).run Tryz.prog w.drew = .ok (.pointer (some ⟨g,0,none⟩)) w.drew:=
  Lib.run_unsafeSliceData_row _ _ _ _ _ _ (by omega)
 have hUS:(Builtin.unsafeString_ #[131,3] 9 #[.pointer (some ⟨g,0,none⟩),.int .i64 l.length]).run Tryz.prog w.drew = .ok (.string ⟨l.toArray⟩) (w.drew.freeze ⟨g,0,none⟩ l.length):=by
  refine Lib.run_unsafeString_row w.drew 131 3 9 5 (by kernel_rfl) (by kernel_rfl) g cur.size (by have hg':w.drew.heap[g]? = some (.cells cur 5 (0,0)):=hg;simp[World.shape?,hg']) l h0 (by omega) (by unfold maxLen at hcm;omega) λj x hx=>?_
  have:=hcell j x hx
  have e:(⟨g,0,none⟩:Addr).add j=⟨g,j,none⟩:=by unfold Addr.add;split<;>simp_all
  rw[e]
  exact this
 have mixed:Tryz.prog.follows .mixedOrders=true:=by kernel_rfl
 go_enter Tryz.func41,Tryz.ntmps41
 go_wp2
 go_region_o
 all_goals (go_wp2;go_ret;exact⟨rfl,rfl⟩)
set_option maxHeartbeats 2000000 in
set_option maxRecDepth 100000 in
theorem Qjl(b:Nat)(w:World)(c1:w.cell? ⟨b,1,none⟩=some (.slice none 0 0)) :
  Calls Tryz.prog 41 #[.pointer (some ⟨b,0,none⟩)] w λe w'=>e = .returned (.string ⟨#[]⟩)/\w'=w.drew:=by
 have hUS:=λW=>Lib.run_unsafeString_none (P:=Tryz.prog) W 131 3 9 none
 replace c1:w.drew.cell? ⟨b,1,none⟩=_:=c1
 have hSD:(Builtin.unsafeSliceData_ #[69] 131 #[.slice none 0 0]).run Tryz.prog w.drew = .ok (.pointer none) w.drew:=rfl
 have mixed:Tryz.prog.follows .mixedOrders=true:=by kernel_rfl
 go_enter Tryz.func41,Tryz.ntmps41
 go_wp2
 go_region_o
 all_goals (go_wp2;go_ret;exact⟨rfl,rfl⟩)
set_option maxHeartbeats 2000000 in
set_option maxRecDepth 100000 in
theorem Qjk(b:Nat)(w:World)(h0:w.cell? ⟨b,0,none⟩=some (.pointer (some ⟨b,0,none⟩))) :
  Calls Tryz.prog 87 #[.pointer (some ⟨b,0,none⟩)] w λe w'=>e = .returned (.tuple #[])/\w'=w:=by
 have mixed:Tryz.prog.follows .mixedOrders=true:=by kernel_rfl
 have t70:Tryz.prog.underlying 68=some (.pointer 71):=by kernel_rfl
 have hi:(Tryz.prog.info? 71).map (·.size)=some 2:=by kernel_rfl
 obtain⟨j,hj,_⟩:=Option.map_eq_some_iff.1 hi
 go_enter Tryz.func87,Tryz.ntmps87
 go_wp2
 rw[Lib.run_neq_ptr_same w _ t70 hj]
 go_wp2
 go_end0
 exact⟨rfl,rfl⟩
set_option maxHeartbeats 2000000 in
set_option maxRecDepth 100000 in
theorem Qhr(b:Nat)(w:World)(h0:w.cell? ⟨b,0,none⟩=some (.pointer none))(hsh:w.shape? b=some (71,2))(hfz:w.frozen? ⟨b,0,none⟩=false) :
  Calls Tryz.prog 87 #[.pointer (some ⟨b,0,none⟩)] w λe w'=>e = .returned (.tuple #[])/\w'=w.setCell ⟨b,0,none⟩ (.pointer (some ⟨b,0,none⟩)):=by
 have mixed:Tryz.prog.follows .mixedOrders=true:=by kernel_rfl
 have t70:Tryz.prog.underlying 68=some (.pointer 71):=by kernel_rfl
 have t164:Tryz.prog.underlying 170=some .unsafePointer:=by kernel_rfl
 have lies:liesAt Tryz.prog Tryz.prog.depth 71 (2 / Tryz.prog.cellsOf 71) 0 71 1=true:=by kernel_rfl
 have hi:(Tryz.prog.info? 71).map (·.size)=some 2:=by kernel_rfl
 obtain⟨j,hj,hjs⟩:=Option.map_eq_some_iff.1 hi
 go_enter Tryz.func87,Tryz.ntmps87
 go_wp2
 rw[Lib.run_to_unsafe w ⟨b,0,none⟩ t70 t164 hj (by rw[hjs];decide) hsh (Nat.zero_lt_succ 1)]
 simp only[Result.andThen]
 rw[Oper.upon_value]
 go_wp2
 rw[run_callFunc_extern Tryz.func129 (by kernel_rfl) (by kernel_rfl) (by kernel_rfl) (e:=Extern.AbiNoEscape.same) (by kernel_rfl)]
 rw[Lib.run_noEscape]
 simp only[Result.andThen]
 rw[Oper.upon_value]
 go_wp2
 rw[Lib.run_from_unsafe w ⟨b,0,none⟩ t164 t70 hj hsh lies]
 simp only[Result.andThen]
 rw[Oper.upon_value]
 go_wp2
 go_end0
 exact⟨rfl,rfl⟩
set_option maxHeartbeats 2000000 in
set_option maxRecDepth 100000 in
theorem Qm8(w:World):Calls Tryz.prog 142 #[.slice none 0 0,.int .i64 0] w λe w'=>e = .returned (.slice none 0 0)/\w'=w:=by
 have mixed:Tryz.prog.follows .mixedOrders=true:=by kernel_rfl
 go_enter Tryz.func142,Tryz.ntmps142
 go_wp2
 go_ret
 exact⟨rfl,rfl⟩
set_option maxHeartbeats 2000000 in
set_option maxRecDepth 100000 in
theorem Qnn(n:Nat)(h0:0<n)(hn:n*16<=281474976710656)(w:World):Calls Tryz.prog 142 #[.slice none 0 0,.int .i64 n] w λe w'=>∃ z:Array Value,z.size=grownCap w n 0 9/\e = .returned (.slice (some ⟨w.heap.size,0,none⟩) 0 (grownCap w n 0 9))/\w'=w.drew.alloc (.cells z 9):=by
 have mixed:Tryz.prog.follows .mixedOrders=true:=by kernel_rfl
 obtain⟨i,hi,hi2⟩:∃ i,Tryz.prog.info? 9=some i/\(i.zero,i.size,i.bytes)=(some (.string .empty),1,16):=Option.map_eq_some_iff.1 (by kernel_rfl:(Tryz.prog.info? 9).map (λi=>(i.zero,i.size,i.bytes))=some (some (.string .empty),1,16))
 simp only[Prod.mk.injEq] at hi2
 have hA:=Lib.run_append_nil_zeros (P:=Tryz.prog) w 58 3 58 9 _ _ .i64 .i64 (by kernel_rfl) (by kernel_rfl) hi hi2.1 n h0 (by omega) (by omega) (by rw[hi2.2.2];exact hn)
 have hb:Tryz.t9.bytes=16:=by kernel_rfl
 have hnx:Builtin.nextslicecap n 0=n:=nextslicecap_zero h0
 have hge:=grownCap_ge w n 0 9
 have hzs:(Builtin.zeroCells #[Value.string { data:=#[] }] n++Builtin.zeroCells #[Value.string { data:=#[] }] (grownCap w n 0 9 - n)).size=grownCap w n 0 9:=by
  simp[size_zeroCells];omega
 have c1:IntKind.i64.wrap ((n:Int) - 0)=n:=by rw[IntKind.wrap_i64];omega
 have c2:decide ((n:Int)<0)=false:=by simp
 have c3:decide ((n:Int)>0)=true:=by simp;omega
 go_enter Tryz.func142,Tryz.ntmps142
 go_wp2
 all_goals first|(go_ret;exact⟨_,hzs,rfl,rfl⟩)|(exfalso;simp only[hnx,hb] at *;omega)
open Go Go.Proofs Go.Am Go.RowKit
theorem var2{w:World}{b:Nat}{cs:Array Value}{t:TypeId}{fz:Nat × Nat}{u1 u2:Value}(h:w.heap[b]? = some (.cells cs t fz))(h2:cs.toList.take 2=[u1,u2]) :
  w.cell? ⟨b,0,none⟩=some u1/\w.cell? ⟨b,1,none⟩=some u2/\2<=cs.size:=by
 have hl:2<=cs.size:=by have:=congrArg List.length h2;simp at this;omega
 have g:∀ i,i<2->cs[i]? = [u1,u2][i]? :=λi hi=>by
  rw[<-h2,List.getElem?_take_of_lt hi,Array.getElem?_toList]
 refine⟨?_,?_,hl⟩
 ·simp only[World.cell?,h];exact g 0 (by omega)
 ·simp only[World.cell?,h];exact g 1 (by omega)
theorem Qjr:∀ l s v s',extBString 5 l s=some (v,s')->∀ κ B w vs,Inv C κ B s w->GlobOK C κ->B<=w.heap.size->VRl κ l vs->Called Tryz.prog 41 vs.toArray w (CPost C κ B w (.ret v) s'):=by
 intro l s v s' hg κ B w vs hi hG hB hv
 unfold extBString at hg
 split at hg
 ·rename_i loc
  obtain⟨v1,r1,rfl,h1,h2⟩:=hv
  simp only[VRl] at h2
  subst h2
  simp only[VR] at h1
  obtain⟨b,hb,rfl⟩:=h1
  split at hg
  ·rename_i y x hl
   obtain⟨b',o,q1,q2,q3,q4⟩:=hi.locs loc _ hl
   rw[hb] at q1
   cases q1
   obtain⟨cs,t,rfl,q5,⟨u1,us,e1,r1,u2,us2,e2,r2,r3⟩,q7⟩:=q4
   subst e2
   simp only[SRs] at r3
   subst r3
   obtain⟨c0,c1,hcs⟩:=var2 q3 e1
   have he:=enters_of Tryz.func41 (by kernel_rfl) (c:=body Tryz.f41) (by kernel_rfl) #[.pointer (some ⟨b,0,none⟩)] w
   split at hg
   ·cases hg
    simp only[SR,VR] at r2
    subst r2
    refine .inr ⟨he,(callsIn_wide (n:=0).2 (Qjl b w c1)).mono λe w' h=>?_⟩
    obtain⟨rfl,rfl⟩:=h
    exact⟨κ,Mv.drew κ w,hi.drew,by simp only[OutR,SR,VR];exact⟨_,rfl,rfl⟩⟩
   ·rename_i k e lx
    split at hg
    ·rename_i bs hbs
     cases hq:(bs.isEmpty || !Nat.beq e 5) with
     |true=>rw[hq] at hg;cases hg
     |false=>
       rw[hq] at hg
       simp only[cond_false] at hg
       simp only[Bool.or_eq_false_iff,Bool.not_eq_false'] at hq
       obtain rfl:=Yn hq.2
       split at hg
       ·rename_i htk
        cases hg
        obtain⟨⟨a,n,c,rfl,hlen,hnc,hsp,sz,us,hcz,hH,hO,hV⟩,L,u,ht,hL,hLu⟩:=r2
        obtain⟨e',v',ht',hTI⟩:=hi.toks k lx.length htk
        rw[ht] at ht'
        cases ht'
        have hvu:=hLu rfl
        subst hvu
        obtain⟨xs,hown,hs0,hox,hxi,hxo⟩:=hTI a.block rfl
        have hbl:=Qc4 hbs
        have hne:bs≠[]:=by intro h;subst h;simp at hq
        rcases hown.2 with ⟨h0,_⟩|⟨g,cap,cur,hve,hBg,hgh,hnc2,hcm,hcsz,htake⟩
        ·cases h0
        ·cases hve
         have hvs:=Qc5 hbs hV
         have hsz:(C.ti 5).size=1:=by kernel_rfl
         rw[<-hbl] at c1 hnc2
         refine .inr ⟨he,(callsIn_wide (n:=0).2 (Qjm b g _ cur bs w c1 hgh hne hnc2 hcm (by rw[hcsz,hsz,Nat.mul_one]) (λj x hx=>?_))).mono λe w' h=>?_⟩
         ·have:=hi.im _ _ _ (hH j (.int .u8 x.toNat) (by rw[hvs,List.getElem?_map,hx];rfl))
          simpa using this
         ·obtain⟨rfl,rfl⟩:=h
          have hd:=hi.drew
          obtain⟨hI',hM⟩:=hd.dropTok (w':=w.drew.freeze ⟨g,0,none⟩ bs.length) ht rfl (QhP w.drew ⟨g,0,none⟩ bs.length) (λo=>Qju _ _ _ _)
          refine⟨_,(Mv.drew κ w).trans hM,hI',?_⟩
          simp only[OutR,SR,VR]
          exact⟨_,rfl,rfl⟩
       ·cases hg
    ·cases hg
   ·cases hg
  ·cases hg
 ·cases hg
theorem QiL{w:World}{b:Nat}{cs:Array Value}{t:TypeId}{fz:Nat × Nat}{o:Nat}{v:Value}(h:w.heap[b]? = some (.cells cs t fz)):(w.setCell ⟨b,o,none⟩ v).heap[b]? = some (.cells (cs.setIfInBounds o v) t fz):=by
 simp[World.setCell,Array.getElem?_modify,h]
theorem Qh0(w:World)(a:Addr)(v:Value):w.grownBy (w.setCell a v) (some a.block):=
 ⟨rfl,rfl,rfl,by simp[World.setCell],λk hk hne=>by
   simp only[World.setCell,Array.getElem?_modify]
   rw[if_neg (λe=>hne (by rw[e]))]⟩
theorem QkU:∀ l s v s',extCopyCheck 71 l s=some (v,s')->∀ κ B w vs,Inv C κ B s w->GlobOK C κ->B<=w.heap.size->VRl κ l vs->Called Tryz.prog 87 vs.toArray w (CPost C κ B w (.ret v) s'):=by
 intro l s v s' hg κ B w vs hi hG hB hv
 unfold extCopyCheck at hg
 split at hg
 ·rename_i loc
  obtain⟨v1,r1,rfl,h1,h2⟩:=hv
  simp only[VRl] at h2
  subst h2
  simp only[VR] at h1
  obtain⟨b,hb,rfl⟩:=h1
  cases hbl:isBld 71 s loc with
  |false=>rw[hbl] at hg;cases hg
  |true=>
    rw[hbl] at hg
    simp only[cond_true] at hg
    split at hg
    ·rename_i y x hl
     obtain⟨b',o,q1,q2,q3,q4⟩:=hi.locs loc _ hl
     rw[hb] at q1
     cases q1
     obtain⟨cs,t,rfl,q5,⟨u1,us,e1,r1,u2,us2,e2,r2,r3⟩,q7⟩:=q4
     subst e2
     simp only[SRs] at r3
     subst r3
     obtain⟨c0,c1,hcs⟩:=var2 q3 e1
     have gl:κ.gone loc=false:=hi.lv loc _ hl (λh=>by cases h)
     have he:=enters_of Tryz.func87 (by kernel_rfl) (c:=body Tryz.f87) (by kernel_rfl) #[.pointer (some ⟨b,0,none⟩)] w
     split at hg
     ·cases hg
      simp only[SR,VR] at r1
      subst r1
      unfold isBld at hbl
      obtain⟨p,hp,hpe⟩:=List.any_eq_true.1 hbl
      simp only[Yf] at hpe
      have p1:=Yn hpe.1
      have p2:=Yn hpe.2
      have hcap:=hi.bls p hp
      rw[p1,p2] at hcap
      obtain⟨_,k2,_,_,k5⟩:=hi.caps _ _ _ _ hcap
      obtain⟨cs2,k6,k7⟩:=k5 gl b hb
      rw[q3] at k6
      cases k6
      have hsz:(C.ti 71).size=2:=by kernel_rfl
      refine .inr ⟨he,(callsIn_wide (n:=0).2 (Qhr b w c0 (by simp[World.shape?,q3,k7,hsz]) (by simp[World.frozen?,q3]))).mono λe w' h=>?_⟩
      obtain⟨rfl,rfl⟩:=h
      have hcl:cs.toList = .pointer none::u2::cs.toList.drop 2:=by
       have h:=List.take_append_drop 2 cs.toList
       rw[show cs.toList.take 2=[.pointer none,u2] from e1] at h
       exact h.symm
      have hcl2:(cs.setIfInBounds 0 (.pointer (some ⟨b,0,none⟩))).toList.take 2=[.pointer (some ⟨b,0,none⟩),u2]:=by
       rw[Array.toList_setIfInBounds,hcl];rfl
      have hones:Ones [Value.pointer (some ⟨b,0,none⟩),u2]:=λu hu=>by
       rcases List.mem_cons.1 hu with rfl|hu
       ·rfl
       ·have e1':(cs.toList.take [Slot.val .nilp,x].length)=[.pointer none,u2]:=e1
        exact q7 u (by rw[e1'];exact Yc _ hu)
      obtain⟨hI',hM⟩:=hi.setLoc (w':=w.setCell ⟨b,0,none⟩ (.pointer (some ⟨b,0,none⟩))) hb gl (x:=.var [.val (.vp loc 0),x]) (o:=.cells (cs.setIfInBounds 0 (.pointer (some ⟨b,0,none⟩))) 71 (0,0))
       ⟨_,_,rfl,by simp;omega,(by
         rw[show [Slot.val (.vp loc 0),x].length=2 from rfl,hcl2]
         exact⟨_,_,rfl,(by simp only[SR,VR];exact⟨b,hb,rfl⟩),_,_,rfl,r2,rfl⟩),by rw[show [Slot.val (.vp loc 0),x].length=2 from rfl,hcl2];exact hones⟩ (QiL q3) (Qh0 w ⟨b,0,none⟩ _) (λcs3 t3 z3 h3=>by rw[q3] at h3;cases h3;exact⟨_,rfl,by simp⟩)
      exact⟨κ,hM,hI',by simp only[OutR,SR,VR];exact⟨[],rfl,rfl⟩⟩
     ·rename_i l2
      cases hll:Nat.beq l2 loc with
      |false=>rw[hll] at hg;cases hg
      |true=>
        rw[hll] at hg
        cases hg
        obtain rfl:=Yn hll
        simp only[SR,VR] at r1
        obtain⟨b2,hb2,rfl⟩:=r1
        rw[hb] at hb2
        cases hb2
        refine .inr ⟨he,(callsIn_wide (n:=0).2 (Qjk b w c0)).mono λe w' h=>?_⟩
        obtain⟨rfl,rfl⟩:=h
        exact⟨κ,.refl _ _,hi,by simp only[OutR,SR,VR];exact⟨[],rfl,rfl⟩⟩
     ·cases hg
    ·cases hg
 ·cases hg
theorem Qng:∀ l s v s',extGrow 9 (tis.getD 9 {}) l s=some (v,s')->∀ κ B w vs,Inv C κ B s w->GlobOK C κ->B<=w.heap.size->VRl κ l vs->Called Tryz.prog 142 vs.toArray w (CPost C κ B w (.ret v) s'):=by
 intro l s v s' hg κ B w vs hi hG hB hv
 have hsz:(C.ti 9).size=1:=by kernel_rfl
 have hby:(tis.getD 9 {}).bytes=16:=by kernel_rfl
 unfold extGrow at hg
 split at hg
 ·rename_i n
  obtain⟨v1,r1,rfl,h1,v2,r2,rfl,h2,h3⟩:=hv
  simp only[VRl] at h3
  subst h3
  simp only[VR] at h1 h2
  subst h1 h2
  have he:=enters_of Tryz.func142 (by kernel_rfl) (c:=body Tryz.f142) (by kernel_rfl) #[.slice none 0 0,.int .i64 n] w
  split at hg
  ·rename_i h0
   cases hg
   subst h0
   refine .inr ⟨he,(callsIn_wide (n:=0).2 (Qm8 w)).mono λe w' h=>?_⟩
   obtain⟨rfl,rfl⟩:=h
   exact⟨κ,.refl _ _,hi,by simp only[OutR,SR,VR]⟩
  ·split at hg
   ·rename_i h0 hc
    cases hg
    obtain⟨m,rfl⟩:∃ m:Nat,n=m:=⟨n.toNat,by omega⟩
    rw[hby] at hc
    have hge:=grownCap_ge w m 0 9
    have hle:=grownCap_le_maxLen w m 0 9 (by unfold maxLen;omega)
    refine .inr ⟨he,(callsIn_wide (n:=0).2 (Qnn m (by omega) (by omega) w)).mono λe w' h=>?_⟩
    obtain⟨z,hz,rfl,rfl⟩:=h
    have hgr:w.grownBy (w.drew.alloc (.cells z 9)) none:=by
     have h:=World.grownBy_alloc w.drew (.cells z 9) none
     exact⟨h.os,h.tape,h.output,h.size,h.block⟩
    obtain⟨κ',r1,r2,r3⟩:=hi.fresh_tok (et:=9) (l':=[]) (v':=.slice (some ⟨w.heap.size,0,none⟩) 0 (grownCap w m 0 9)) (zs:=[]) (g:=w.heap.size) hgr rfl (Yg _)
     ⟨by simp,.inr ⟨w.heap.size,_,z,rfl,hB,heap_alloc_new w.drew (.cells z 9),Nat.zero_le _,hle,by rw[hz,hsz,Nat.mul_one],by simp⟩⟩ (by rw[hsz];decide) (by intro u hu;cases hu) (by simp only[flat,List.flatMap_nil,VRl]) (by intro u hu;cases hu)
    exact⟨κ',r1,r2,r3⟩
   ·cases hg
 ·cases hg
end Go.Proofs.YtgfhplcmcdimiaaGreatDoor