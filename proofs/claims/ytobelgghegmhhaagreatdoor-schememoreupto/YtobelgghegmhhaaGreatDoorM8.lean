/- A part of the proof: PTree, RDec, RBase0, RBase2, RLaidA, SQuiet, SBld, SBld2, SBld3, RBaseSA, PLex, SLex0, RLaid, RBaseS. -/
import Derived.Test.YtobelgghegmhhaaGreatDoorM2
import Derived.Test.YtobelgghegmhhaaGreatDoorM3
import Derived.Test.YtobelgghegmhhaaGreatDoorM4
import Derived.Test.YtobelgghegmhhaaGreatDoorM5
import Derived.Test.YtobelgghegmhhaaGreatDoorM6
import Derived.Test.YtobelgghegmhhaaGreatDoorM7
import Derived.Test.YtobelgghegmhhaaGreatDoorRows
import Derived.Test.YtobelgghegmhhaaGreatDoorShelf
import Derived.ChangeSame
import Derived.ReadAgain
import Derived.ChangeOld
import Derived.Deep.DeepHandedRow
import Derived.WalkKit
import Derived.ProofKit
import Derived.OpenShut
import Derived.MakeChecks
import Derived.LaidMore
import Derived.LaidSub
import Derived.Lib.UnsafeStr
import Derived.Test.YtobelgghegmhhaaGreatDoorProg
import Derived.Lib.AppendZeros
import Derived.Lib.Builder
import Derived.Lib.Walk
import Derived.Lib.MakeNoZero
import Derived.Shelf.RegionOpenPlain
import Derived.Laws.Externs
import Derived.KernelRfl
import Derived.Test.YtobelgghegmhhaaGreatDoorTie
import Derived.Lib.LaidTab
import Derived.Lib.AppendIntMem
import Derived.Lib.Bytealg
set_option linter.unusedVariables false
set_option linter.unusedSimpArgs false
open Bool renaming and_eq_true→Ya
open List renaming mem_cons_of_mem→Yb,mem_cons_self→Yc,length_append→Ye,length_cons→Yg,map_cons→Yi,cons_append→Yk,mem_append_left→Ym,nil_append→Yo,length_nil→Yp,mem_append_right→Yq
open Nat renaming le_refl→Yd,eq_of_beq_eq_true→Yf
namespace Go.Am
open Go
def smallB(n:Int):Bool:=decide (n≥97)&&decide (n<=122) || decide (n=95)
def greatB(n:Int):Bool:=decide (n≥65)&&decide (n<=90)
def unrestB(n:Int):Bool:=!smallB n && !greatB n&&(decide (n<48) || decide (n>57)) && !decide (n=39)
def restAll(l:Str):Bool:=l.all λc=>!unrestB c.toNat
def runB(l:Str):Bool:=restAll (l.drop 1)&&decide (l.length<=32)
def headB(l:Str):Int:=((l.headD 0).toNat:Int)
def wordsS:Str:=[32,97,110,100,32,97,110,100,97,108,115,111,32,97,115,32,99,97,115,101,32,100,97,116,97,116,121,112,101,32,100,105,118,32,101,108,115,101,32,101,110,100,32,101,120,99,101,112,116,105,111,110,32,102,110,32,102,117,110,32,104,97,110,100,108,101,32,105,102,32,105,110,32,108,101,116,32,109,111,100,32,111,102,32,111,114,101,108,115,101,32,112,114,105,110,116,32,114,97,105,115,101,32,114,101,97,100,32,114,101,102,32,116,104,101,110,32,118,97,108,32,116,114,117,101,32,102,97,108,115,101,32,95,32]
def lowB(l:Str):Bool:=!decide (l=[])&&smallB (headB l)&&runB l && !Go.Lib.contains wordsS (32::(l++[32]))
def capB(l:Str):Bool:=!decide (l=[])&&greatB (headB l)&&runB l
def conB(l:Str):Bool:=capB l || decide (l=[116,114,117,101]) || decide (l=[102,97,108,115,101]) || decide (l=[40,41])
def isIntB(n:Int):Bool:=decide (n≥-1073741824)&&decide (n<=1073741823)
def letterR(n:Int)(cap:Bool):Bool:=bif cap then decide (n≥65)&&decide (n<=90) else decide (n≥97)&&decide (n<=122) || decide (n=95)
def restR(n:Int):Bool:=decide (n≥97)&&decide (n<=122) || decide (n≥65)&&decide (n<=90) || decide (n≥48)&&decide (n<=57) || decide (n=95) || decide (n=39)
def shapedR(l:Str)(cap:Bool):Bool:=!(decide ((l.length:Int)<1) || decide ((l.length:Int)>32) || !letterR (headB l) cap)&&(l.drop 1).all λc=>restR c.toNat
def wordsR:List Str:=[[97,110,100],[97,110,100,97,108,115,111],[97,115],[99,97,115,101],[100,97,116,97,116,121,112,101],[100,105,118],[101,108,115,101],[101,110,100],[101,120,99,101,112,116,105,111,110],[102,110],[102,117,110],[104,97,110,100,108,101],[105,102],[105,110],[108,101,116],[109,111,100],[111,102],[111,114,101,108,115,101],[112,114,105,110,116],[114,97,105,115,101],[114,101,97,100],[114,101,102],[116,104,101,110],[118,97,108]]
def amongR(x:Str)(l:List Str):Bool:=l.any λw=>decide (w=x)
def lowR(l:Str):Bool:=shapedR l false && !decide (l=[95]) && !decide (l=[116,114,117,101]) && !decide (l=[102,97,108,115,101]) && !amongR l wordsR
def tyLM(nm:Str):Int × Int × Bool:=
 bif decide (nm=[105,110,116]) then (0,0,true) else bif decide (nm=[98,111,111,108]) then (0,0,true) else bif decide (nm=[117,110,105,116]) then (0,0,true) else bif decide (nm=[101,120,110]) then (0,0,true) else
 bif decide (nm=[114,101,102]) then (1,1,true) else bif decide (nm=[45,62]) then (2,2,true) else bif decide (nm=[42]) then (2,8,true) else bif !lowB nm then (0,0,false) else (0,8,true)
def wrongTyC(k n:Int)(nm:Str)(len:Int):Int:=
 bif decide (k=1)&&(!decide (nm=[]) || decide (len>0)) || decide (k=2) && !decide (n=0) || !decide (k=1) && !decide (k=2) then 29
 else bif decide (k=1)&&decide (n<0) then 2
 else bif decide (k=1) then 0
 else bif !(tyLM nm).2.2 then 8
 else bif decide (len<(tyLM nm).1) || decide (len>(tyLM nm).2.1) then 19 else 0
def wrongTyB(t:Ty):Int:=wrongTyC t.kind t.n t.name t.args.length
def patLM(k:Int):Bool × Bool × Int × Int:=
 bif decide (k=2) then (true,false,0,0) else bif decide (k=3) then (false,true,0,0) else bif decide (k=4) then (true,false,0,1) else bif decide (k=5) then (false,false,2,8) else bif decide (k=6) then (true,false,1,1) else (false,false,0,0)
def wrongPatB(p:Pat):Int:=
 bif decide (p.kind<1) || decide (p.kind>6) then 29
 else bif !(patLM p.kind).1 && !decide (p.name=[]) || !(patLM p.kind).2.1 && !decide (p.n=0) || decide ((patLM p.kind).2.2.2=0)&&decide ((p.kids.length:Int)>0) then 29
 else bif decide (p.kind=4) && !conB p.name || (patLM p.kind).1 && !decide (p.kind=4) && !lowB p.name then 8
 else bif (patLM p.kind).2.1 && !isIntB p.n then 2
 else bif decide ((p.kids.length:Int)<(patLM p.kind).2.2.1) || decide ((p.kids.length:Int)>(patLM p.kind).2.2.2) then 19 else 0
def wrongConB(c:Con):Int:=
 bif !c.has&&(!decide (c.arg.kind=0) || !decide (c.arg.n=0) || !decide (c.arg.name=[]) || decide ((c.arg.args.length:Int)>0)) then 29 else bif !capB c.name then 8 else 0
structure Has where
 name:Bool:=false
 n:Bool:=false
 cases:Bool:=false
 decs:Bool:=false
 least:Int:=0
 most:Int:=0
def expLM(k:Int):Has:=
 bif decide (k=1) then { n:=true } else bif decide (k=2) then { name:=true } else bif decide (k=3) then { name:=true,most:=1 } else bif decide (k=4) then { least:=2,most:=8 } else
 bif decide (k=5) then { cases:=true } else bif decide (k=10) then { least:=2,most:=4611686018427387904 } else bif decide (k=8) then { least:=3,most:=3 } else bif decide (k=7) then { decs:=true,least:=1,most:=1 } else
 bif decide (k=9) || decide (k=11) then { cases:=true,least:=1,most:=1 } else bif decide (k=12) || decide (k=16) || decide (k=17) || decide (k=19) then { least:=1,most:=1 } else
 bif decide (k=13) then { n:=true,least:=2,most:=2 } else bif decide (k=6) || decide (k=14) || decide (k=15) || decide (k=18) then { least:=2,most:=2 } else {}
def wrongExpB(e:Exp):Int:=
 bif decide (e.kind<1) || decide (e.kind>20) || !(expLM e.kind).name && !decide (e.name=[]) || !(expLM e.kind).n && !decide (e.n=0) || !(expLM e.kind).cases&&decide ((e.cases.length:Int)>0) || !(expLM e.kind).decs&&decide ((e.decs.length:Int)>0) || decide ((expLM e.kind).most=0)&&decide ((e.kids.length:Int)>0) then 29
 else bif decide (e.kind=2) && !lowB e.name || decide (e.kind=3) && !conB e.name then 8
 else bif decide (e.kind=1) && !isIntB e.n || decide (e.kind=13)&&(decide (e.n<1) || decide (e.n>9)) then 2
 else bif decide ((e.kids.length:Int)<(expLM e.kind).least) || decide ((e.kids.length:Int)>(expLM e.kind).most) || (expLM e.kind).cases&&decide ((e.cases.length:Int)=0) || (expLM e.kind).decs&&decide ((e.decs.length:Int)=0) then 19 else 0
def wrongDecC(k:Int)(nm:Str)(p nl nc nf:Int)(inn:Bool):Int:=
 bif !(bif decide (k=1) then !decide (nf>0) && !(!decide (nm=[]) || !decide (p=0)) && !decide (nl>0) else bif decide (k=2) then !decide (nc>0) && !(!decide (nm=[]) || !decide (p=0)) && !decide (nl>0) else bif decide (k=3) then !decide (nc>0) && !decide (nf>0) else bif decide (k=4) then !decide (nc>0) && !decide (nf>0) && !(!decide (nm=[]) || !decide (p=0)) else false) || inn && !decide (k=1) && !decide (k=2) then 29
 else bif decide (k=1) then (bif !decide (nc=1) then 19 else 0)
 else bif decide (k=2) then (bif !decide (nf>0) then 19 else 0)
 else bif decide (k=3) then (bif !lowB nm then 8 else bif !(decide (p≥0)&&decide (p<=8)&&decide (nl>0)&&decide (nl<=64)) then 19 else 0)
 else bif decide (k=4) then (bif !decide (nl=1) then 19 else 0)
 else 0
def wrongDecB(d:Dec)(inn:Bool):Int:=wrongDecC d.kind d.name d.params d.cons.length d.case.length d.funs.length inn
inductive TNode where
 |dec (inn:Bool) (d:Dec)
 |exp (e:Exp)
 |pat (p:Pat)
 |ty (t:Ty) (at_:Int)
 |fn (f:Fun)
 |con (c:Con)
namespace TNode
def at_:TNode->Int
 |dec _ d=>d.at_
 |exp e=>e.at_
 |pat p=>p.at_
 |ty _ a=>a
 |fn f=>f.at_
 |con c=>c.at_
def wrong:TNode->Int × Str
 |dec inn d=>(wrongDecB d inn,d.name)
 |exp e=>(wrongExpB e,e.name)
 |pat p=>(wrongPatB p,p.name)
 |ty t _=>(wrongTyB t,t.name)
 |fn f=>(bif !lowB f.name then 8 else 0,f.name)
 |con c=>(wrongConB c,c.name)
def isNode:TNode->Bool
 |fn _|con _=>false
 |_=>true
def name:TNode->Str
 |dec _ d=>d.name
 |exp e=>e.name
 |pat p=>p.name
 |ty t _=>t.name
 |fn f=>f.name
 |con c=>c.name
def thing(r:List AV):TNode->AV
 |dec inn d=>.agg [.cp (d.cells++r),.bool inn,.nilp,.nilp,.nilp,.nilp,.nilp,.int .i64 d.at_]
 |exp e=>.agg [.nilp,.bool false,.nilp,.nilp,.cp (e.cells++r),.nilp,.nilp,.int .i64 e.at_]
 |pat p=>.agg [.nilp,.bool false,.nilp,.nilp,.nilp,.cp (p.cells++r),.nilp,.int .i64 p.at_]
 |ty t a=>.agg [.nilp,.bool false,.nilp,.nilp,.nilp,.nilp,.cp (t.cells++r),.int .i64 a]
 |fn f=>.agg [.nilp,.bool false,.cp (f.cells++r),.nilp,.nilp,.nilp,.nilp,.int .i64 f.at_]
 |con c=>.agg [.nilp,.bool false,.nilp,.cp (c.cells++r),.nilp,.nilp,.nilp,.int .i64 c.at_]
def cells:TNode->List AV
 |dec inn d=>.int .i64 1 :: .bool inn :: .int .i64 d.at_::(d.cells++(Exp.zero.cells++(Pat.zero.cells++(Ty.zero.cells++(Fun.zero.cells++Con.zero.cells)))))
 |exp e=>.int .i64 2 :: .bool false :: .int .i64 e.at_::(Dec.zero.cells++(e.cells++(Pat.zero.cells++(Ty.zero.cells++(Fun.zero.cells++Con.zero.cells)))))
 |pat p=>.int .i64 3 :: .bool false :: .int .i64 p.at_::(Dec.zero.cells++(Exp.zero.cells++(p.cells++(Ty.zero.cells++(Fun.zero.cells++Con.zero.cells)))))
 |ty t a=>.int .i64 4 :: .bool false :: .int .i64 a::(Dec.zero.cells++(Exp.zero.cells++(Pat.zero.cells++(t.cells++(Fun.zero.cells++Con.zero.cells)))))
 |fn f=>.int .i64 5 :: .bool false :: .int .i64 f.at_::(Dec.zero.cells++(Exp.zero.cells++(Pat.zero.cells++(Ty.zero.cells++(f.cells++Con.zero.cells)))))
 |con c=>.int .i64 6 :: .bool false :: .int .i64 c.at_::(Dec.zero.cells++(Exp.zero.cells++(Pat.zero.cells++(Ty.zero.cells++(Fun.zero.cells++c.cells)))))
abbrev enc(n:TNode):AV:=.agg n.cells
@[go_sem] theorem cells_len(n:TNode):n.cells.length=47:=by
  cases n<;>simp[go_sem,cells,Con.cells,Con.zero,Fun.zero,Case.zero,Exp.zero,Pat.zero,Ty.zero,Dec.zero]
def inn:TNode->Bool
 |dec i _=>i
 |_=>false
def ok:TNode->Prop
 |dec _ d=>d.name.length<2^40
 |exp e=>e.name.length<2^40/\e.kids.length<2^40/\-9223372036854775808<=e.n/\e.n<=9223372036854775807
 |pat p=>p.name.length<2^40/\-9223372036854775808<=p.n/\p.n<=9223372036854775807
 |ty t _=>t.name.length<2^40
 |fn f=>f.name.length<2^40
 |con c=>c.name.length<2^40
end TNode
structure TBad where
 kind:Int
 at_:Int
 name:Str
 deriving DecidableEq
def TBad.cells(b:TBad):List AV:=[.int .i64 b.kind,.int .i64 b.at_,.str b.name]
abbrev TBad.enc(b:TBad):AV:=.agg b.cells
def TBad.zero:TBad:=⟨0,0,[]⟩
def mkBad(e at_:Int)(nm:Str):TBad:=bif decide (e=0) then .zero else ⟨e,at_,bif !decide (e=8) then [] else nm⟩
def TNode.bad(n:TNode):TBad:=mkBad n.wrong.1 n.at_ n.wrong.2
mutual
def nodesTy(a:Int):Ty->List TNode
 |.mk k n s l b=>.ty (.mk k n s l b) a::nodesTys a l
def nodesTys(a:Int):List Ty->List TNode
 |[]=>[]
 |t::l=>nodesTy a t++nodesTys a l
end
mutual
def nodesPat:Pat->List TNode
 |.mk k a s n l b=>.pat (.mk k a s n l b)::nodesPats l
def nodesPats:List Pat->List TNode
 |[]=>[]
 |t::l=>nodesPat t++nodesPats l
end
mutual
theorem Q7l(a:Int):∀ t:Ty,(nodesTy a t).length=t.size
 |.mk k n s l b=>by have:=Q6m a l;simp only[nodesTy,Ty.size,Yg];omega
theorem Q6m(a:Int):∀ l:List Ty,(nodesTys a l).length=Ty.sizes l
 |[]=>rfl
 |t::l=>by have h1:=Q7l a t;have h2:=Q6m a l;simp only[nodesTys,Ty.sizes,Ye];omega
end
mutual
theorem Q6l:∀ t:Pat,(nodesPat t).length=t.size
 |.mk k a s n l b=>by have:=Q5D l;simp only[nodesPat,Pat.size,Yg];omega
theorem Q5D:∀ l:List Pat,(nodesPats l).length=Pat.sizes l
 |[]=>rfl
 |t::l=>by have h1:=Q6l t;have h2:=Q5D l;simp only[nodesPats,Pat.sizes,Ye];omega
end
theorem Qin(a b c:Int):a<=c->b<=c->maxI a b<=c:=by unfold maxI;intros;split<;>omega
theorem Qil(a b:Int):a<=maxI a b:=by unfold maxI;split<;>omega
mutual
def deepTy:Ty->Int
 |.mk _ _ _ l _=>deepTys l 0+1
def deepTys:List Ty->Int->Int
 |[],n=>n
 |t::l,n=>deepTys l (maxI n (deepTy t))
end
mutual
def deepPat:Pat->Int
 |.mk _ _ _ _ l _=>deepPats l 0+1
def deepPats:List Pat->Int->Int
 |[],n=>n
 |t::l,n=>deepPats l (maxI n (deepPat t))
end
mutual
theorem Qfm:∀ t:Ty,0<=deepTy t/\deepTy t<=t.size
 |.mk _ _ _ l _=>by have:=Q8q l 0;simp only[deepTy,Ty.size] at *;omega
theorem Q8q:∀ (l:List Ty) (n:Int),n<=deepTys l n/\deepTys l n<=max n (Ty.sizes l)
 |[],n=>by simp only[deepTys,Ty.sizes];omega
 |t::l,n=>by
   have h1:=Qfm t
   have h2:=Q8q l (maxI n (deepTy t))
   simp only[deepTys,Ty.sizes,maxI] at *
   split at h2<;>split<;>omega
end
mutual
theorem Q8p:∀ t:Pat,0<=deepPat t/\deepPat t<=t.size
 |.mk _ _ _ _ l _=>by have:=Q7b l 0;simp only[deepPat,Pat.size] at *;omega
theorem Q7b:∀ (l:List Pat) (n:Int),n<=deepPats l n/\deepPats l n<=max n (Pat.sizes l)
 |[],n=>by simp only[deepPats,Pat.sizes];omega
 |t::l,n=>by
   have h1:=Q8p t
   have h2:=Q7b l (maxI n (deepPat t))
   simp only[deepPats,Pat.sizes,maxI] at *
   split at h2<;>split<;>omega
end
def countN(l:List TNode):Nat:=(l.filter TNode.isNode).length
def firstBad:List TNode->TBad
 |[]=>.zero
 |n::l=>bif decide (n.bad.kind=0) then firstBad l else n.bad
def rightN(l:List TNode)(deep:Int):TBad:=
 bif decide (countN l>8192) then ⟨4,0,[]⟩ else bif decide (deep>100) then ⟨7,0,[]⟩ else firstBad l
end Go.Am
namespace Go.Am
open Go
section
variable {H:Type} {ti:TypeId->TI}
def Fields(ti:TypeId->TI)(n:Nat):List (Nat × TypeId)->List (DataW H)->List (List AV)->Prop
 |[],[],[]=>True
 |f::fs,d::ds,l::ls=>conv ti n f.2 d=some l/\Fields ti n fs ds ls
 |_,_,_=>False
theorem Qab(n:Nat):∀ (fs:List (Nat × TypeId)) (ds:List (DataW H)) (ls:List (List AV)),fs.length=ds.length->((fs.zip ds).mapM λp=>conv ti n p.1.2 p.2)=some ls->Fields ti n fs ds ls
 |[],[],ls,_,h=>by simp at h;subst h;trivial
 |f::fs,d::ds,ls,hl,h=>by
   rw[List.zip_cons_cons,List.mapM_cons] at h
   cases h1:conv ti n f.2 d with
   |none=>simp[h1] at h
   |some l=>
     cases h2:((fs.zip ds).mapM λp=>conv ti n p.1.2 p.2) with
     |none=>simp[h1,h2] at h
     |some ls'=>
       simp[h1,h2] at h
       subst h
       exact⟨h1,Qab n fs ds ls' (by simpa using hl) h2⟩
 |[],_::_,_,hl,_=>by simp at hl
 |_::_,[],_,hl,_=>by simp at hl
theorem Q4u{n:Nat}{t:TypeId}{d:DataW H}{l:List AV}{fs:List (Nat × TypeId)}(hk:(ti t).k = .struct fs)(h:conv ti (n+1) t d=some l):∃ parts ls,d = .agg parts/\Fields ti n fs parts ls/\l=ls.flatten:=by
 simp only[conv,hk] at h
 split at h<;>first|(cases h;done)|skip
 all_goals try (rename_i hx;cases hx;done)
 rename_i fs' parts hx
 cases hx
 split at h
 ·rename_i hl
  obtain⟨ls,h1,rfl⟩:=Option.map_eq_some_iff.1 h
  exact⟨parts,ls,rfl,Qab n _ _ _ hl h1,rfl⟩
 ·cases h
theorem Q7D{n:Nat}{t:TypeId}{d:DataW H}{l:List AV}{k:IntKind}(hk:(ti t).k = .int k)(h:conv ti n t d=some l):∃ x,d = .lit (.int k x)/\l=[.int k x]/\(Lit.int k x).wf=true:=by
 cases n with
 |zero=>simp[conv] at h
 |succ n=>
   simp only[conv,hk] at h
   split at h<;>first|(cases h;done)|skip
   all_goals try (rename_i hx;cases hx;done)
   rename_i k' j x hx
   cases hx
   split at h
   ·rename_i hc
    obtain⟨rfl,hc⟩:=hc
    cases h
    exact⟨x,rfl,rfl,hc⟩
   ·cases h
theorem QgI{n:Nat}{t:TypeId}{d:DataW H}{l:List AV}(hk:(ti t).k = .str)(h:conv ti n t d=some l):∃ s,d = .lit (.string s)/\l=[.str s]:=by
 cases n with
 |zero=>simp[conv] at h
 |succ n=>
   simp only[conv,hk] at h
   split at h<;>first|(cases h;done)|skip
   all_goals try (rename_i hx;cases hx;done)
   rename_i s hx
   split at h
   ·cases h
    exact⟨s,rfl,rfl⟩
   ·cases h
theorem Qej{n:Nat}{t e:TypeId}{d:DataW H}{l:List AV}(hk:(ti t).k = .slice e)(h:conv ti (n+1) t d=some l):(d = .nil/\l=[.nils])\/∃ elems spare xs,d = .slice elems spare/\(elems.mapM λd=>(conv ti n e d).bind (ofCells (ti e)))=some xs/\l=[.sl xs]:=by
 simp only[conv,hk] at h
 split at h<;>first|(cases h;done)|skip
 all_goals try (rename_i hx;cases hx;done)
 ·cases h
  exact .inl ⟨rfl,rfl⟩
 ·rename_i e' elems spare hx
  cases hx
  split at h
  ·obtain⟨xs,h1,rfl⟩:=Option.map_eq_some_iff.1 h
   exact .inr ⟨elems,spare,xs,rfl,h1,rfl⟩
  ·cases h
end
end Go.Am
namespace Go.Proofs.YtobelgghegmhhaaGreatDoor
open Go Go.Am
set_option maxRecDepth 4000
section
variable {H:Type}
theorem Qa8{τ:Type}{cells:τ->List AV}{G:Nat->τ->Prop}{GL:Nat->List τ->Prop}{e:TypeId}{n:Nat}(ha:(C.ti e).isAgg=true)(h0:GL 0 [])(h1:∀ m k t L,G m t->GL k L->GL (m+k) (t::L))
  (he:∀ (d:DataW H) l,conv C.ti n e d=some l->Rows.uptoBulk d<2^30->∃ t,l=cells t/\G (Rows.uptoBulk d) t):∀ (ds:List (DataW H)) (xs:List AV),(ds.mapM λd=>(conv C.ti n e d).bind (ofCells (C.ti e)))=some xs->Rows.uptoBulkAll ds<2^30->∃ L,xs=L.map (λt=>.agg (cells t))/\GL (Rows.uptoBulkAll ds) L
 |[],xs,h,_=>by simp at h;subst h;exact⟨[],rfl,by simpa only[Rows.uptoBulkAll] using h0⟩
 |d::ds,xs,h,hb=>by
   simp only[Rows.uptoBulkAll] at hb |-
   rw[List.mapM_cons] at h
   cases h2:(conv C.ti n e d) with
   |none=>simp[h2] at h
   |some l=>
     obtain⟨t,rfl,ht⟩:=he d l h2 (by omega)
     cases h3:ofCells (C.ti e) (cells t) with
     |none=>simp[h2,h3] at h
     |some v=>
       cases h4:(ds.mapM λd=>(conv C.ti n e d).bind (ofCells (C.ti e))) with
       |none=>simp[h2,h3,h4] at h
       |some ys=>
         simp[h2,h3,h4] at h
         subst h
         obtain⟨L,rfl,hL⟩:=Qa8 ha h0 h1 he ds ys h4 (by omega)
         have:v = .agg (cells t):=by
          unfold ofCells at h3
          rw[ha,cond_true] at h3
          split at h3<;>cases h3
          rfl
         subst this
         exact⟨t::L,rfl,h1 _ _ _ _ ht hL⟩
theorem Qg4{τ:Type}{cells:τ->List AV}{G:Nat->τ->Prop}{GL:Nat->List τ->Prop}{t e:TypeId}{n:Nat}(hk:(C.ti t).k = .slice e)(ha:(C.ti e).isAgg=true)(h0:GL 0 [])(h1:∀ m k t L,G m t->GL k L->GL (m+k) (t::L))
  (he:∀ (d:DataW H) l,conv C.ti n e d=some l->Rows.uptoBulk d<2^30->∃ t,l=cells t/\G (Rows.uptoBulk d) t) (d:DataW H) (l:List AV) (h:conv C.ti (n+1) t d=some l) (hb:Rows.uptoBulk d<2^30):∃ L b k,l=[encS b (L.map λt=>.agg (cells t))]/\GL k L/\k+1<=Rows.uptoBulk d:=by
 rcases Qej hk h with ⟨rfl,rfl⟩|⟨elems,spare,xs,rfl,h2,rfl⟩
 ·exact⟨[],true,0,rfl,h0,by simp only[Rows.uptoBulk];omega⟩
 ·simp only[Rows.uptoBulk] at hb |-
  obtain⟨L,rfl,hL⟩:=Qa8 ha h0 h1 he elems xs h2 (by omega)
  exact⟨L,false,_,rfl,hL,by omega⟩
def GTy(b:Nat)(t:Ty):Prop:=t.size<=b/\∀ a,∀ n ∈ nodesTy a t,n.ok
def GTys(b:Nat)(l:List Ty):Prop:=Ty.sizes l<=b/\∀ a,∀ n ∈ nodesTys a l,n.ok
theorem GTys.nil:GTys 0 []:=⟨Yd _,by simp[nodesTys]⟩
theorem GTys.cons(m k:Nat)(t:Ty)(L:List Ty)(h:GTy m t)(g:GTys k L):GTys (m+k) (t::L):=by
 refine⟨by have:=h.1;have:=g.1;simp only[Ty.sizes];omega,λa n hn=>?_⟩
 simp only[nodesTys,List.mem_append] at hn
 rcases hn with hn|hn
 ·exact h.2 a n hn
 ·exact g.2 a n hn
theorem wf64{x:Int}(h:(Lit.int .i64 x).wf=true):-9223372036854775808<=x/\x<=9223372036854775807:=by
 simp only[Lit.wf,Ya,decide_eq_true_eq] at h
 exact h
end
end Go.Proofs.YtobelgghegmhhaaGreatDoor
namespace Go.Am
open Go Go.RowKit
section
variable {H:Type} {enc:TypeId × Value->H} {P:Program}
theorem Left0.cell{w w':World}(h:Left0 w w'){b off:Nat}(hb:b<w.heap.size):w'.cell? ⟨b,off,none⟩=w.cell? ⟨b,off,none⟩:=by
 unfold World.cell?
 rw[h.heap b hb]
theorem Left0.sameAt{w w':World}(h:Left0 w w'){p:MemPlace}(hp:p.block<w.heap.size):w.sameAt w' p:=by
 cases p with
 |cell b off=>exact h.cell hp
 |map b=>exact h.heap b hp
theorem Left0.kept{w w':World}(h:Left0 w w')(may:MemPlace->Prop):w.keptBut w' may:=by
 refine⟨h.os,h.output,λi hi=>?_⟩
 rw[h.heap i hi]
 cases w.heap[i]? with
 |none=>rfl
 |some o=>cases o with
   |cells c t fr=>exact⟨rfl,rfl,rfl,λ_ _=>rfl⟩
   |map es clock=>exact .inr ⟨rfl,rfl⟩
   |_=>rfl
theorem Qa0{w w':World}{base:Nat}{spare:Nat->Bool}{held:Bool}:∀ {ts:List TypeId} {vs:List Value} {ds:List (DataW H)} {ps:List MemPlace},DataW.TrodAll enc P w base spare held ts vs ds ps->(∀ p ∈ ps,w.sameAt w' p)->DataW.TrodAll enc P w' base spare held ts vs ds ps
 |[],[],[],_,h,_=>h
 |t::ts,v::vs,d::ds,_,h,hs=>by
   obtain⟨p,q,⟨n,h1⟩,h2,rfl⟩:=h
   exact⟨p,q,⟨n,DataW.trod_carry n _ _ _ h1 λx hx=>hs x (Ym _ hx)⟩,Qa0 h2 λx hx=>hs x (Yq _ hx),rfl⟩
theorem QfQ{f:Func}{s:ChangeSpec}{apart fresh handsOn:Bool}{W W':World}{args:Array Value}{v:Value}{ds gs:List (DataW H)}{before pv:List MemPlace}
  (hW:DataW.Whole enc P f.params.toList s.vars apart W args.toList ds gs before)
  (hres:∀ (b:Nat) (sp:Nat->Bool) (hd:Bool),DataW.TrodAll enc P W' b sp hd f.resultTypes.toList (v.resultList f.resultTypes.size) (s.fn H (ds++gs)).results [])
  (hargs:∀ sp:Nat->Bool,(∀ p ∈ before,sp p.block=true)->∃ pa,DataW.TrodAll enc P W' 0 sp true f.params.toList args.toList (s.fn H (ds++gs)).args pa)
  (hvars:∀ sp:Nat->Bool,DataW.TrodVars enc P W' sp s.vars (s.fn H (ds++gs)).vars pv) (hl:Left0 W W') :
  s.post enc P f apart fresh handsOn false W args v W':=by
 have hold:∀ p ∈ before,(λb=>decide (b<W.heap.size)) p.block=true:=λp hp=>by simpa using hW.lt p hp
 obtain⟨pa,ha⟩:=hargs (λb=>decide (b<W.heap.size)) hold
 exact⟨ds,gs,before,[],pa,pv,hW,hres _ _ _,ha,hvars _,hl.kept _,λh=>by cases h⟩
end
end Go.Am
namespace Go.Proofs.YtobelgghegmhhaaGreatDoor
open Go Go.Am Go.RowKit
theorem types:∀ t,TyOK Tryz.prog C t:=Qhz Qgi λt ht=>by
 show tis.getD t {}={}
 rw[List.getD_eq_getElem?_getD,List.getElem?_eq_none ht]
 rfl
theorem Qeg{P:Program}{W:World}{r:Reach}{base:Nat}{t:TypeId}{fs:Array Field}{v:Value}(hu:P.underlying t=some (.struct fs))(h:Value.okWide P W r base t v):∃ cs,v = .agg cs:=by
 unfold Value.okWide at h
 simp only[hu] at h
 obtain⟨cs,rfl,_⟩:=h
 exact⟨cs,rfl⟩
theorem kids:Kids Tryz.prog (· < Tryz.prog.types.size):=kids_rows (by kernel_rfl) (by kernel_rfl)
theorem full:∀ t e,t<Tryz.prog.types.size->Tryz.prog.underlying t=some (.slice e)->0<Tryz.prog.cellsOf e:=λt e ht hu=>slices_full_of Tryz.prog (by kernel_rfl) t e ht hu
theorem again{H:Type}{enc:TypeId × Value->H}{W W':World}{ts:List TypeId}{vs:List Value}{ds:List (DataW H)}{ps:List MemPlace}(hts:∀ t ∈ ts,t<Tryz.prog.types.size)(h:DataW.TrodAll enc Tryz.prog W 0 (λ_=>true) true ts vs ds ps)(hl:Left0 W W')(hlt:∀ p ∈ ps,p.block<W.heap.size)
  (sp:Nat->Bool) (hsp:∀ p ∈ ps,sp p.block=true):∃ pa,DataW.TrodAll enc Tryz.prog W' 0 sp true ts vs ds pa:=
 ⟨ps,Qa0 (DataW.TrodAll.respare kids full hts h hsp) λp hp=>hl.sameAt (hlt p hp)⟩
open Go Go.Am Go.RowKit
theorem QdG{P:Program}{W:World}{r:Reach}{base:Nat}{t:TypeId}{v:Value}(hu:(match P.underlying t with|some (.struct _)=>true|_=>false)=true)(h:Value.okWide P W r base t v):∃ cs,v = .agg cs:=by
 cases hs:P.underlying t with
 |none=>rw[hs] at hu;cases hu
 |some d=>
   rw[hs] at hu
   cases d<;>first|(cases hu;done)|exact Qeg hs h
theorem Qgl{κ:Kn}{l:List AV}{cs:Array Value}(h:VRl κ l cs.toList)(ho:Ones cs.toList):VR κ (.agg l) (.agg cs):=by
 simp only[VR]
 exact⟨cs.toList,h,ho,by rw[Array.toArray_toList]⟩
theorem QcT{κ:Kn}{a:AV}{l:List AV}{v:Value}{vs:List Value}(h:VR κ a v)(g:VRl κ l vs):VRl κ (a::l) (v::vs):=⟨v,vs,rfl,h,g⟩
end Go.Proofs.YtobelgghegmhhaaGreatDoor
namespace Go.Am
open Go Go.RowKit
section
variable {C:Cfg} {κ:Kn} {B:Nat} {s:St} {w w':World}
theorem Q76(hb:Below w.heap.size w w'):w.grownBy w' none:=⟨hb.os,hb.tape,hb.output,hb.size,λk hk _=>hb.block k hk⟩
theorem Inv.below(h:Inv C κ B s w)(hb:Below w.heap.size w w'):Inv C κ B s w':=h.grown (Q76 hb)
theorem Mv.below(h:Inv C κ B s w)(hb:Below w.heap.size w w'):Mv κ κ w w':=Mv.grown κ (Q76 hb)
theorem Q9f:∀ {l:List AV} {cs:List Value},l.length=cs.length->(∀ (i:Nat) (a:AV) (v:Value),l[i]? = some a->cs[i]? = some v->VR κ a v)->VRl κ l cs
 |[],cs,h,_=>by simp only[Yp] at h;simp only[VRl];exact List.length_eq_zero_iff.1 h.symm
 |a::l,[],h,_=>by simp at h
 |a::l,v::cs,h,g=>by
   simp only[VRl]
   exact⟨v,cs,rfl,g 0 a v rfl rfl,Q9f (by simpa using h) λi x y hx hy=>g (i+1) x y (by simpa using hx) (by simpa using hy)⟩
theorem QaD{H:Type}{enc:TypeId × Value->H}{P:Program}{base:Nat}{sp:Nat->Bool}{held:Bool}{n fuel:Nat}{t e:TypeId}{cs:List Value}{d:DataW H}{ps:List MemPlace}
  (hu:P.underlying t=some (.array n e)) (he:P.underlying e=some .string) (h1:P.cellsOf e=1) (hn:P.cellsOf t=n) (h:DataW.trod enc P w base sp held fuel t cs=some (d,ps)) (l:List (List UInt8)) (hd:d = .agg (l.map λs=>.lit (.string s))) (κ:Kn) :
  VRl κ (l.map AV.str) cs/\Ones cs:=by
 obtain⟨xs,m,rfl,hx,hc,hxn,hel⟩:=DataW.trod_array hu h
 simp only[Prod.mk.injEq] at hx
 obtain⟨hx1,-⟩:=hx
 rw[hd] at hx1
 have hx2:l.map (λs=>(DataW.lit (.string s):DataW H))=xs.map (·.1):=by simpa using hx1
 have hll:l.length=n:=by have:=congrArg List.length hx2;simp at this;omega
 have hcl:cs.length=n:=by rw[hc,hn]
 have key:∀ (i:Nat) (v:Value),cs[i]? = some v->∃ b:ByteArray,v = .string b/\l[i]? = some b.data.toList:=by
  intro i v hv
  have hi:i<n:=by rw[<-hcl];exact (List.getElem?_eq_some_iff.1 hv).1
  have ht:=hel i hi
  rw[h1,Nat.mul_one] at ht
  have hi2:i<xs.length:=by rw[hxn];exact hi
  rw[List.getElem?_eq_getElem hi2] at ht
  obtain⟨b,hb1,hb2,-⟩:=DataW.trod_string he ht
  have hv2:(cs.drop i).take 1=[v]:=by
   have hlt:=(List.getElem?_eq_some_iff.1 hv).1
   rw[List.drop_eq_getElem_cons hlt,List.take_succ_cons,List.take_zero]
   rw[List.getElem?_eq_getElem hlt] at hv
   rw[Option.some.inj hv]
  rw[hv2] at hb1
  cases hb1
  refine⟨b,rfl,?_⟩
  have hg:=congrArg (λq=>q[i]?) hx2
  simp only[List.getElem?_map,List.getElem?_eq_getElem hi2,Option.map_some,hb2] at hg
  cases hli:l[i]? with
  |none=>rw[hli] at hg;simp at hg
  |some y=>rw[hli] at hg;simp at hg;rw[hg]
 refine⟨Q9f (by simp[hll,hcl]) λi a v ha hv=>?_,λv hv=>?_⟩
 ·obtain⟨b,rfl,hb⟩:=key i v hv
  rw[List.getElem?_map,hb] at ha
  cases ha
  simp only[VR]
  exact⟨b,rfl,rfl⟩
 ·obtain⟨i,hi⟩:=List.mem_iff_getElem?.1 hv
  obtain⟨b,rfl,-⟩:=key i v hi
  rfl
end
end Go.Am
namespace Go.Proofs.YtobelgghegmhhaaGreatDoor
open Go Go.Am
theorem Qis  : ∀ n,QuietOK C (call C n):=λ_ _ _ h=>by cases (show false=true from h)
end Go.Proofs.YtobelgghegmhhaaGreatDoor
namespace Go.Am
open Go Go.RowKit
section
variable {C:Cfg} {κ:Kn} {B:Nat} {s:St} {w w':World}
def Kn.dropTok(κ:Kn)(k L:Nat)(e:TypeId):Kn:={ κ with tok:=λi=>if i=k then some (L,e,undef) else κ.tok i }
theorem Qen{k L:Nat}{e:TypeId}{v:Value}(hk:κ.tok k=some (L,e,v)):LE κ (κ.dropTok k (L+1) e):=
 ⟨λ_ _ _ h=>h,λ_ _ h=>h,λi L1 e1 v1 h1=>by
   by_cases hi:i=k
   ·subst hi
    rw[hk] at h1
    cases h1
    exact⟨L+1,undef,by simp[Kn.dropTok],by omega,λh=>by omega⟩
   ·exact⟨L1,v1,by simp only[Kn.dropTok,hi,if_false];exact h1,Yd _,λ_=>rfl⟩,λ_ _ h=>h⟩
theorem Qeo{k L:Nat}{e:TypeId}{b:Nat}(h:Wr (κ.dropTok k L e) b):Wr κ b:=by
 rcases h with h|⟨i,L1,e1,v1,h1,h2⟩
 ·exact .inl h
 ·simp only[Kn.dropTok] at h1
  split at h1
  ·cases h1;cases h2
  ·exact .inr ⟨i,L1,e1,v1,h1,h2⟩
theorem Inv.dropTok(h:Inv C κ B s w){k L g:Nat}{e:TypeId}{v:Value}(hk:κ.tok k=some (L,e,v))(hg:v.ownBlock=some g)(hw:w.grownBy w' (some g))(hc:∀ o,w'.cell? ⟨g,o,none⟩=w.cell? ⟨g,o,none⟩) :
  Inv C (κ.dropTok k (L+1) e) B { s with toks:=s.toks.set k (L+1) } w'/\Mv κ (κ.dropTok k (L+1) e) w w':=by
 have hle:=Qen hk
 have hkl:k<s.toks.length:=(List.getElem?_eq_some_iff.1 (h.tokn k L e v hk)).1
 have hwr:Wr κ g:=.inr ⟨k,L,e,v,hk,hg⟩
 have hgB:=(h.wr_lt hwr).1
 have tok':∀ {i L1 e1 v1 b},(κ.dropTok k (L+1) e).tok i=some (L1,e1,v1)->v1.ownBlock=some b->i≠k/\κ.tok i=some (L1,e1,v1):=λ{i L1 e1 v1 b} h1 h2=>by
  simp only[Kn.dropTok] at h1
  split at h1
  ·cases h1;cases h2
  ·rename_i hi;exact⟨hi,h1⟩
 have hne:∀ {l b},κ.loc l=some b->κ.gone l=false->b≠g:=λhl gl e=>by subst e;exact h.loctok _ _ k L _ v hl gl hk hg
 refine⟨⟨λb o u hu=>?_,λl x hx=>?_,h.locn,λi L1 hi=>?_,λi L1 e1 v1 h1=>?_,h.locinj,λi j L1 e1 v1 L2 e2 v2 b hi hj bi bj=>?_,λl b i L1 e1 v1 hl gl hi hv=>?_,h.locim,h.lv,λl e1 sz c hcp=>?_,h.bls,
   h.tabs.mono (λ_ v k=>⟨v,k⟩) λb hb hs _=>hw.block b hs (λe=>by cases e;omega)⟩,
  ⟨hle,hw.os,hw.tape,hw.output,hw.size,λb hb hn=>hw.block b hb (λe=>by cases e;exact hn hwr),λb hb=>.inl (Qeo hb),λ_ _ _ k _ _=>k⟩⟩
 ·by_cases hb:b=g
  ·subst hb
   rw[hc]
   exact h.im b o u hu
  ·exact hw.cell (h.im b o u hu) (λe=>hb (by cases e;rfl))
 ·obtain⟨b,o,h1,h2,h3,h4⟩:=h.locs l x hx
  by_cases hd:x = .dead
  ·subst hd
   exact Q2K h1 h2 h3 hw.size
  ·exact⟨b,o,h1,h2,by rw[hw.block b (Array.getElem?_eq_some_iff.1 h3).1 (λe=>hne h1 (h.lv l x hx hd) (by cases e;rfl))];exact h3,h4.mono hle⟩
 ·by_cases hik:k=i
  ·subst hik
   rw[List.getElem?_set_self hkl] at hi
   cases hi
   exact⟨e,undef,by simp[Kn.dropTok],λg' hg'=>by cases hg'⟩
  ·rw[List.getElem?_set_ne hik] at hi
   obtain⟨e1,v1,h1,h2⟩:=h.toks i L1 hi
   refine⟨e1,v1,by simp only[Kn.dropTok,Ne.symm hik,if_false];exact h1,λg1 h3=>?_⟩
   obtain⟨xs,h4,h5⟩:=h2 g1 h3
   exact⟨xs,h4.kept hw (.inr λe'=>hik (h.tokinj k i L e v L1 e1 v1 g hk h1 hg e')),h5⟩
 ·simp only[Kn.dropTok] at h1
  split at h1
  ·rename_i hi;subst hi;cases h1;exact List.getElem?_set_self hkl
  ·rename_i hi;rw[List.getElem?_set_ne (Ne.symm hi)];exact h.tokn i L1 e1 v1 h1
 ·exact h.tokinj i j L1 e1 v1 L2 e2 v2 b (tok' hi bi).2 (tok' hj bj).2 bi bj
 ·exact h.loctok l b i L1 e1 v1 hl gl (tok' hi hv).2 hv
 ·obtain⟨k1,k2,k3,k4,k5⟩:=h.caps l e1 sz c hcp
  refine⟨k1,k2,k3,k4,λgl b hb=>?_⟩
  obtain⟨cs,k6,k7⟩:=k5 gl b hb
  exact⟨cs,by rw[hw.block b (Array.getElem?_eq_some_iff.1 k6).1 (λe=>hne hb gl (by cases e;rfl))];exact k6,k7⟩
theorem Qdc(w:World)(p:Addr)(n:Nat)(a:Addr):(w.freeze p n).cell? a=w.cell? a:=by
 unfold World.freeze
 split
 ·rfl
 ·simp only[World.cell?,Array.getElem?_modify]
  by_cases h:p.block=a.block
  ·rw[if_pos h]
   cases hb:w.heap[a.block]? with
   |none=>rfl
   |some o=>cases o<;>rfl
  ·rw[if_neg h]
theorem QbQ(w:World)(p:Addr)(n:Nat):w.grownBy (w.freeze p n) (some p.block):=by
 unfold World.freeze
 split
 ·exact⟨rfl,rfl,rfl,Yd _,λ_ _ _=>rfl⟩
 ·refine⟨rfl,rfl,rfl,by simp,λk hk hne=>?_⟩
  simp only[Array.getElem?_modify]
  rw[if_neg (λe=>hne (by rw[e]))]
theorem Q78:∀ {l:List AV} {bs:List UInt8} {vs:List Value},bytesAV l=some bs->VRl κ (flat l) vs->vs=bs.map λb=>Value.int .u8 b.toNat
 |[],bs,vs,h,hv=>by cases h;simpa [flat,VRl] using hv
 |x::r,bs,vs,h,hv=>by
   cases x<;>(try simp only[bytesAV] at h)
   case int k n=>
    cases k<;>(try simp only[bytesAV] at h)
    case u8=>
     split at h
     ·rename_i hn
      cases hr:bytesAV r with
      |none=>rw[hr] at h;cases h
      |some l=>
        rw[hr] at h
        cases h
        have hf:flat (AV.int IntKind.u8 n::r)=AV.int IntKind.u8 n::flat r:=rfl
        rw[hf] at hv
        simp only[VRl,VR] at hv
        obtain⟨u,us,rfl,rfl,h2⟩:=hv
        rw[Q78 hr h2]
        have:((n.toNat.toUInt8).toNat:Int)=n:=by
         simp only[Nat.toUInt8,UInt8.toNat_ofNat']
         omega
        simp only[Yi,this]
     ·cases h
    all_goals cases h
   all_goals cases h
theorem Q77:∀ {l:List AV} {bs:List UInt8},bytesAV l=some bs->bs.length=l.length
 |[],bs,h=>by cases h;rfl
 |x::r,bs,h=>by
   cases x<;>(try simp only[bytesAV] at h)
   case int k n=>
    cases k<;>(try simp only[bytesAV] at h)
    case u8=>
     split at h
     ·cases hr:bytesAV r with
      |none=>rw[hr] at h;cases h
      |some l=>rw[hr] at h;cases h;simp[Q77 hr]
     ·cases h
    all_goals cases h
   all_goals cases h
end
end Go.Am
namespace Go.Proofs.YtobelgghegmhhaaGreatDoor
open Go Go.Proofs Go.RowKit
set_option maxHeartbeats 2000000 in
set_option maxRecDepth 100000 in
theorem Qd5(b g cap:Nat)(cur:Array Value)(l:List UInt8)(w:World)(c1:w.cell? ⟨b,1,none⟩=some (.slice (some ⟨g,0,none⟩) l.length cap))
  (hg:w.heap[g]? = some (.cells cur 5 (0,0))) (h0:l≠[]) (hn:l.length<=cap) (hcm:cap<=maxLen) (hcs:cur.size=cap)
  (hcell:∀ j x,l[j]? = some x->w.cell? ⟨g,j,none⟩=some (.int .u8 x.toNat)) :
  Calls Tryz.prog 86 #[.pointer (some ⟨b,0,none⟩)] w λe w'=>e = .returned (.string ⟨l.toArray⟩)/\w'=w.drew.freeze ⟨g,0,none⟩ l.length:=by
 have hl0:l.length≠0:=by simpa using h0
 replace c1:w.drew.cell? ⟨b,1,none⟩=_:=c1
 have hSD:(Builtin.unsafeSliceData_ #[119] 143 #[.slice (some ⟨g,0,none⟩) l.length cap]).run Tryz.prog w.drew = .ok (.pointer (some ⟨g,0,none⟩)) w.drew:=
  Lib.run_unsafeSliceData_row _ _ _ _ _ _ (by omega)
 have hUS:(Builtin.unsafeString_ #[143,3] 9 #[.pointer (some ⟨g,0,none⟩),.int .i64 l.length]).run Tryz.prog w.drew = .ok (.string ⟨l.toArray⟩) (w.drew.freeze ⟨g,0,none⟩ l.length):=by
  refine Lib.run_unsafeString_row w.drew 143 3 9 5 (by kernel_rfl) (by kernel_rfl) g cur.size (by have hg':w.drew.heap[g]? = some (.cells cur 5 (0,0)):=hg;simp[World.shape?,hg']) l h0 (by omega) (by unfold maxLen at hcm;omega) λj x hx=>?_
  have:=hcell j x hx
  have e:(⟨g,0,none⟩:Addr).add j=⟨g,j,none⟩:=by unfold Addr.add;split<;>simp_all
  rw[e]
  exact this
 have mixed:Tryz.prog.follows .mixedOrders=true:=by kernel_rfl
 go_enter Tryz.func86,Tryz.ntmps86
 go_wp2
 go_region_o
 all_goals (go_wp2;go_ret;exact⟨rfl,rfl⟩)
set_option maxHeartbeats 2000000 in
set_option maxRecDepth 100000 in
theorem Qd4(b:Nat)(w:World)(c1:w.cell? ⟨b,1,none⟩=some (.slice none 0 0)) :
  Calls Tryz.prog 86 #[.pointer (some ⟨b,0,none⟩)] w λe w'=>e = .returned (.string ⟨#[]⟩)/\w'=w.drew:=by
 have hUS:=λW=>Lib.run_unsafeString_none (P:=Tryz.prog) W 143 3 9 none
 replace c1:w.drew.cell? ⟨b,1,none⟩=_:=c1
 have hSD:(Builtin.unsafeSliceData_ #[119] 143 #[.slice none 0 0]).run Tryz.prog w.drew = .ok (.pointer none) w.drew:=rfl
 have mixed:Tryz.prog.follows .mixedOrders=true:=by kernel_rfl
 go_enter Tryz.func86,Tryz.ntmps86
 go_wp2
 go_region_o
 all_goals (go_wp2;go_ret;exact⟨rfl,rfl⟩)
set_option maxHeartbeats 2000000 in
set_option maxRecDepth 100000 in
theorem Qd3(b:Nat)(w:World)(h0:w.cell? ⟨b,0,none⟩=some (.pointer (some ⟨b,0,none⟩))) :
  Calls Tryz.prog 105 #[.pointer (some ⟨b,0,none⟩)] w λe w'=>e = .returned (.tuple #[])/\w'=w:=by
 have mixed:Tryz.prog.follows .mixedOrders=true:=by kernel_rfl
 have t70:Tryz.prog.underlying 118=some (.pointer 121):=by kernel_rfl
 have hi:(Tryz.prog.info? 121).map (·.size)=some 2:=by kernel_rfl
 obtain⟨j,hj,_⟩:=Option.map_eq_some_iff.1 hi
 go_enter Tryz.func105,Tryz.ntmps105
 go_wp2
 rw[Lib.run_neq_ptr_same w _ t70 hj]
 go_wp2
 go_end0
 exact⟨rfl,rfl⟩
set_option maxHeartbeats 2000000 in
set_option maxRecDepth 100000 in
theorem QbG(b:Nat)(w:World)(h0:w.cell? ⟨b,0,none⟩=some (.pointer none))(hsh:w.shape? b=some (121,2))(hfz:w.frozen? ⟨b,0,none⟩=false) :
  Calls Tryz.prog 105 #[.pointer (some ⟨b,0,none⟩)] w λe w'=>e = .returned (.tuple #[])/\w'=w.setCell ⟨b,0,none⟩ (.pointer (some ⟨b,0,none⟩)):=by
 have mixed:Tryz.prog.follows .mixedOrders=true:=by kernel_rfl
 have t70:Tryz.prog.underlying 118=some (.pointer 121):=by kernel_rfl
 have t164:Tryz.prog.underlying 160=some .unsafePointer:=by kernel_rfl
 have lies:liesAt Tryz.prog Tryz.prog.depth 121 (2 / Tryz.prog.cellsOf 121) 0 121 1=true:=by kernel_rfl
 have hi:(Tryz.prog.info? 121).map (·.size)=some 2:=by kernel_rfl
 obtain⟨j,hj,hjs⟩:=Option.map_eq_some_iff.1 hi
 go_enter Tryz.func105,Tryz.ntmps105
 go_wp2
 rw[Lib.run_to_unsafe w ⟨b,0,none⟩ t70 t164 hj (by rw[hjs];decide) hsh (Nat.zero_lt_succ 1)]
 simp only[Result.andThen]
 rw[Oper.upon_value]
 go_wp2
 rw[run_callFunc_extern Tryz.func123 (by kernel_rfl) (by kernel_rfl) (by kernel_rfl) (e:=Extern.AbiNoEscape.same) (by kernel_rfl)]
 rw[Lib.run_noEscape]
 simp only[Result.andThen]
 rw[Oper.upon_value]
 go_wp2
 rw[Lib.run_from_unsafe w ⟨b,0,none⟩ t164 t70 hj hsh lies]
 simp only[Result.andThen]
 rw[Oper.upon_value]
 go_wp2
 go_end0
 exact⟨rfl,rfl⟩
set_option maxHeartbeats 2000000 in
set_option maxRecDepth 100000 in
theorem Qfy(w:World):Calls Tryz.prog 124 #[.slice none 0 0,.int .i64 0] w λe w'=>e = .returned (.slice none 0 0)/\w'=w:=by
 have mixed:Tryz.prog.follows .mixedOrders=true:=by kernel_rfl
 go_enter Tryz.func124,Tryz.ntmps124
 go_wp2
 go_ret
 exact⟨rfl,rfl⟩
set_option maxHeartbeats 2000000 in
set_option maxRecDepth 100000 in
theorem QgU(n:Nat)(h0:0<n)(hn:n*16<=281474976710656)(w:World):Calls Tryz.prog 124 #[.slice none 0 0,.int .i64 n] w λe w'=>∃ z:Array Value,z.size=grownCap w n 0 9/\e = .returned (.slice (some ⟨w.heap.size,0,none⟩) 0 (grownCap w n 0 9))/\w'=w.drew.alloc (.cells z 9):=by
 have mixed:Tryz.prog.follows .mixedOrders=true:=by kernel_rfl
 obtain⟨i,hi,hi2⟩:∃ i,Tryz.prog.info? 9=some i/\(i.zero,i.size,i.bytes)=(some (.string .empty),1,16):=Option.map_eq_some_iff.1 (by kernel_rfl:(Tryz.prog.info? 9).map (λi=>(i.zero,i.size,i.bytes))=some (some (.string .empty),1,16))
 simp only[Prod.mk.injEq] at hi2
 have hA:=Lib.run_append_nil_zeros (P:=Tryz.prog) w 101 3 101 9 _ _ .i64 .i64 (by kernel_rfl) (by kernel_rfl) hi hi2.1 n h0 (by omega) (by omega) (by rw[hi2.2.2];exact hn)
 have hb:Tryz.t9.bytes=16:=by kernel_rfl
 have hnx:Builtin.nextslicecap n 0=n:=nextslicecap_zero h0
 have hge:=grownCap_ge w n 0 9
 have hzs:(Builtin.zeroCells #[Value.string { data:=#[] }] n++Builtin.zeroCells #[Value.string { data:=#[] }] (grownCap w n 0 9 - n)).size=grownCap w n 0 9:=by
  simp[size_zeroCells];omega
 have c1:IntKind.i64.wrap ((n:Int) - 0)=n:=by rw[IntKind.wrap_i64];omega
 have c2:decide ((n:Int)<0)=false:=by simp
 have c3:decide ((n:Int)>0)=true:=by simp;omega
 go_enter Tryz.func124,Tryz.ntmps124
 go_wp2
 all_goals first|(go_ret;exact⟨_,hzs,rfl,rfl⟩)|(exfalso;simp only[hnx,hb] at *;omega)
open Go Go.Proofs Go.Am Go.RowKit
theorem var2{w:World}{b:Nat}{cs:Array Value}{t:TypeId}{fz:Nat × Nat}{u1 u2:Value}(h:w.heap[b]? = some (.cells cs t fz))(h2:cs.toList.take 2=[u1,u2]) :
  w.cell? ⟨b,0,none⟩=some u1/\w.cell? ⟨b,1,none⟩=some u2/\2<=cs.size:=by
 have hl:2<=cs.size:=by have:=congrArg List.length h2;simp at this;omega
 have g:∀ i,i<2->cs[i]? = [u1,u2][i]? :=λi hi=>by
  rw[<-h2,List.getElem?_take_of_lt hi,Array.getElem?_toList]
 refine⟨?_,?_,hl⟩
 ·simp only[World.cell?,h];exact g 0 (by omega)
 ·simp only[World.cell?,h];exact g 1 (by omega)
theorem Qd9:∀ l s v s',extBString 5 l s=some (v,s')->∀ κ B w vs,Inv C κ B s w->GlobOK C κ->B<=w.heap.size->VRl κ l vs->Called Tryz.prog 86 vs.toArray w (CPost C κ B w (.ret v) s'):=by
 intro l s v s' hg κ B w vs hi hG hB hv
 unfold extBString at hg
 split at hg
 ·rename_i loc
  obtain⟨v1,r1,rfl,h1,h2⟩:=hv
  simp only[VRl] at h2
  subst h2
  simp only[VR] at h1
  obtain⟨b,hb,rfl⟩:=h1
  split at hg
  ·rename_i y x hl
   obtain⟨b',o,q1,q2,q3,q4⟩:=hi.locs loc _ hl
   rw[hb] at q1
   cases q1
   obtain⟨cs,t,rfl,q5,⟨u1,us,e1,r1,u2,us2,e2,r2,r3⟩,q7⟩:=q4
   subst e2
   simp only[SRs] at r3
   subst r3
   obtain⟨c0,c1,hcs⟩:=var2 q3 e1
   have he:=enters_of Tryz.func86 (by kernel_rfl) (c:=body Tryz.f86) (by kernel_rfl) #[.pointer (some ⟨b,0,none⟩)] w
   split at hg
   ·cases hg
    simp only[SR,VR] at r2
    subst r2
    refine .inr ⟨he,(callsIn_wide (n:=0).2 (Qd4 b w c1)).mono λe w' h=>?_⟩
    obtain⟨rfl,rfl⟩:=h
    exact⟨κ,Mv.drew κ w,hi.drew,by simp only[OutR,SR,VR];exact⟨_,rfl,rfl⟩⟩
   ·rename_i k e lx
    split at hg
    ·rename_i bs hbs
     cases hq:(bs.isEmpty || !Nat.beq e 5) with
     |true=>rw[hq] at hg;cases hg
     |false=>
       rw[hq] at hg
       simp only[cond_false] at hg
       simp only[Bool.or_eq_false_iff,Bool.not_eq_false'] at hq
       obtain rfl:=Yf hq.2
       split at hg
       ·rename_i htk
        cases hg
        obtain⟨⟨a,n,c,rfl,hlen,hnc,hsp,sz,us,hcz,hH,hO,hV⟩,L,u,ht,hL,hLu⟩:=r2
        obtain⟨e',v',ht',hTI⟩:=hi.toks k lx.length htk
        rw[ht] at ht'
        cases ht'
        have hvu:=hLu rfl
        subst hvu
        obtain⟨xs,hown,hs0,hox,hxi,hxo⟩:=hTI a.block rfl
        have hbl:=Q77 hbs
        have hne:bs≠[]:=by intro h;subst h;simp at hq
        rcases hown.2 with ⟨h0,_⟩|⟨g,cap,cur,hve,hBg,hgh,hnc2,hcm,hcsz,htake⟩
        ·cases h0
        ·cases hve
         have hvs:=Q78 hbs hV
         have hsz:(C.ti 5).size=1:=by kernel_rfl
         rw[<-hbl] at c1 hnc2
         refine .inr ⟨he,(callsIn_wide (n:=0).2 (Qd5 b g _ cur bs w c1 hgh hne hnc2 hcm (by rw[hcsz,hsz,Nat.mul_one]) (λj x hx=>?_))).mono λe w' h=>?_⟩
         ·have:=hi.im _ _ _ (hH j (.int .u8 x.toNat) (by rw[hvs,List.getElem?_map,hx];rfl))
          simpa using this
         ·obtain⟨rfl,rfl⟩:=h
          have hd:=hi.drew
          obtain⟨hI',hM⟩:=hd.dropTok (w':=w.drew.freeze ⟨g,0,none⟩ bs.length) ht rfl (QbQ w.drew ⟨g,0,none⟩ bs.length) (λo=>Qdc _ _ _ _)
          refine⟨_,(Mv.drew κ w).trans hM,hI',?_⟩
          simp only[OutR,SR,VR]
          exact⟨_,rfl,rfl⟩
       ·cases hg
    ·cases hg
   ·cases hg
  ·cases hg
 ·cases hg
theorem Qcz{w:World}{b:Nat}{cs:Array Value}{t:TypeId}{fz:Nat × Nat}{o:Nat}{v:Value}(h:w.heap[b]? = some (.cells cs t fz)):(w.setCell ⟨b,o,none⟩ v).heap[b]? = some (.cells (cs.setIfInBounds o v) t fz):=by
 simp[World.setCell,Array.getElem?_modify,h]
theorem Qb8(w:World)(a:Addr)(v:Value):w.grownBy (w.setCell a v) (some a.block):=
 ⟨rfl,rfl,rfl,by simp[World.setCell],λk hk hne=>by
   simp only[World.setCell,Array.getElem?_modify]
   rw[if_neg (λe=>hne (by rw[e]))]⟩
theorem Qep:∀ l s v s',extCopyCheck 121 l s=some (v,s')->∀ κ B w vs,Inv C κ B s w->GlobOK C κ->B<=w.heap.size->VRl κ l vs->Called Tryz.prog 105 vs.toArray w (CPost C κ B w (.ret v) s'):=by
 intro l s v s' hg κ B w vs hi hG hB hv
 unfold extCopyCheck at hg
 split at hg
 ·rename_i loc
  obtain⟨v1,r1,rfl,h1,h2⟩:=hv
  simp only[VRl] at h2
  subst h2
  simp only[VR] at h1
  obtain⟨b,hb,rfl⟩:=h1
  cases hbl:isBld 121 s loc with
  |false=>rw[hbl] at hg;cases hg
  |true=>
    rw[hbl] at hg
    simp only[cond_true] at hg
    split at hg
    ·rename_i y x hl
     obtain⟨b',o,q1,q2,q3,q4⟩:=hi.locs loc _ hl
     rw[hb] at q1
     cases q1
     obtain⟨cs,t,rfl,q5,⟨u1,us,e1,r1,u2,us2,e2,r2,r3⟩,q7⟩:=q4
     subst e2
     simp only[SRs] at r3
     subst r3
     obtain⟨c0,c1,hcs⟩:=var2 q3 e1
     have gl:κ.gone loc=false:=hi.lv loc _ hl (λh=>by cases h)
     have he:=enters_of Tryz.func105 (by kernel_rfl) (c:=body Tryz.f105) (by kernel_rfl) #[.pointer (some ⟨b,0,none⟩)] w
     split at hg
     ·cases hg
      simp only[SR,VR] at r1
      subst r1
      unfold isBld at hbl
      obtain⟨p,hp,hpe⟩:=List.any_eq_true.1 hbl
      simp only[Ya] at hpe
      have p1:=Yf hpe.1
      have p2:=Yf hpe.2
      have hcap:=hi.bls p hp
      rw[p1,p2] at hcap
      obtain⟨_,k2,_,_,k5⟩:=hi.caps _ _ _ _ hcap
      obtain⟨cs2,k6,k7⟩:=k5 gl b hb
      rw[q3] at k6
      cases k6
      have hsz:(C.ti 121).size=2:=by kernel_rfl
      refine .inr ⟨he,(callsIn_wide (n:=0).2 (QbG b w c0 (by simp[World.shape?,q3,k7,hsz]) (by simp[World.frozen?,q3]))).mono λe w' h=>?_⟩
      obtain⟨rfl,rfl⟩:=h
      have hcl:cs.toList = .pointer none::u2::cs.toList.drop 2:=by
       have h:=List.take_append_drop 2 cs.toList
       rw[show cs.toList.take 2=[.pointer none,u2] from e1] at h
       exact h.symm
      have hcl2:(cs.setIfInBounds 0 (.pointer (some ⟨b,0,none⟩))).toList.take 2=[.pointer (some ⟨b,0,none⟩),u2]:=by
       rw[Array.toList_setIfInBounds,hcl];rfl
      have hones:Ones [Value.pointer (some ⟨b,0,none⟩),u2]:=λu hu=>by
       rcases List.mem_cons.1 hu with rfl|hu
       ·rfl
       ·have e1':(cs.toList.take [Slot.val .nilp,x].length)=[.pointer none,u2]:=e1
        exact q7 u (by rw[e1'];exact Yb _ hu)
      obtain⟨hI',hM⟩:=hi.setLoc (w':=w.setCell ⟨b,0,none⟩ (.pointer (some ⟨b,0,none⟩))) hb gl (x:=.var [.val (.vp loc 0),x]) (o:=.cells (cs.setIfInBounds 0 (.pointer (some ⟨b,0,none⟩))) 121 (0,0))
       ⟨_,_,rfl,by simp;omega,(by
         rw[show [Slot.val (.vp loc 0),x].length=2 from rfl,hcl2]
         exact⟨_,_,rfl,(by simp only[SR,VR];exact⟨b,hb,rfl⟩),_,_,rfl,r2,rfl⟩),by rw[show [Slot.val (.vp loc 0),x].length=2 from rfl,hcl2];exact hones⟩ (Qcz q3) (Qb8 w ⟨b,0,none⟩ _) (λcs3 t3 z3 h3=>by rw[q3] at h3;cases h3;exact⟨_,rfl,by simp⟩)
      exact⟨κ,hM,hI',by simp only[OutR,SR,VR];exact⟨[],rfl,rfl⟩⟩
     ·rename_i l2
      cases hll:Nat.beq l2 loc with
      |false=>rw[hll] at hg;cases hg
      |true=>
        rw[hll] at hg
        cases hg
        obtain rfl:=Yf hll
        simp only[SR,VR] at r1
        obtain⟨b2,hb2,rfl⟩:=r1
        rw[hb] at hb2
        cases hb2
        refine .inr ⟨he,(callsIn_wide (n:=0).2 (Qd3 b w c0)).mono λe w' h=>?_⟩
        obtain⟨rfl,rfl⟩:=h
        exact⟨κ,.refl _ _,hi,by simp only[OutR,SR,VR];exact⟨[],rfl,rfl⟩⟩
     ·cases hg
    ·cases hg
 ·cases hg
theorem QgO:∀ l s v s',extGrow 9 (tis.getD 9 {}) l s=some (v,s')->∀ κ B w vs,Inv C κ B s w->GlobOK C κ->B<=w.heap.size->VRl κ l vs->Called Tryz.prog 124 vs.toArray w (CPost C κ B w (.ret v) s'):=by
 intro l s v s' hg κ B w vs hi hG hB hv
 have hsz:(C.ti 9).size=1:=by kernel_rfl
 have hby:(tis.getD 9 {}).bytes=16:=by kernel_rfl
 unfold extGrow at hg
 split at hg
 ·rename_i n
  obtain⟨v1,r1,rfl,h1,v2,r2,rfl,h2,h3⟩:=hv
  simp only[VRl] at h3
  subst h3
  simp only[VR] at h1 h2
  subst h1 h2
  have he:=enters_of Tryz.func124 (by kernel_rfl) (c:=body Tryz.f124) (by kernel_rfl) #[.slice none 0 0,.int .i64 n] w
  split at hg
  ·rename_i h0
   cases hg
   subst h0
   refine .inr ⟨he,(callsIn_wide (n:=0).2 (Qfy w)).mono λe w' h=>?_⟩
   obtain⟨rfl,rfl⟩:=h
   exact⟨κ,.refl _ _,hi,by simp only[OutR,SR,VR]⟩
  ·split at hg
   ·rename_i h0 hc
    cases hg
    obtain⟨m,rfl⟩:∃ m:Nat,n=m:=⟨n.toNat,by omega⟩
    rw[hby] at hc
    have hge:=grownCap_ge w m 0 9
    have hle:=grownCap_le_maxLen w m 0 9 (by unfold maxLen;omega)
    refine .inr ⟨he,(callsIn_wide (n:=0).2 (QgU m (by omega) (by omega) w)).mono λe w' h=>?_⟩
    obtain⟨z,hz,rfl,rfl⟩:=h
    have hgr:w.grownBy (w.drew.alloc (.cells z 9)) none:=by
     have h:=World.grownBy_alloc w.drew (.cells z 9) none
     exact⟨h.os,h.tape,h.output,h.size,h.block⟩
    obtain⟨κ',r1,r2,r3⟩:=hi.fresh_tok (et:=9) (l':=[]) (v':=.slice (some ⟨w.heap.size,0,none⟩) 0 (grownCap w m 0 9)) (zs:=[]) (g:=w.heap.size) hgr rfl (Yd _)
     ⟨by simp,.inr ⟨w.heap.size,_,z,rfl,hB,heap_alloc_new w.drew (.cells z 9),Nat.zero_le _,hle,by rw[hz,hsz,Nat.mul_one],by simp⟩⟩ (by rw[hsz];decide) (by intro u hu;cases hu) (by simp only[flat,List.flatMap_nil,VRl]) (by intro u hu;cases hu)
    exact⟨κ',r1,r2,r3⟩
   ·cases hg
 ·cases hg
open Go Go.Proofs Go.Am Go.RowKit
def ExtOK(f:FuncId)(g:List AV->St->Option (Slot × St)):Prop:=∀ l s v s',g l s=some (v,s')->∀ κ B w vs,Inv C κ B s w->GlobOK C κ->B<=w.heap.size->VRl κ l vs->Called Tryz.prog f vs.toArray w (CPost C κ B w (.ret v) s')
theorem Q7e{f:Nat}{g:List AV->St->Option (Slot × St)}:∀ {l:List (Nat × (List AV->St->Option (Slot × St)))},findExt f l=some g->(f,g) ∈ l
 |[],h=>by cases h
 |(k,c)::r,h=>by
   unfold findExt at h
   cases hf:Nat.beq f k with
   |true=>
     rw[hf] at h
     cases h
     rw[Yf hf]
     exact Yc
   |false=>
     rw[hf] at h
     exact Yb _ (Q7e h)
theorem pow10G : Tryz.prog.globalNamed "internal/strconv.uint64pow10" = some 3 := by kernel_rfl
theorem QgP:ExtOK 94 (pureX extItoa):=by
 intro l s sl s' hg κ B w vs hi hG hB hv
 obtain⟨v,hq,rfl,rfl⟩:=Q5r hg
 clear hg
 have hg:=hq
 clear hq
 unfold extItoa at hg
 split at hg
 ·rename_i n
  split at hg
  ·rename_i hn
   cases hg
   obtain⟨v1,r1,rfl,h1,h3⟩:=hv
   simp only[VRl] at h3
   subst h3
   simp only[VR] at h1
   subst h1
   obtain⟨h1,_,t,z,h2⟩:=hi.tabs (3,(Go.Lib.pow10Tab.map λz=>Value.int .u64 z).toArray) (by simp[C])
   have htab : Lib.TabIs Tryz.prog w "internal/strconv.uint64pow10" .u64 Lib.pow10Tab := by
    unfold Lib.TabIs World.var?
    rw[pow10G]
    simp only[Option.bind_some]
    rw[h2]
   have he:=enters_of Tryz.func94 (by kernel_rfl) (c:=body Tryz.f94) (by kernel_rfl) #[.int .i64 n] w
   refine .inr ⟨he,(callsIn_wide (n:=0).2 (Tryz.strconv_Itoa n hn.1 hn.2 w htab)).mono λe w' h=>?_⟩
   obtain⟨rfl,k,os,rfl⟩:=h
   have hb:=Lib.below_grow w.heap.size w (Yd _) k os
   exact⟨κ,Mv.below hi hb,hi.below hb,by simp only[OutR,SR,VR];exact⟨_,rfl,rfl⟩⟩
  ·cases hg
 ·cases hg
theorem Qfp:ExtOK 100 (pureX extIndexByte):=by
 intro l s sl s' hg κ B w vs hi hG hB hv
 obtain⟨v,hq,rfl,rfl⟩:=Q5r hg
 clear hg
 have hg:=hq
 clear hq
 unfold extIndexByte at hg
 split at hg
 ·rename_i str c
  cases hg
  obtain⟨v1,r1,rfl,h1,v2,r2,rfl,h2,h3⟩:=hv
  simp only[VRl] at h3
  subst h3
  simp only[VR] at h1 h2
  obtain⟨z1,rfl,rfl⟩:=h1
  subst h2
  have he:=enters_of Tryz.func100 (by kernel_rfl) (c:=body Tryz.f100) (by kernel_rfl) #[.string z1,.int .u8 c] w
  refine .inr ⟨he,(callsIn_wide (n:=0).2 (Tryz.strings_IndexByte z1 c w)).mono λe w' h=>?_⟩
  obtain⟨h4,h5⟩:=h
  subst h4
  subst h5
  exact⟨κ,.refl _ _,hi,by simp only[OutR,SR,VR]⟩
 ·cases hg
theorem QbN:ExtOK 151 (pureX extContains):=by
 intro l s sl s' hg κ B w vs hi hG hB hv
 obtain⟨v,hq,rfl,rfl⟩:=Q5r hg
 clear hg
 have hg:=hq
 clear hq
 unfold extContains at hg
 split at hg
 ·rename_i x y
  split at hg
  ·rename_i hx
   cases hg
   obtain⟨v1,r1,rfl,h1,v2,r2,rfl,h2,h3⟩:=hv
   simp only[VRl] at h3
   subst h3
   simp only[VR] at h1 h2
   obtain⟨z1,rfl,rfl⟩:=h1
   obtain⟨z2,rfl,rfl⟩:=h2
   obtain⟨m,hm⟩:=hG.2 2 (by simp[C])
   have hc:=hi.im 2 0 _ hm
   have hk:=Tryz.strings_Contains z1 z2 m w (by simpa using hx) hc
   have he:=enters_of Tryz.func151 (by kernel_rfl) (c:=body Tryz.f151) (by kernel_rfl) #[.string z1,.string z2] w
   refine .inr ⟨he,(callsIn_wide (n:=0).2 hk).mono λe w' h=>?_⟩
   obtain⟨h4,h5⟩:=h
   subst h4
   subst h5
   exact⟨κ,.refl _ _,hi,by simp only[OutR,SR,VR]⟩
  ·cases hg
 ·cases hg
theorem Qig:∀ p ∈ exts,ExtOK p.1 p.2:=by
 unfold exts
 repeat (refine List.forall_mem_cons.2 ⟨by first|exact Qd9|exact Qep|exact QgO|exact QgP|exact Qfp|exact QbN,?_⟩)
 intro p hp
 cases hp
theorem codeOK:CodeOK Tryz.prog C where
 ty:=types
 code:=Qic rfl Qfl
 quiet:=Qis
 ext:=λf g l s sl s' hf hg=>Qig (f,g) (Q7e hf) l s sl s' hg
def laidT : List (String × DataW Unit) := [("internal/strconv.uint64pow10", Lib.tabData .u64 Lib.pow10Tab)]
theorem tabsOK {L : List (String × DataW Unit)} {W : World} (h : laidMetH Tryz.prog L W) (e : (L.filter fun x => x.1 == "internal/strconv.uint64pow10") = laidT := by kernel_rfl) : TabsOK C (kn0 W) W.heap.size W := by
 intro p hp
 have h1:laidMetH Tryz.prog laidT W:=e ▸ h.filter _
 rw[MakeChecks.laidMetH_plain _ _ _ (by kernel_rfl)] at h1
 have ht:=Lib.tabIs_of_head (t:=193) (e:=145) (n:=20) pow10G (by kernel_rfl) (by kernel_rfl) (by kernel_rfl) (by kernel_rfl) (by kernel_rfl) h1
 obtain rfl:p=(3,(Go.Lib.pow10Tab.map λz=>Value.int .u64 z).toArray):=by simpa [C] using hp
 have hc:=ht.cell pow10G 0 (by decide)
 unfold Lib.TabIs World.var? at ht
 rw[pow10G] at ht
 simp only[Option.bind_some] at ht
 have hlt:3<W.heap.size:=World.block_lt_of_cell? W ⟨3,0,none⟩ hc
 refine⟨hlt,⟨_,hc⟩,?_⟩
 split at ht
 ·rename_i cs t z hw
  cases ht
  exact⟨t,z,hw⟩
 ·cases ht
end Go.Proofs.YtobelgghegmhhaaGreatDoor
namespace Go.Am
open Go
structure LTok where
 kind:Int
 pos:Int
 text:Str
 num:Int
 deriving Inhabited,DecidableEq
namespace LTok
def cells(t:LTok):List AV:=[.int .i64 t.kind,.int .i64 t.pos,.str t.text,.int .i64 t.num]
abbrev enc(t:LTok):AV:=.agg t.cells
@[go_sem] theorem cells_len(t:LTok):t.cells.length=4:=rfl
def zero:LTok:=⟨0,0,[],0⟩
end LTok
def digB(n:Int):Bool:=decide (n≥48)&&decide (n<=57)
def firB(n:Int):Bool:=decide (n≥97)&&decide (n<=122) || decide (n≥65)&&decide (n<=90) || decide (n=95)
def amoB(n:Int):Bool:=firB n || digB n || decide (n=39)
def digC(c:UInt8):Bool:=digB c.toNat
def firC(c:UInt8):Bool:=firB c.toNat
def amoC(c:UInt8):Bool:=amoB c.toNat
def blankC(c:UInt8):Bool:=decide (c=32) || decide (c=9) || decide (c=10) || decide (c=13)
def lxCom:Int->Str->Option Nat
 |d,a::b::r=>bif decide (a=40)&&decide (b=42) then (lxCom (d+1) r).map (· + 2)
   else bif decide (a=42)&&decide (b=41) then (bif decide (d - 1=0) then some 2 else (lxCom (d - 1) r).map (· + 2))
   else (lxCom d (b::r)).map (· + 1)
 |_,_=>none
theorem QgE(d:Int)(a b:UInt8)(r:Str):lxCom d (a::b::r)=bif decide (a=40)&&decide (b=42) then (lxCom (d+1) r).map (· + 2)
  else bif decide (a=42)&&decide (b=41) then (bif decide (d - 1=0) then some 2 else (lxCom (d - 1) r).map (· + 2))
  else (lxCom d (b::r)).map (· + 1):=by rw[lxCom]
def lxOpens(s:Str):Bool:=match s with
 |a::b::_=>decide (a=40)&&decide (b=42)
 |_=>false
def lwords:List Str:=[[97,110,100],[97,110,100,97,108,115,111],[97,115],[99,97,115,101],[100,97,116,97,116,121,112,101],[100,105,118],[101,108,115,101],[101,110,100],[101,120,99,101,112,116,105,111,110],[102,110],[102,117,110],[104,97,110,100,108,101],[105,102],[105,110],[108,101,116],[109,111,100],[111,102],[111,114,101,108,115,101],[112,114,105,110,116],[114,97,105,115,101],[114,101,97,100],[114,101,102],[116,104,101,110],[118,97,108]]
def lsigns:List Str:=[[33],[40],[41],[42],[43],[44],[45],[45,62],[58],[58,61],[59],[60],[60,61],[60,62],[61],[61,62],[95],[124],[126]]
def hasL(l:List Str)(x:Str):Bool:=l.any λw=>decide (x=w)
def numV:Int->Str->Int
 |acc,[]=>acc
 |acc,c::r=>numV (10*acc+((c.toNat:Int) - 48)) r
def numA(t:Str)(b:Bool):Int × Bool:=
 bif decide ((t.length:Int)>1)&&decide (t.headD 0=48) || decide ((t.length:Int)>10) then (0,false)
 else (numV 0 t,decide (numV 0 t<1073741824) || decide (numV 0 t=1073741824)&&b)
def namedA(t:Str):Int:=
 bif hasL lwords t then 5
 else bif decide (t=[116,114,117,101]) || decide (t=[102,97,108,115,101]) || decide (((t.headD 0).toNat:Int)≥65)&&decide (((t.headD 0).toNat:Int)<=90) then 3 else 2
def signA(s:Str):Str:=
 bif decide (2<=s.length)&&hasL lsigns (s.take 2) then s.take 2
 else bif decide (1<=s.length)&&hasL lsigns (s.take 1) then s.take 1 else []
def restA(s:Str):Int × LTok:=bif decide (signA s=[]) then (11,.zero) else (0,⟨6,0,signA s,0⟩)
def tyvA(u:Str):Int × LTok:=bif decide ((u.length:Int) - 1>32) then (4,.zero) else (0,⟨4,0,u,0⟩)
def oneA(s:Str)(td:Bool):Int × LTok:=
 bif digC (s.headD 0) then (bif (numA (s.takeWhile digC) td).2 then (0,⟨1,0,s.takeWhile digC,(numA (s.takeWhile digC) td).1⟩) else (13,.zero))
 else bif firC (s.headD 0) then (bif decide (s.takeWhile amoC=[95]) then restA s
  else bif decide (((s.takeWhile amoC).length:Int)>32) then (4,.zero) else (0,⟨namedA (s.takeWhile amoC),0,s.takeWhile amoC,0⟩))
 else bif decide (s.headD 0=39)&&decide (1<s.length)&&firC ((s.drop 1).headD 0) then
  tyvA (s.take 1++(s.drop 1).takeWhile amoC)
 else restA s
def tildeL(acc:List LTok):Bool:=decide (0<acc.length)&&decide ((acc.getLastD .zero).text=[126])
def scanF:Nat->Nat->Str->List LTok->List LTok × Int × Int
 |0,_,_,acc=>(acc,0,0)
 |_+1,_,[],acc=>(acc,0,0)
 |n+1,i,c::r,acc=>
   bif blankC c then scanF n (i+1) r acc
   else bif lxOpens (c::r) then (match lxCom 0 (c::r) with|some k=>scanF n (i+k) ((c::r).drop k) acc|none=>([],12,(i:Int)))
   else bif decide (acc.length≥16384) then ([],4,(i:Int))
   else bif decide ((oneA (c::r) (tildeL acc)).1=0) then scanF n (i+(oneA (c::r) (tildeL acc)).2.text.length) ((c::r).drop (oneA (c::r) (tildeL acc)).2.text.length) (acc++[{ (oneA (c::r) (tildeL acc)).2 with pos:=(i:Int) }])
   else ([],(oneA (c::r) (tildeL acc)).1,(i:Int))
def lxScan(s:Str):List LTok × Int × Int:=bif decide ((s.length:Int)>65536) then ([],4,0) else scanF (s.length+1) 0 s []
theorem Q8n:∀ (s:Str) (d:Int) (k:Nat),lxCom d s=some k->2<=k/\k<=s.length
 |[],_,_,h=>by simp[lxCom] at h
 |[_],_,_,h=>by simp[lxCom] at h
 |a::b::r,d,k,h=>by
   unfold lxCom at h
   cases h1:decide (a=40)&&decide (b=42)
   ·rw[h1] at h
    simp only[cond_false] at h
    cases h2:decide (a=42)&&decide (b=41)
    ·rw[h2] at h
     simp only[cond_false,Option.map_eq_some_iff] at h
     obtain⟨j,hj,rfl⟩:=h
     have:=Q8n (b::r) d j hj
     simp only[Yg] at this |-
     omega
    ·rw[h2] at h
     simp only[cond_true] at h
     cases h3:decide (d - 1=0)
     ·rw[h3] at h
      simp only[cond_false,Option.map_eq_some_iff] at h
      obtain⟨j,hj,rfl⟩:=h
      have:=Q8n r (d - 1) j hj
      simp only[Yg]
      omega
     ·rw[h3] at h
      simp only[cond_true,Option.some.injEq] at h
      simp only[Yg]
      omega
   ·rw[h1] at h
    simp only[cond_true,Option.map_eq_some_iff] at h
    obtain⟨j,hj,rfl⟩:=h
    have:=Q8n r (d+1) j hj
    simp only[Yg]
    omega
theorem Q1c{α:Type}(p:α->Bool)(s:List α):(s.takeWhile p).length<=s.length:=(List.takeWhile_prefix p).length_le
theorem Qg2(s:Str):signA s <+: s:=by
 unfold signA
 cases decide (2<=s.length)&&hasL lsigns (s.take 2)
 ·cases decide (1<=s.length)&&hasL lsigns (s.take 1)
  ·exact List.nil_prefix
  ·exact List.take_prefix _ _
 ·exact List.take_prefix _ _
def PreT(s:Str)(x:Int × LTok):Prop:=x.1=0->x.2.text <+: s/\x.2.text≠[]/\x.2.pos=0
theorem PreT.bif{s:Str}{b:Bool}{x y:Int × LTok}(hx:b=true->PreT s x)(hy:b=false->PreT s y):PreT s (bif b then x else y):=by
 cases b
 ·exact hy rfl
 ·exact hx rfl
theorem PreT.bad{s:Str}{e:Int}{x:LTok}(h:e≠0):PreT s (e,x):=λg=>absurd g h
theorem PreT.rest(s:Str):PreT s (restA s):=PreT.bif (λ_=>.bad (by decide)) (λh _=>⟨Qg2 s,of_decide_eq_false h,rfl⟩)
theorem Qhb(s:Str)(td:Bool)(hs:s≠[]):PreT s (oneA s td):=by
 obtain⟨c,r,rfl⟩:=List.exists_cons_of_ne_nil hs
 refine .bif (λh=>.bif (λ_ _=>⟨List.takeWhile_prefix _,?_,rfl⟩) λ_=>.bad (by decide)) λ_=>.bif (λh=>.bif (λ_=>.rest _) λ_=>.bif (λ_=>.bad (by decide)) λ_ _=>⟨List.takeWhile_prefix _,?_,rfl⟩) λ_=>.bif (λh=>.bif (λ_=>.bad (by decide)) λ_ _=>⟨?_,by simp,rfl⟩) λ_=>.rest _
 ·have h:digC c=true:=h
  simp[List.takeWhile_cons,h]
 ·have h:firC c=true:=h
  have:amoC c=true:=by unfold amoC amoB;unfold firC at h;rw[h];rfl
  simp[List.takeWhile_cons,this]
 ·simp only[List.take_succ_cons,List.take_zero,List.drop_succ_cons,List.drop_zero,Yk,Yo]
  exact (List.prefix_cons_inj _).2 (List.takeWhile_prefix _)
end Go.Am
namespace Go.Proofs.YtobelgghegmhhaaGreatDoor
open Go Go.Am
theorem QO{i n most:Nat}(h:i<=most):bound (some (.val (.int .i64 (i:Int)))) n most=some i:=by
 unfold bound;simp only[];rw[if_pos ⟨by omega,by omega⟩];simp
theorem Q7r{t:TI}(hk:t.k = .str){l:Str}{i:Nat}(h:i<=l.length):sliceS t 0 (.val (.str l)) (some (.val (.int .i64 (i:Int)))) none none=some (.val (.str (l.drop i))):=by
 simp only[sliceS,hk,QO h,show bound none l.length l.length=some l.length from rfl,List.take_length]
theorem Q35{t:TI}(hk:t.k = .str){l:Str}{i:Nat}(h:i<=l.length):sliceS t 0 (.val (.str l)) none (some (.val (.int .i64 (i:Int)))) none=some (.val (.str (l.take i))):=by
 simp only[sliceS,hk,QO h,show bound none 0 i=some 0 from rfl,List.drop_zero]
theorem QeO{t:TI}(hk:t.k = .str){l:Str}{i j:Nat}(h:i<=j)(h':j<=l.length):sliceS t 0 (.val (.str l)) (some (.val (.int .i64 (i:Int)))) (some (.val (.int .i64 (j:Int)))) none=some (.val (.str ((l.take j).drop i))):=by
 simp only[sliceS,hk,QO h',QO h]
theorem Qio(pre suf:Str)(k:Nat):((pre++suf).take (pre.length+k)).drop pre.length=suf.take k:=by
 rw[List.take_length_add_append,List.drop_left]
def badEnc(k p:Int):AV:=.agg [.int .i64 k,.int .i64 p,.str []]
theorem QdD:sliceA 24 (C.ti Q0) (.val (.cp glob0)) none none none=some (.val (.sl (lwords.map .str))):=by
 have:rows (C.ti Q0) 24 glob0=some (lwords.map .str):=by kernel_rfl
 simp only[sliceA,Q5z,show Nat.beq 1 0=false from rfl,cond_false,show bound none 24 24=some 24 from rfl,show bound none 0 24=some 0 from rfl,this]
 rfl
theorem Qds:sliceA 19 (C.ti Q0) (.val (.cp glob1)) none none none=some (.val (.sl (lsigns.map .str))):=by
 have:rows (C.ti Q0) 19 glob1=some (lsigns.map .str):=by kernel_rfl
 simp only[sliceA,Q5z,show Nat.beq 1 0=false from rfl,cond_false,show bound none 19 19=some 19 from rfl,show bound none 0 19=some 0 from rfl,this]
 rfl
open Go Go.Am Go.RowKit
theorem Qev:glob0=lwords.map AV.str:=by kernel_rfl
theorem Qeu:glob1=lsigns.map AV.str:=by kernel_rfl
def laidL : List (String × DataW Unit) := [("camlet/lex.words", Rows.laid_camlet_lex_words), ("camlet/lex.signs", Rows.laid_camlet_lex_signs)]
theorem gWords : Tryz.prog.globalNamed "camlet/lex.words" = some 0 := by kernel_rfl
theorem gSigns : Tryz.prog.globalNamed "camlet/lex.signs" = some 1 := by kernel_rfl
theorem Qfu{W:World}(h:laidMetH Tryz.prog laidL W):∀ (g:Nat) (l:List AV),C.glob g=some l->VR (kn0 W) (.cp l) (.pointer (some ⟨g,0,none⟩)):=by
 rw[MakeChecks.laidMetH_plain _ _ _ (by kernel_rfl)] at h
 obtain⟨ps,⟨g0,t0,cs0,f0,p0,q0,hg0,ht0,hv0,hd0,⟨g1,t1,cs1,f1,p1,q1,hg1,ht1,hv1,hd1,_,_⟩,_⟩,_,_⟩:=h
 obtain rfl:=Option.some.inj (gWords.symm.trans hg0)
 obtain rfl:=Option.some.inj (gSigns.symm.trans hg1)
 obtain rfl:=Option.some.inj ((show (Tryz.prog.globals[0]?).map (·.type)=some 179 by kernel_rfl).symm.trans ht0)
 obtain rfl:=Option.some.inj ((show (Tryz.prog.globals[1]?).map (·.type)=some 180 by kernel_rfl).symm.trans ht1)
 intro g l hg
 have w0:=QaD (n:=24) (t:=179) (e:=Q0) (by kernel_rfl) (by kernel_rfl) (by kernel_rfl) (by kernel_rfl) hd0 lwords (by kernel_rfl) (kn0 W)
 have w1:=QaD (n:=19) (t:=180) (e:=Q0) (by kernel_rfl) (by kernel_rfl) (by kernel_rfl) (by kernel_rfl) hd1 lsigns (by kernel_rfl) (kn0 W)
 have hc0:=World.var?_cell hg0 hv0
 have hc1:=World.var?_cell hg1 hv1
 change (bif Nat.beq g 0 then some glob0 else bif Nat.beq g 1 then some glob1 else none)=some l at hg
 cases h0:Nat.beq g 0 with
 |true=>
   rw[h0] at hg
   cases hg
   obtain rfl:=Yf h0
   rw[Qev]
   simp only[VR]
   exact⟨⟨0,0,none⟩,cs0.toList,rfl,rfl,λj u hj=>by
    simp only[kn0,Nat.zero_add]
    rw[hc0,<-Array.getElem?_toList];exact hj,w0.2,w0.1⟩
 |false=>
   rw[h0] at hg
   cases h1:Nat.beq g 1 with
   |true=>
     rw[h1] at hg
     cases hg
     obtain rfl:=Yf h1
     rw[Qeu]
     simp only[VR]
     exact⟨⟨1,0,none⟩,cs1.toList,rfl,rfl,λj u hj=>by
      simp only[kn0,Nat.zero_add]
      rw[hc1,<-Array.getElem?_toList];exact hj,w1.2,w1.1⟩
   |false=>rw[h1] at hg;cases hg
open Go Go.Proofs Go.Am Go.RowKit
theorem globOK {L : List (String × DataW Unit)} {W : World} (h : laidMetH Tryz.prog L W) (hs : W.ShapedOpen Tryz.prog) (e : (L.filter fun x => x.1 == "camlet/lex.words" || x.1 == "camlet/lex.signs") = laidL := by kernel_rfl) : GlobOK C (kn0 W) := by
 refine⟨Qfu (e ▸ h.filter _),λg hg=>?_⟩
 obtain rfl:g=2:=by simpa [C] using hg
 exact Tryz.laysM144.s1_3 W hs
end Go.Proofs.YtobelgghegmhhaaGreatDoor