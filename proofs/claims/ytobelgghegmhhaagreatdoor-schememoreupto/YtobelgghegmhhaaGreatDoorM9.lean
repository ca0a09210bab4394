/- A part of the proof: SLex1, PTy, PSame, STree1, STree2, STree3, STree4, STree5, STree6, STree7, STy1. -/
import Derived.Test.YtobelgghegmhhaaGreatDoorM3
import Derived.Test.YtobelgghegmhhaaGreatDoorM6
import Derived.Test.YtobelgghegmhhaaGreatDoorM7
import Derived.Test.YtobelgghegmhhaaGreatDoorM8
set_option linter.unusedVariables false
set_option linter.unusedSimpArgs false
open Bool renaming and_eq_true→Ya
open List renaming mem_cons_of_mem→Yb,mem_cons_self→Yc,length_append→Ye,length_cons→Yg,length_map→Yh,map_cons→Yi,cons_append→Yk,mem_append_left→Ym,length_nil→Yp,mem_append_right→Yq
open Nat renaming le_refl→Yd
namespace Go.Proofs.YtobelgghegmhhaaGreatDoor
open Go Go.Am
theorem Q2N(n:Int)(s:St):cw (.f Q0i) [.int .u8 n] s=some (.ret (.val (.bool (digB n))),s):=by
 rw[Qc5];simp only[go_sem];rfl
theorem Q2O(n:Int)(s:St):cw (.f Q1H) [.int .u8 n] s=some (.ret (.val (.bool (firB n))),s):=by
 rw[Qc6];simp only[go_sem];rfl
theorem Q4N(n:Int)(s:St):cw (.f ZL) [.int .u8 n] s=some (.ret (.val (.bool (amoB n))),s):=by
 rw[Qc4];simp only[go_sem,Q2O,Q2N]
 unfold amoB
 cases firB n<;>cases digB n<;>rfl
theorem Qgk(F:Nat)(p:Int->Bool)(hF:∀ n s,cw (.f F) [.int .u8 n] s=some (.ret (.val (.bool (p n))),s))(L:Str)(hl:L.length<2^62):∀ (suf pre:Str) (s:St) (i:Nat),pre++suf=L->i=pre.length->
  Q1o (.val (.fn F [])) (.val (.cp [.str L])) (.val (.int .i64 (i:Int))) s=some (.ret (.val (.str (pre++suf.takeWhile λc=>p c.toNat))),s):=by
 intro suf
 induction suf with
 |nil=>
   intro pre s i h hi
   rw[List.append_nil] at h
   subst h hi
   rw[Q4c]
   simp only[go_sem,Nat.reduceAdd,Nat.reduceLeDiff,Int.lt_irrefl,Q35 Qi (Yd pre.length)]
   simp
 |cons c suf ih=>
   intro pre s i h hi
   subst hi
   have hc:L[pre.length]? = some c:=by rw[<-h];simp
   have hlt:pre.length<L.length:=by rw[<-h];simp
   have:=ih (pre++[c]) s (pre++[c]).length (by simp[h]) rfl
   rw[Q4c]
   have hb:decide ((pre.length:Int)<(L.length:Int))=true:=by simpa using hlt
   simp only[go_sem,Nat.reduceAdd,Nat.reduceLeDiff,hb,Q0Q Qi hc,hF]
   rw[wrap64 (by omega) (by omega)]
   have e:(pre.length:Int)+1=((pre++[c]).length:Int):=by simp
   rw[e,this,List.takeWhile_cons]
   cases hp:p c.toNat
   ·simp only[go_sem,Q35 Qi (Nat.le_of_lt hlt)]
    rw[<-h];simp
   ·simp only[go_sem,Int.reduceNeg]
theorem Q6N(F:Nat)(p:Int->Bool)(hF:∀ n s,cw (.f F) [.int .u8 n] s=some (.ret (.val (.bool (p n))),s))(pre suf:Str)(i:Nat)(hi:i=pre.length)(hl:(pre++suf).length<2^62)(s:St) :
  cw (.f Q0j) [.int .i64 (i:Int),.fn F [],.cp [.str (pre++suf)]] s=some (.ret (.val (.str (pre++suf.takeWhile λc=>p c.toNat))),s):=by
 rw[Qc8]
 exact Qgk F p hF (pre++suf) hl suf pre s i rfl hi
theorem Qez(x:Str)(L:List Str)(hl:L.length<2^62):∀ (suf pre:List Str) (s:St) (i:Nat),pre++suf=L->i=pre.length->
  ∃ k:Int,QI (.val (.sl (L.map .str))) (.val (.str x)) (.val (.int .i64 L.length)) (.val (.int .i64 (i:Int))) s=some (.ret (.val (.int .i64 k)),s)/\decide (k≥0)=hasL suf x:=by
 intro suf
 induction suf with
 |nil=>
   intro pre s i h hi
   rw[List.append_nil] at h
   subst h hi
   rw[ZS]
   simp only[go_sem,Int.reduceNeg,Int.lt_irrefl]
   exact⟨-1,rfl,rfl⟩
 |cons c suf ih=>
   intro pre s i h hi
   subst hi
   obtain⟨f1,f2,f3⟩:=Qh (f:=AV.str) (x:=.val (.sl (L.map .str))) (sz:=1) rfl h hl rfl (by decide)
   obtain⟨k,h1,h2⟩:=ih (pre++[c]) s (pre.length+1) (by simp[h]) (by simp)
   rw[ZS]
   simp only[go_sem,Int.reduceNeg,Nat.reduceAdd,Nat.reduceLeDiff,f1,f2,f3]
   rw[h1]
   simp only[hasL,List.any_cons]
   by_cases hx:x=c
   ·subst hx
    simp only[go_sem,Int.reduceNeg]
    exact⟨_,rfl,by simp⟩
   ·simp only[go_sem,hx]
    exact⟨k,rfl,h2⟩
theorem Q1X(x:Str)(L:List Str)(hl:L.length<2^62)(s:St):cw (.f Qf) [.sl (L.map .str),.str x] s=some (.ret (.val (.bool (hasL L x))),s):=by
 rw[Q1N]
 obtain⟨k,h1,h2⟩:=Qez x L hl L [] s 0 rfl rfl
 have hi:cw (.f QP) [.sl (L.map .str),.str x] s=some (.ret (.val (.int .i64 k)),s):=by
  rw[Q2A]
  simp only[go_sem,Int.reduceNeg]
  exact h1
 simp only[go_sem,hi,h2]
theorem Q9q(a b:Str)(s:St):cw (.f Q1a) [.str a,.str b] s=some (.ret (.val (.bool (decide (b.length<=a.length)&&decide (a.take b.length=b)))),s):=by
 have h:cw (.f Qy) [.str a,.str b] s=some (.ret (.val (.bool (decide (b.length<=a.length)&&decide (a.take b.length=b)))),s):=by
  rw[ZQ]
  by_cases hb:b.length<=a.length
  ·have hb':decide ((a.length:Int)≥(b.length:Int))=true:=by simpa using hb
   simp only[go_sem,hb',hb,Q35 Qi hb]
  ·have hb':decide ((a.length:Int)≥(b.length:Int))=false:=by simpa using hb
   simp only[go_sem,hb',hb]
 rw[Q5u]
 simp only[go_sem,h]
theorem Q9t(a:Str)(c:UInt8)(s:St):cw (.f Q1b) [.str a,.int .u8 c.toNat] s=some (.ret (.val (.int .i64 (Go.Lib.indexByte a c))),s):=by
 have e:C.ext Q1b=some (pureX extIndexByte):=by kernel_rfl
 rw[cw,Q5];unfold callR;rw[e];simp[pureX,extIndexByte]
theorem Qgz(c:UInt8):decide (Go.Lib.indexByte [32,9,10,13] c≥0)=blankC c:=by
 simp only[Go.Lib.indexByte,blankC]
 by_cases h1:c=32
 ·subst h1;rfl
 by_cases h2:c=9
 ·subst h2;rfl
 by_cases h3:c=10
 ·subst h3;rfl
 by_cases h4:c=13
 ·subst h4;rfl
 have g:∀ x:UInt8,c≠x->(x == c)=false:=λx h=>by simp[Ne.symm h]
 simp[g _ h1,g _ h2,g _ h3,g _ h4,h1,h2,h3,h4]
theorem Qdo(L:Str)(hl:L.length<2^61):∀ (suf pre:Str) (d:Int) (s:St) (i:Nat),pre++suf=L->i=pre.length->-(pre.length:Int)<=d->d<=pre.length->
  ZB (.val (.str L)) (.val (.int .i64 (i:Int))) (.val (.int .i64 d)) s=some (.ret (.val (.int .i64 (match lxCom d suf with|some k=>((i+k:Nat):Int)|none=> -1))),s):=by
 intro suf
 generalize hn:suf.length=n
 induction n using Nat.strongRecOn generalizing suf with
 |ind n ih=>
   intro pre d s i h hi hd1 hd2
   subst hi
   have hL:pre.length+suf.length=L.length:=by rw[<-h];simp
   rw[Q7I]
   match suf,hn,h,hL with
   |[],_,h,hL=>
     simp only[Yp,Nat.add_zero] at hL
     simp only[go_sem,Int.reduceNeg]
     rw[wrap64 (by omega) (by omega)]
     have hb:decide ((pre.length:Int)+1<(L.length:Int))=false:=by simp;omega
     simp only[go_sem,Int.reduceNeg,hb,lxCom]
   |[_],_,h,hL=>
     simp only[Yg,Yp] at hL
     simp only[go_sem,Int.reduceNeg]
     rw[wrap64 (by omega) (by omega)]
     have hb:decide ((pre.length:Int)+1<(L.length:Int))=false:=by simp;omega
     simp only[go_sem,Int.reduceNeg,hb,lxCom]
   |a::b::r,hn,h,hL=>
     simp only[Yg] at hL hn
     simp only[go_sem,Int.reduceNeg]
     rw[wrap64 (by omega) (by omega),wrap64 (by omega) (by omega)]
     have hb:decide ((pre.length:Int)+1<(L.length:Int))=true:=by simp;omega
     have hs:=QeO (t:=C.ti Q0) Qi (l:=L) (i:=pre.length) (j:=pre.length+2) (by omega) (by omega)
     have ht:(L.take (pre.length+2)).drop pre.length=[a,b]:=by rw[<-h,Qio];rfl
     rw[ht] at hs
     have e2:(pre.length:Int)+2=((pre.length+2:Nat):Int):=by omega
     rw[e2]
     simp only[go_sem,Int.reduceNeg,hb,hs]
     rw[wrap64 (by omega) (by omega),wrap64 (by omega) (by omega)]
     have i1:=ih r.length (by omega) r rfl (pre++[a,b]) (d+1) s (pre.length+2) (by simp[h]) (by simp) (by simp;omega) (by simp;omega)
     have i2:=ih r.length (by omega) r rfl (pre++[a,b]) (d - 1) s (pre.length+2) (by simp[h]) (by simp) (by simp;omega) (by simp;omega)
     have i3:=ih (r.length+1) (by omega) (b::r) (by simp) (pre++[a]) d s (pre.length+1) (by simp[h]) (by simp) (by simp;omega) (by simp;omega)
     have e1:(pre.length:Int)+1=((pre.length+1:Nat):Int):=by omega
     rw[e1,i1,i2,i3]
     rw[QgE]
     have c1:decide ([a,b]=[40,42])=(decide (a=40)&&decide (b=42)):=by simp[Bool.decide_and]
     have c2:decide ([a,b]=[42,41])=(decide (a=42)&&decide (b=41)):=by simp[Bool.decide_and]
     rw[c1,c2]
     cases decide (a=40)&&decide (b=42)
     ·cases decide (a=42)&&decide (b=41)
      ·simp only[go_sem,Int.reduceNeg]
       cases lxCom d (b::r)<;>simp only[go_sem,Int.reduceNeg]
       simp;omega
      ·simp only[go_sem,Int.reduceNeg]
       cases decide (d - 1=0)
       ·simp only[go_sem,Int.reduceNeg]
        cases lxCom (d - 1) r<;>simp only[go_sem,Int.reduceNeg]
        simp;omega
       ·simp only[go_sem,Int.reduceNeg]
     ·simp only[go_sem,Int.reduceNeg]
      cases lxCom (d+1) r<;>simp only[go_sem,Int.reduceNeg]
      simp;omega
theorem Q8A(pre suf:Str)(hl:(pre++suf).length<2^61)(s:St):cw (.f Q2c) [.str (pre++suf),.int .i64 (pre.length:Int)] s=some (.ret (.val (.int .i64 (match lxCom 0 suf with|some k=>((pre.length+k:Nat):Int)|none=> -1))),s):=by
 rw[QaU]
 exact Qdo (pre++suf) hl suf pre 0 s pre.length rfl rfl (by omega) (by omega)
end Go.Proofs.YtobelgghegmhhaaGreatDoor
namespace Go.Am
open Go
def tvar(n:Int):Ty:=.mk 1 n [] [] true
mutual
def ownTy:Ty->Ty
 |.mk k n s l _=>.mk k n s (ownTys l) true
def ownTys:List Ty->List Ty
 |[]=>[]
 |t::l=>ownTy t::ownTys l
end
def ofTy(name:Str)(l:List Ty):Ty:=.mk 2 0 name (l.map ownTy) true
section
variable {σ:Type} (to:Int->σ->Ty × σ)
mutual
def chTy:Ty->σ->Ty × σ
 |.mk k n s l _,st=>bif decide (k=1) then to n st else (.mk k n s (chTys l st).1 true,(chTys l st).2)
def chTys:List Ty->σ->List Ty × σ
 |[],st=>([],st)
 |t::l,st=>((chTy t st).1::(chTys l (chTy t st).2).1,(chTys l (chTy t st).2).2)
end
end
def toPut(l:List Ty)(n:Int)(u:Unit):Ty × Unit:=(if 0<=n/\n<l.length then ownTy (l.getD n.toNat default) else tvar n,u)
def putTy(t:Ty)(l:List Ty):Ty:=(chTy (toPut l) t ()).1
def placeI(n:Int):List Int->Nat->Option Nat
 |[],_=>none
 |m::l,i=>if n=m then some i else placeI n l (i+1)
def toCanon(n:Int)(old:List Int):Ty × List Int:=
 match placeI n old 0 with
 |some i=>(tvar i,old)
 |none=>(tvar old.length,old++[n])
def canonTy(t:Ty):Ty × List Int:=chTy toCanon t []
def givenB(nm:Str):Int × Int × Bool:=
 bif decide (nm=[105,110,116]) || decide (nm=[98,111,111,108]) || decide (nm=[117,110,105,116]) || decide (nm=[101,120,110]) then (0,0,true) else
 bif decide (nm=[114,101,102]) then (1,1,true) else bif decide (nm=[45,62]) then (2,2,true) else bif decide (nm=[42]) then (2,8,true) else (0,8,false)
def goodC(k n:Int)(nm:Str)(len:Int)(low:Bool):Bool:=
 bif decide (k=1) then decide (n≥0)&&decide (nm=[])&&decide (len=0)
 else bif decide (k=2) then decide (n=0)&&decide (len≥(givenB nm).1)&&decide (len<=(givenB nm).2.1)&&((givenB nm).2.2 || low)
 else false
def goodB(t:Ty):Bool:=goodC t.kind t.n t.name t.args.length (lowB t.name)
mutual
def allTy(p:Ty->Bool):Ty->Bool
 |.mk k n s l b=>p (.mk k n s l b)&&allTys p l
def allTys(p:Ty->Bool):List Ty->Bool
 |[]=>true
 |t::l=>allTy p t&&allTys p l
end
def rightTyB(t:Ty):Bool:=decide (t.size<=256)&&allTy goodB t
mutual
theorem QeH:∀ t:Ty,(ownTy t).size=t.size
 |.mk k n s l b=>by simp only[ownTy,Ty.size,Q7m l]
theorem Q7m:∀ l:List Ty,Ty.sizes (ownTys l)=Ty.sizes l
 |[]=>rfl
 |t::l=>by simp only[ownTys,Ty.sizes,QeH t,Q7m l]
end
theorem Q5n:∀ l:List Ty,ownTys l=l.map ownTy
 |[]=>rfl
 |t::l=>by rw[ownTys,Q5n l];rfl
theorem Q6n(a:Int):∀ {l:List Ty} {t:Ty},t ∈ l->∀ n ∈ nodesTy a t,n ∈ nodesTys a l
 |x::l,t,h,n,hn=>by
   simp only[nodesTys,List.mem_append]
   rcases List.mem_cons.1 h with rfl|h
   ·exact .inl hn
   ·exact .inr (Q6n a h n hn)
def NamesTy(t:Ty):Prop:=∀ n ∈ nodesTy 0 t,n.ok
theorem NamesTy.name{k n:Int}{s:Str}{l:List Ty}{b:Bool}(h:NamesTy (.mk k n s l b)):s.length<2^40:=h (.ty (.mk k n s l b) 0) (by simp only[nodesTy];exact Yc)
theorem NamesTy.arg{k n:Int}{s:Str}{l:List Ty}{b:Bool}(h:NamesTy (.mk k n s l b)){t:Ty}(ht:t ∈ l):NamesTy t:=λnd hn=>h nd (by simp only[nodesTy];exact Yb _ (Q6n 0 ht nd hn))
mutual
def WideTy:Ty->Prop
 |.mk _ _ _ l _=>l.length<2^28/\WideTys l
def WideTys:List Ty->Prop
 |[]=>True
 |t::l=>WideTy t/\WideTys l
end
theorem WideTys.iff:∀ {l:List Ty},WideTys l↔∀ t ∈ l,WideTy t
 |[]=>by simp[WideTys]
 |t::l=>by simp only[WideTys,WideTys.iff (l:=l),List.mem_cons,forall_eq_or_imp]
theorem WideTy.len{k n:Int}{s:Str}{l:List Ty}{b:Bool}(h:WideTy (.mk k n s l b)):l.length<2^28:=by simp only[WideTy] at h;exact h.1
theorem WideTy.arg{k n:Int}{s:Str}{l:List Ty}{b:Bool}(h:WideTy (.mk k n s l b)){t:Ty}(ht:t ∈ l):WideTy t:=by simp only[WideTy] at h;exact WideTys.iff.1 h.2 t ht
mutual
theorem Q00:∀ (t:Ty),t.size<2^28->WideTy t
 |.mk k n s l b,h=>by
   simp only[Ty.size] at h
   have:=Ty.len_sizes l
   simp only[WideTy]
   exact⟨by omega,Q5J l (by omega)⟩
theorem Q5J:∀ (l:List Ty),Ty.sizes l<2^28->WideTys l
 |[],_=>trivial
 |t::l,h=>by
   simp only[Ty.sizes] at h
   exact⟨Q00 t (by omega),Q5J l (by omega)⟩
end
section
variable {σ:Type} (to:Int->σ->Ty × σ)
end
mutual
def preTy:Ty->List Ty
 |.mk k n s l b=>.mk k n s l b::preTys l
def preTys:List Ty->List Ty
 |[]=>[]
 |t::l=>preTy t++preTys l
end
mutual
theorem Q2W(a:Int):∀ t:Ty,nodesTy a t=(preTy t).map λu=>TNode.ty u a
 |.mk k n s l b=>by simp only[nodesTy,preTy,Yi,Q6o a l]
theorem Q6o(a:Int):∀ l:List Ty,nodesTys a l=(preTys l).map λu=>TNode.ty u a
 |[]=>rfl
 |t::l=>by simp only[nodesTys,preTys,List.map_append,Q2W a t,Q6o a l]
end
mutual
theorem Q6q:∀ t:Ty,(preTy t).length=t.size
 |.mk k n s l b=>by simp only[preTy,Ty.size,Yg,Q8I l]
theorem Q8I:∀ l:List Ty,(preTys l).length=Ty.sizes l
 |[]=>rfl
 |t::l=>by simp only[preTys,Ty.sizes,Ye,Q6q t,Q8I l]
end
mutual
theorem Q9Z(p:Ty->Bool):∀ t:Ty,allTy p t=(preTy t).all p
 |.mk k n s l b=>by simp only[allTy,preTy,List.all_cons,Q8i p l]
theorem Q8i(p:Ty->Bool):∀ l:List Ty,allTys p l=(preTys l).all p
 |[]=>rfl
 |t::l=>by simp only[allTys,preTys,List.all_append,Q9Z p t,Q8i p l]
end
theorem NamesTy.pre{t:Ty}(h:NamesTy t):∀ u ∈ preTy t,u.name.length<2^40:=λu hu=>by
 have:=h (.ty u 0) (by rw[Q2W];exact List.mem_map.2 ⟨u,hu,rfl⟩)
 exact this
def placeR(n:Int)(l:List Int):Int:=match placeI n l 0 with|some i=>i|none=> -1
end Go.Am
namespace Go.Am
open Go
mutual
def eqTy:Ty->Ty->Bool
 |.mk k n s l _,.mk k' n' s' l' _=>decide (k=k')&&decide (n=n')&&decide (s=s')&&eqTys l l'
def eqTys:List Ty->List Ty->Bool
 |[],[]=>true
 |t::l,u::m=>eqTy t u&&eqTys l m
 |_,_=>false
end
theorem Q66:∀ l m:List Ty,l.length≠m.length->eqTys l m=false
 |[],[],h=>absurd rfl h
 |[],_::_,_=>by simp only[eqTys]
 |_::_,[],_=>by simp only[eqTys]
 |t::l,u::m,h=>by rw[eqTys,Q66 l m (by simpa using h),Bool.and_false]
end Go.Am
namespace Go.Proofs.YtobelgghegmhhaaGreatDoor
open Go Go.Am
theorem Q4p(n:Int)(s:St):cw (.f Q2m) [.int .u8 n] s=some (.ret (.val (.bool (smallB n))),s):=by
 rw[Qbi];simp only[go_sem];rfl
theorem Q4n(n:Int)(s:St):cw (.f Q2i) [.int .u8 n] s=some (.ret (.val (.bool (greatB n))),s):=by
 rw[Qbe];simp only[go_sem];rfl
theorem Q4o(n:Int)(s:St):cw (.f Q2j) [.int .i64 n] s=some (.ret (.val (.bool (isIntB n))),s):=by
 rw[Qbf];simp only[go_sem,Int.reduceNeg];rfl
theorem Qbh(l:Str)(pre:Str):∀ (suf:Str) (s:St),pre++suf=l->l.length<2^62->Q1P (.val (.str l)) (.val (.int .i64 pre.length)) s=some (.ret (.val (.bool (restAll suf&&decide (l.length<=32)))),s):=by
 intro suf
 induction suf generalizing pre with
 |nil=>
   intro s h hl
   rw[List.append_nil] at h
   subst h
   rw[Q52];simp only[Qbu,Qbs,Q5j Qi,Q3y,Q5b,Q3A]
   rw[Q9r (by simp)]
   simp only[go_sem]
   simp[restAll]
   omega
 |cons c suf ih=>
   intro s h hl
   have hc:l[pre.length]? = some c:=by rw[<-h];simp
   have hlt:pre.length<l.length:=by rw[<-h];simp
   have:=ih (pre++[c]) s (by simp[h]) hl
   rw[Q52]
   simp only[Qbu,Qbs,Q5j Qi,Q3y,Q5b,Q3A]
   rw[Q9s (by simpa using hlt),Q0Q Qi hc]
   simp only[go_sem,Q4p,Q4n]
   rw[wrap64 (by omega) (by omega)]
   have e:(pre.length:Int)+1=((pre++[c]).length:Int):=by simp
   rw[e,this]
   simp only[go_sem,restAll,List.all_cons,unrestB]
   cases (!smallB c.toNat && !greatB c.toNat&&(decide ((c.toNat:Int)<48) || decide ((c.toNat:Int)>57)) && !decide ((c.toNat:Int)=39))<;>simp
theorem Q5H(l:Str)(s:St)(h0:l≠[])(hl:l.length<2^62):cw (.f Q2l) [.str l] s=some (.ret (.val (.bool (runB l))),s):=by
 rw[Qdv]
 cases l with
 |nil=>exact absurd rfl h0
 |cons c l=>exact Qbh (c::l) [c] l s rfl hl
theorem Q4Y(a b:Str)(s:St)(h:a.length<4294967281):cw (.f Q1i) [.str a,.str b] s=some (.ret (.val (.bool (Go.Lib.contains a b))),s):=by
 have e:C.ext Q1i=some (pureX extContains):=by kernel_rfl
 rw[cw,Q5];unfold callR;rw[e];simp[pureX,extContains,h]
theorem Q3o(l:Str)(s:St)(hl:l.length<2^62):cw (.f Q1v) [.str l] s=some (.ret (.val (.bool (capB l))),s):=by
 rw[Q92]
 by_cases h0:l=[]
 ·subst h0;simp only[go_sem];rfl
 ·simp only[go_sem,h0,Q4n,not_false_eq_true,ZP Qi h0,Q5H l s h0 hl]
  simp[capB,h0,headB]
theorem Q27(l:Str)(s:St)(hl:l.length<2^62):cw (.f Q06) [.str l] s=some (.ret (.val (.bool (conB l))),s):=by
 rw[Q5M]
 simp only[go_sem,Q3o l s hl]
 rfl
theorem Q0Z(l:Str)(s:St)(hl:l.length<2^62):cw (.f Q0N) [.str l] s=some (.ret (.val (.bool (lowB l))),s):=by
 rw[Qdu]
 by_cases h0:l=[]
 ·subst h0;simp only[go_sem];rfl
 ·have hk:Q8b=wordsS:=by decide +kernel
  have hc:=λb s=>Q4Y wordsS b s (by decide +kernel)
  simp only[go_sem,h0,Q4p,not_false_eq_true,ZP Qi h0,Q5H l s h0 hl,Qa3 (C.ti Q0) [32] l (by simp;omega),Qa3 (C.ti Q0) (32::l) [32] (by simp;omega),hk,hc]
  simp[lowB,h0,headB,Bool.and_assoc]
open Go Go.Am
set_option maxRecDepth 4000
theorem Q73(t:Ty)(s:St)(hn:t.name.length<2^62):cw (.f Q0u) [t.enc] s=some (.ret (.val (.int .i64 (wrongTyB t))),s):=by
 obtain⟨k,n,nm,l,nl⟩:=t
 rw[Q97]
 simp only[go_sem,Nat.reduceAdd,Nat.reduceLeDiff,Q6G,Q6H,Q0Z nm _ hn]
 show _=some (Out.ret (.val (.int .i64 (wrongTyC k n nm l.length))),s)
 delta wrongTyC tyLM
 generalize decide (nm=[105,110,116])=x1
 generalize decide (nm=[98,111,111,108])=x2
 generalize decide (nm=[117,110,105,116])=x3
 generalize decide (nm=[101,120,110])=x4
 generalize decide (nm=[114,101,102])=x5
 generalize decide (nm=[45,62])=x6
 generalize decide (nm=[42])=x7
 generalize lowB nm=x8
 cases x1<;>cases x2<;>cases x3<;>cases x4<;>cases x5<;>cases x6<;>cases x7<;>cases x8<;>rfl
theorem Q6F(t:Pat)(s:St)(hn:t.name.length<2^62):cw (.f Q1e) [t.enc] s=some (.ret (.val (.int .i64 (wrongPatB t))),s):=by
 obtain⟨k,a,nm,n,l,nl⟩:=t
 rw[Q88]
 have hk:k=1\/k=2\/k=3\/k=4\/k=5\/k=6\/(k<1\/k>6):=by omega
 rcases hk with rfl|rfl|rfl|rfl|rfl|rfl|hk
 rotate_left 6
 ·simp only[go_sem,Nat.reduceAdd,decide_eq_false (show ¬ k=1 by omega),decide_eq_false (show ¬ k=2 by omega),decide_eq_false (show ¬ k=3 by omega),decide_eq_false (show ¬ k=4 by omega),decide_eq_false (show ¬ k=5 by omega),decide_eq_false (show ¬ k=6 by omega)]
  have:(decide (k<1) || decide (k>6))=true:=by simpa using hk
  have e:wrongPatB (Pat.mk k a nm n l nl)=29:=by
   show (bif (decide (k<1) || decide (k>6)) then (29:Int) else _)=29
   rw[this];rfl
  rw[e]
 all_goals
  simp only[go_sem,Int.reduceEq,Int.reduceGT,Int.reduceLT,Nat.reduceAdd,Nat.reduceLeDiff,Q5P,Q0Z nm _ hn,Q27 nm _ hn,Q4o,wrongPatB,patLM,Pat.kind,Pat.name,Pat.n,Pat.kids]
  try rfl
theorem Q6C(c:Con)(s:St)(hn:c.name.length<2^62):cw (.f Q2n) [c.enc] s=some (.ret (.val (.int .i64 (wrongConB c))),s):=by
 rw[Q86]
 simp only[go_sem,Nat.reduceAdd,Nat.reduceLeDiff,Con.cells,Ty.cells_eq,Q3o _ _ hn]
 rfl
theorem Q6E(e:Exp)(s:St)(hn:e.name.length<2^62):cw (.f Q2o) [e.enc] s=some (.ret (.val (.int .i64 (wrongExpB e))),s):=by
 obtain⟨k,a,nm,n,l,lb,c,cb,d,db⟩:=e
 rw[Q87]
 have hk:k=1\/k=2\/k=3\/k=4\/k=5\/k=6\/k=7\/k=8\/k=9\/k=10\/k=11\/k=12\/k=13\/k=14\/k=15\/k=16\/k=17\/k=18\/k=19\/k=20\/(k<1\/k>20):=by omega
 rcases hk with rfl|rfl|rfl|rfl|rfl|rfl|rfl|rfl|rfl|rfl|rfl|rfl|rfl|rfl|rfl|rfl|rfl|rfl|rfl|rfl|hk
 rotate_left 20
 ·simp only[go_sem,Nat.reduceAdd,Nat.reduceLeDiff,Q51,Q3r,Q3s,Q3t,decide_eq_false (show ¬ k=1 by omega),decide_eq_false (show ¬ k=2 by omega),decide_eq_false (show ¬ k=3 by omega),decide_eq_false (show ¬ k=4 by omega),decide_eq_false (show ¬ k=5 by omega),decide_eq_false (show ¬ k=6 by omega),decide_eq_false (show ¬ k=7 by omega),decide_eq_false (show ¬ k=8 by omega),decide_eq_false (show ¬ k=9 by omega),decide_eq_false (show ¬ k=10 by omega),decide_eq_false (show ¬ k=11 by omega),decide_eq_false (show ¬ k=12 by omega),decide_eq_false (show ¬ k=13 by omega),decide_eq_false (show ¬ k=14 by omega),decide_eq_false (show ¬ k=15 by omega),decide_eq_false (show ¬ k=16 by omega),decide_eq_false (show ¬ k=17 by omega),decide_eq_false (show ¬ k=18 by omega),decide_eq_false (show ¬ k=19 by omega),decide_eq_false (show ¬ k=20 by omega)]
  have h:(decide (k<1) || decide (k>20))=true:=by simpa using hk
  have e:wrongExpB (Exp.mk k a nm n l lb c cb d db)=29:=by
   show (bif (decide (k<1) || decide (k>20) || _ || _ || _ || _ || _) then (29:Int) else _)=29
   rw[h];rfl
  rw[e]
 all_goals
  simp only[go_sem,Int.reduceEq,Int.reduceGT,Int.reduceLT,Nat.reduceAdd,Nat.reduceLeDiff,Q51,Q3r,Q3s,Q3t,Q0Z nm _ hn,Q27 nm _ hn,Q4o,wrongExpB,expLM,Exp.kind,Exp.name,Exp.n,Exp.kids,Exp.cases,Exp.decs]
  try rfl
theorem Q6D(d:Dec)(inn:Bool)(a:Int)(r:List AV)(s:St)(hn:d.name.length<2^62):cw (.f Zt) [.agg [.cp (d.cells++r),.bool inn,.nilp,.nilp,.nilp,.nilp,.nilp,.int .i64 a]] s=some (.ret (.val (.int .i64 (wrongDecB d inn))),s):=by
 obtain⟨k,at_,nm,p,l,nb,c,cb,f,fb⟩:=d
 rw[Q4D]
 simp only[go_sem,Nat.reduceAdd,Q0Z nm _ hn,Q3F]
 show _=some (Out.ret (.val (.int .i64 (wrongDecC k nm p l.length c.length f.length inn))),s)
 delta wrongDecC
 generalize decide (k=1)=x1
 generalize decide (k=2)=x2
 generalize decide (k=3)=x3
 generalize decide (k=4)=x4
 cases x1<;>cases x2<;>cases x3<;>cases x4<;>rfl
open Go Go.Am
set_option maxRecDepth 4000
theorem Q5w(nd:TNode)(r:List AV)(s:St):cw (.f Q1E) [nd.thing r] s=some (.ret (.val (.bool nd.isNode)),s):=by
 rw[Q6B]
 cases nd<;>simp only[go_sem,Nat.reduceAdd,TNode.thing,TNode.isNode]
theorem Q53(nd:TNode)(r:List AV)(s:St)(h:nd.name.length<2^40):cw (.f Q07) [nd.thing r] s=some (.ret (.val nd.bad.enc),s):=by
 rw[Q5N]
 have key:∀ (e a:Int) (nm:Str) (v:List Slot) (s:St),v.getD 7 .und = .val (.int .i64 a)->v.length=8->Qr v [.val (.int .i64 0),.val (.int .i64 0),.val (.str [])] (.val (.int .i64 e)) (.val (.str nm)) s=some (.ret (.val (mkBad e a nm).enc),s):=by
  intro e a nm v s hv hl
  have hd:(v.drop 7).take 1=[.val (.int .i64 a)]:=by
   match v,hl with
   |[_,_,_,_,_,_,_,x],_=>simpa using hv
  rw[Q4E]
  by_cases h0:e=0
  ·subst h0
   simp only[go_sem,Int.reduceEq,Nat.reduceAdd,Nat.reduceLeDiff,hd]
   rfl
  ·by_cases h8:e=8
   ·subst h8
    simp only[go_sem,Int.reduceEq,Nat.reduceAdd,Nat.reduceLeDiff,hd]
    rfl
   ·simp only[go_sem,Nat.reduceAdd,Nat.reduceLeDiff,hd,decide_eq_false h0,decide_eq_false h8,mkBad]
    rfl
 cases nd with
 |dec inn d=>
   have hn:d.name.length<2^62:=by simp only[TNode.name] at h;omega
   have hw:=λs=>Q6D d inn d.at_ r s hn
   obtain⟨k,a,nm,p,l,nb,c,cb,f,fb⟩:=d
   simp only[go_sem,Exp.enc,Pat.enc,Ty.enc,Dec.enc] at hw
   simp only[go_sem,Nat.reduceAdd,Nat.reduceLeDiff,TNode.thing,hw]
   exact key _ _ _ _ _ rfl rfl
 |exp e=>
   have hn:e.name.length<2^62:=by simp only[TNode.name] at h;omega
   have hw:=λs=>Q6E e s hn
   obtain⟨k,a,nm,n,l,lb,c,cb,d,db⟩:=e
   simp only[go_sem,Exp.enc,Pat.enc,Ty.enc,Dec.enc] at hw
   simp only[go_sem,Nat.reduceAdd,Nat.reduceLeDiff,TNode.thing,hw]
   exact key _ _ _ _ _ rfl rfl
 |pat e=>
   have hn:e.name.length<2^62:=by simp only[TNode.name] at h;omega
   have hw:=λs=>Q6F e s hn
   obtain⟨k,a,nm,n,l,lb⟩:=e
   simp only[go_sem,Exp.enc,Pat.enc,Ty.enc,Dec.enc] at hw
   simp only[go_sem,Nat.reduceAdd,Nat.reduceLeDiff,TNode.thing,hw]
   exact key _ _ _ _ _ rfl rfl
 |ty e a=>
   have hn:e.name.length<2^62:=by simp only[TNode.name] at h;omega
   have hw:=λs=>Q73 e s hn
   obtain⟨k,n,nm,l,lb⟩:=e
   simp only[go_sem,Exp.enc,Pat.enc,Ty.enc,Dec.enc] at hw
   simp only[go_sem,Nat.reduceAdd,Nat.reduceLeDiff,TNode.thing,hw]
   exact key _ _ _ _ _ rfl rfl
 |fn f=>
   have hn:f.name.length<2^62:=by simp only[TNode.name] at h;omega
   have hw:=λs=>Q0Z f.name s hn
   obtain⟨nm,a,c⟩:=f
   simp only[Fun.name] at hw
   have k0:=λv s h1 h2=>key 0 a nm v s h1 h2
   have k8:=λv s h1 h2=>key 8 a nm v s h1 h2
   simp only[go_sem,Nat.reduceAdd,Nat.reduceLeDiff,TNode.thing,hw,Fun.at_]
   show _=some (Out.ret (.val (mkBad (bif !lowB nm then 8 else 0) a nm).enc),s)
   cases lowB nm
   ·simp only[go_sem];exact key 8 a nm _ s rfl rfl
   ·simp only[go_sem];exact key 0 a nm _ s rfl rfl
 |con c=>
   have hn:c.name.length<2^62:=by simp only[TNode.name] at h;omega
   have hw:=λs=>Q6C c s hn
   obtain⟨nm,a,hs,arg⟩:=c
   simp only[go_sem,Con.enc,Con.cells] at hw
   simp only[go_sem,Nat.reduceAdd,Nat.reduceLeDiff,TNode.thing,Con.cells,hw]
   exact key _ _ _ _ _ rfl rfl
open Go Go.Am
set_option maxRecDepth 4000
theorem Q3p(L:List Pat)(x:Slot)(hx:x.list? = some (L.map Pat.enc))(hl:L.length<2^40):∀ (suf pre:List Pat) (n:Int) (s:St) (i:Nat),pre++suf=L->i=pre.length->(∀ t ∈ suf,∀ s,cw (.f ZU) [t.enc] s=some (.ret (.val (.int .i64 (deepPat t))),s))->0<=n->n<2^40->Pat.sizes suf<2^40->
  Q0h (.val (.int .i64 n)) x (.val (.int .i64 L.length)) (.val (.int .i64 i)) s=some (.ret (.val (.int .i64 (deepPats suf n+1))),s)
 |[],pre,n,s,i,h,hi,H,h0,h1,h2=>by
   subst hi
   rw[Q37];simp only[go_sem,Ql (by simpa using h)]
   rw[wrap64 (by omega) (by omega)];rfl
 |t::suf,pre,n,s,i,h,hi,H,h0,h1,h2=>by
   subst hi
   obtain⟨f1,f2,f3⟩:=Qh hx h (by omega) (Pat.cells_len t) (by decide)
   have ht:=Q8p t
   have hm:=Qin n (deepPat t) (2^40 - 1)
   have hn:=Qil n (deepPat t)
   simp only[Pat.sizes] at h2
   rw[Q37];simp only[go_sem,Nat.reduceAdd,Nat.reduceLeDiff,f1,f2,f3,H t (Yc)]
   exact Q3p L x hx hl suf (pre++[t]) _ s _ (by simpa using h) (by simp) (λu hu=>H u (Yb _ hu)) (by omega) (by omega) (by omega)
theorem Q3q:∀ (m:Nat) (t:Pat) (s:St),t.size<=m->t.size<2^40->cw (.f ZU) [t.enc] s=some (.ret (.val (.int .i64 (deepPat t))),s)
 |0,.mk _ _ _ _ _ _,_,h,_=>by simp only[Pat.size] at h;omega
 |m+1,.mk k a nm n l nl,s,h,h'=>by
   simp only[Pat.size] at h h'
   have hl:=Pat.len_sizes l
   rw[Q94];simp only[go_sem,Nat.reduceAdd,Nat.reduceLeDiff,Pat.enc]
   exact Q3p l _ (by simp only[go_sem]) (by omega) l [] 0 s 0 rfl rfl (λu hu s=>by have:=Pat.mem_sizes hu;exact Q3q m u s (by omega) (by omega)) (by omega) (by omega) (by omega)
open Go Go.Am
set_option maxRecDepth 4000
section
variable {σ:Type} (step:TNode->σ->σ × Bool)
def walk:List TNode->σ->σ × Bool
 |[],st=>(st,true)
 |n::l,st=>bif (step n st).2 then walk l (step n st).1 else step n st
theorem QhC(a b:List TNode)(st:σ):walk step (a++b) st=bif (walk step a st).2 then walk step b (walk step a st).1 else walk step a st:=by
 induction a generalizing st with
 |nil=>rfl
 |cons n a ih=>
   simp only[Yk,walk]
   cases h:(step n st).2
   ·simp only[cond_false,h]
   ·simp only[cond_true];exact ih _
variable (R:σ × Bool->St->Prop) (P:TNode->Prop) (loc:Nat)
def YOK:Prop:=∀ nd r st s,P nd->R (st,true) s->∃ s',cw (.y loc) [nd.thing r] s=some (.ret (.val (.bool (step nd st).2)),s')/\R (step nd st) s'
def WOK(f:Nat)(args:List AV)(l:List TNode):Prop:=(∀ n ∈ l,P n)->∀ st s,R (st,true) s->∃ s',cw (.f f) args s=some (.ret (.val (.bool (walk step l st).2)),s')/\R (walk step l st) s'
abbrev wk:AV:=.agg [.yld loc]
variable {step} {R} {P} {loc}
theorem QdZ{st:σ × Bool}{s':St}(hb:st.2=true)(h:R st s'):R (st.1,true) s':=by rw[<-hb];exact h
theorem Q42(hY:YOK step R P loc)(t:Pat)(r:List AV)(hl:t.kids.length<2^40):∀ (suf pre:List Pat) (st:σ) (s:St) (i:Nat),pre++suf=t.kids->i=pre.length->(∀ u ∈ suf,∀ r,WOK step R P Z7 [wk loc,.cp (u.cells++r)] (nodesPat u))->(∀ n ∈ nodesPats suf,P n)->R (st,true) s->
  ∃ s',Zf (.val (.cp (t.cells++r))) [.val (.yld loc)] (.val (.int .i64 t.kids.length)) (.val (.int .i64 i)) s=some (.ret (.val (.bool (walk step (nodesPats suf) st).2)),s')/\R (walk step (nodesPats suf) st) s'
 |[],pre,st,s,i,h,hi,H,hP,hR=>by
   subst hi
   rw[Q1Q];simp only[go_sem,Nat.reduceAdd,Nat.reduceLeDiff,Ql (by simpa using h),nodesPats,walk]
   exact⟨s,rfl,hR⟩
 |u::suf,pre,st,s,i,h,hi,H,hP,hR=>by
   subst hi
   obtain⟨f1,f2,f3⟩:=Qh (x:=.val (encS t.kb (t.kids.map Pat.enc))) (Qe _ _) h (by omega) (Pat.cells_len u) (by decide)
   simp only[nodesPats] at hP |-
   obtain⟨s1,e1,g1⟩:=H u (Yc) [] (λn hn=>hP n (Ym _ hn)) st s hR
   rw[Q1Q]
   rw[QhC]
   cases hb:(walk step (nodesPat u) st).2 with
   |false=>
     rw[hb] at e1
     simp only[go_sem,Nat.reduceAdd,Nat.reduceLeDiff,Pat.cells_eq,f1] at e1 f2 |-
     simp only[go_sem,Nat.reduceAdd,Nat.reduceLeDiff,f2,e1,hb]
     exact⟨s1,rfl,g1⟩
   |true=>
     rw[hb] at e1
     obtain⟨s2,e2,g2⟩:=Q42 hY t r hl suf (pre++[u]) (walk step (nodesPat u) st).1 s1 (pre.length+1) (by simpa using h) (by simp) (λw hw=>H w (Yb _ hw)) (λn hn=>hP n (Yq _ hn)) (QdZ hb g1)
     refine⟨s2,?_,g2⟩
     rw[cond_true,<-e2]
     simp only[go_sem,Nat.reduceAdd,Nat.reduceLeDiff,Pat.cells_eq,f1] at e1 f2 |-
     simp only[go_sem,Nat.reduceAdd,Nat.reduceLeDiff,f2,e1,f3]
theorem Q43(hY:YOK step R P loc):∀ (m:Nat) (t:Pat) (r:List AV),t.size<=m->t.size<2^40->WOK step R P Z7 [wk loc,.cp (t.cells++r)] (nodesPat t)
 |0,.mk _ _ _ _ _ _,_,h,_=>by simp only[Pat.size] at h;omega
 |m+1,.mk k a nm n l nl,r,h,h'=>λhP st s hR=>by
   simp only[Pat.size] at h h'
   have hl:=Pat.len_sizes l
   simp only[nodesPat] at hP |-
   obtain⟨s1,e1,g1⟩:=hY (.pat (.mk k a nm n l nl)) r st s (hP _ (Yc)) hR
   rw[Q5O]
   simp only[walk]
   cases hb:(step (.pat (.mk k a nm n l nl)) st).2 with
   |false=>
     rw[hb] at e1
     simp only[go_sem,Nat.reduceAdd,Nat.reduceLeDiff,TNode.thing,Pat.at_] at e1 |-
     simp only[go_sem,e1,hb]
     exact⟨s1,rfl,g1⟩
   |true=>
     rw[hb] at e1
     obtain⟨s2,e2,g2⟩:=Q42 hY (.mk k a nm n l nl) r (by simp only[Pat.kids];omega) l [] (step (.pat (.mk k a nm n l nl)) st).1 s1 0 rfl rfl (λu hu r=>by have:=Pat.mem_sizes hu;exact Q43 hY m u r (by omega) (by omega)) (λn hn=>hP n (Yb _ hn)) (QdZ hb g1)
     refine⟨s2,?_,g2⟩
     rw[cond_true,<-e2]
     simp only[go_sem,Nat.reduceAdd,Nat.reduceLeDiff,TNode.thing,Pat.at_] at e1 |-
     simp only[go_sem,e1,Pat.kids]
     rfl
end
end Go.Proofs.YtobelgghegmhhaaGreatDoor
namespace Go.Am
open Go
abbrev TkB:=List Nat × List (Nat × TypeId)
def St.tb(s:St):TkB:=(s.toks,s.bl)
def lay0(L:List Obj)(cs:List Slot)(g:List Obj)(T:TkB):St:=⟨L++(.var cs::g),T.1,T.2⟩
def lay(L:List Obj)(cs:List Slot)(g:List Obj)(o:Obj)(a:List Obj)(T:TkB):St:=⟨L++(.var cs::(g++(o::a))),T.1,T.2⟩
def reL(st:LSt)(p:Option AExit):Obj->Obj
 |.loop _ _ f e ps a b=>.loop st p f e ps a b
 |o=>o
def isReady:Obj->Bool
 |.loop .ready none _ _ _ _ _=>true
 |_=>false
theorem Q3C{o:Obj}(h:isReady o=true):∃ f e ps a b,o = .loop .ready none f e ps a b:=by
 cases o with
 |loop st p f e ps a b=>cases st<;>cases p<;>first|exact⟨f,e,ps,a,b,rfl⟩|cases h
 |_=>cases h
section
variable (L:List Obj) (cs cs':List Slot) (g a:List Obj) (o:Obj) (T:TkB) (t:TI) (p:Option AExit) (st:LSt)
@[go_sem] theorem QgY:ldV t false (lay0 L cs g T) (.val (.vp L.length 0))=ofSlots t (cs.take t.size):=by
  simp[ldV,lay0]
@[go_sem] theorem Qrd:ldV t false (lay L cs g o a T) (.val (.vp L.length 0))=ofSlots t (cs.take t.size):=QgY ..
variable {cs cs'} in
@[go_sem] theorem QcG(h:cs'.length=cs.length):stV (lay0 L cs g T) (.val (.vp L.length 0)) cs'=some (lay0 L cs' g T):=by
  simp[stV,lay0,putAt,h]
variable {cs cs'} in
@[go_sem] theorem Q9S(h:cs'.length=cs.length):stV (lay L cs g o a T) (.val (.vp L.length 0)) cs'=some (lay L cs' g o a T):=QcG _ _ _ h
theorem Q6g:(lay L cs g o a T).locs[L.length+1+g.length]? = some o:=by
 simp only[lay]
 rw[List.getElem?_append_right (by omega),show L.length+1+g.length - L.length=g.length+1 by omega,List.getElem?_cons_succ,List.getElem?_append_right (by omega)]
 simp
theorem QdU(o':Obj):(lay L cs g o a T).locs.set (L.length+1+g.length) o'=L++(.var cs::(g++(o'::a))):=by
 simp only[lay]
 rw[List.set_append_right _ _ (by omega),show L.length+1+g.length - L.length=g.length+1 by omega,List.set_cons_succ,List.set_append_right _ _ (by omega)]
 simp
variable {o} in
@[go_sem] theorem Q8k(h:isReady o=true):beginL (L.length+1+g.length) (lay L cs g o a T)=some (lay L cs g (reL .busy none o) a T):=by
  obtain⟨f,e,ps,x,y,rfl⟩:=Q3C h
  unfold beginL
  rw[Q6g]
  simp only[QdU];rfl
variable {o} in
theorem Q4A(h:isReady o=true)(q:LSt)(r:Option AExit):setLoop (L.length+1+g.length) q r (lay L cs g (reL st p o) a T)=some (lay L cs g (reL q r o) a T):=by
 obtain⟨f,e,ps,x,y,rfl⟩:=Q3C h
 unfold setLoop
 rw[Q6g]
 simp only[reL,QdU];rfl
variable {o} in
theorem Q2Z(h:isReady o=true):reL .ready none o=o:=by
 obtain⟨f,e,ps,x,y,rfl⟩:=Q3C h
 rfl
variable {o} in
theorem QbM(h:isReady o=true)(hs:st≠.busy)(kn kr:St->Res)(ke:Nat->St->Res):endX (L.length+1+g.length) (lay L cs g (reL st p o) a T) kn kr ke=pendX p kn kr ke (lay L cs g (reL .exhausted p o) a T):=by
 have e1:=Q4A L cs g a T p st h .exhausted p
 obtain⟨f,e,ps,x,y,rfl⟩:=Q3C h
 simp only[reL] at e1 |-
 unfold endX
 rw[Q6g]
 cases st<;>first|(exact absurd rfl hs)|(simp only[e1];rfl)
theorem QdT:(lay0 L cs g T).locs.length=L.length+1+g.length:=by simp[lay0];omega
theorem QdS:(lay0 L cs g T).addLoc o=lay L cs g o [] T:=by simp[lay0,lay,St.addLoc]
end
theorem addVar(s:St)(cs:List Slot):s.addLoc (.var cs)=lay0 s.locs cs [] s.tb:=rfl
theorem Grew.lay0{s:St}(cs:List Slot)(g:List Obj){T:TkB}(h:∃ b,T.1=s.toks++b):Grew s (lay0 s.locs cs g T):=⟨⟨_,rfl⟩,h⟩
theorem Grew.lay{s:St}(cs:List Slot)(g:List Obj)(o:Obj)(a:List Obj){T:TkB}(h:∃ b,T.1=s.toks++b):Grew s (lay s.locs cs g o a T):=⟨⟨_,rfl⟩,h⟩
theorem Grew.layE{s:St}(cs:List Slot)(g:List Obj)(o:Obj)(a:List Obj):Grew s (Am.lay s.locs cs g o a s.tb):=⟨⟨_,rfl⟩,⟨[],by simp[Am.lay,St.tb]⟩⟩
theorem Grew.of_lay0{L:List Obj}{cs:List Slot}{T:TkB}{s:St}(h:Grew (Am.lay0 L cs [] T) s):∃ (g:List Obj) (T':TkB),s=Am.lay0 L cs g T'/\∃ b,T'.1=T.1++b:=by
 obtain⟨⟨a,ha⟩,b,hb⟩:=h
 refine⟨a,s.tb,?_,b,hb⟩
 obtain⟨l,t,u⟩:=s
 simp only[Am.lay0,St.tb] at ha |-
 rw[ha];simp
end Go.Am
namespace Go.Proofs.YtobelgghegmhhaaGreatDoor
open Go Go.Am
set_option maxRecDepth 4000
def cstep(most:Int)(n:TNode)(k:Int):Int × Bool:=(bif n.isNode then IntKind.i64.wrap (k+1) else k,!decide ((bif n.isNode then IntKind.i64.wrap (k+1) else k)≥most))
theorem Q5y(most:Int):∀ (l:List TNode) (n:Nat),(n:Int)<most->n+l.length<2^62->walk (cstep most) l n=(if ((n+countN l:Nat):Int)<most then (((n+countN l:Nat):Int),true) else (most,false))
 |[],n,h,_=>by simp[walk,countN,h]
 |u::l,n,h,hb=>by
   simp only[Yg] at hb
   have hw:IntKind.i64.wrap ((n:Int)+1)=((n+1:Nat):Int):=by rw[wrap64 (by omega) (by omega)];rfl
   simp only[walk,cstep]
   cases hu:u.isNode
   ·have e:countN (u::l)=countN l:=by simp[countN,hu]
    have e2:(!decide ((n:Int)≥most))=true:=by simpa using h
    simp only[cond_false,e2,cond_true,e]
    exact Q5y most l n h (by omega)
   ·have e:countN (u::l)=countN l+1:=by simp[countN,hu]
    simp only[cond_true,hw,e]
    by_cases h2:((n+1:Nat):Int)<most
    ·have e2:(!decide (((n+1:Nat):Int)≥most))=true:=by simpa using h2
     rw[e2,cond_true,Q5y most l (n+1) h2 (by omega),show n+1+countN l=n+(countN l+1) by omega]
    ·have e2:(!decide (((n+1:Nat):Int)≥most))=false:=by simpa using h2
     rw[e2,cond_false,if_neg (by omega)]
     congr 1;omega
def rstep(n:TNode)(b:TBad):TBad × Bool:=bif decide (n.bad.kind=0) then (b,true) else (n.bad,false)
theorem Q9g:∀ (l:List TNode) (b:TBad),walk rstep l b=bif l.all (λn=>decide (n.bad.kind=0)) then (b,true) else (firstBad l,false)
 |[],b=>rfl
 |u::l,b=>by
   simp only[walk,rstep,List.all_cons,firstBad]
   cases hu:decide (u.bad.kind=0)
   ·rfl
   ·simp only[cond_true,Bool.true_and]
    exact Q9g l b
theorem Q5B:∀ l:List TNode,l.all (λn=>decide (n.bad.kind=0))=true->firstBad l = .zero
 |[],_=>rfl
 |u::l,h=>by
   rw[List.all_cons,Ya] at h
   rw[firstBad,h.1,cond_true]
   exact Q5B l h.2
theorem QaF(nd:TNode)(r:List AV):boxCells (C.ti QZ) (.val (nd.thing r))=some ((nd.thing r).cells.map .val):=by cases nd<;>simp only[go_sem,Nat.reduceAdd,TNode.thing]
theorem QaG(nd:TNode)(r:List AV)(a b c d e f g h:Slot):putAt [a,b,c,d,e,f,g,h] 0 ((nd.thing r).cells.map .val)=some ((nd.thing r).cells.map .val):=by cases nd<;>rfl
theorem Q90(nd:TNode)(r:List AV):aggO (C.ti QZ) (avs (List.take 8 ((nd.thing r).cells.map .val)))=some (.val (nd.thing r)):=by cases nd<;>kernel_rfl
structure SeqOK (h:AV) (nodes:List TNode):Prop where
 ok:∃ g l,h = .fn g l/\(C.ext g).isSome=false/\∀ (σ:Type) (step:TNode->σ->σ × Bool) (R:σ × Bool->St->Prop) (P:TNode->Prop) (loc:Nat),YOK step R P loc->(∀ n ∈ nodes,P n)->∀ st s,R (st,true) s->
  ∃ v s',cw (.f g) (.yld loc::l) s=some (.ret v,s')/\R (walk step nodes st) s'
theorem SeqOK.range{h:AV}{nodes:List TNode}(H:SeqOK h nodes){σ:Type}{step:TNode->σ->σ × Bool}{R:σ × Bool->St->Prop}{P:TNode->Prop}{loc:Nat}(hY:YOK step R P loc)(hP:∀ n ∈ nodes,P n){st:σ}{s:St}(hR:R (st,true) s)(k:St->Res) :
  ∃ s',rangeC C cw (.val h) loc s k=k s'/\R (walk step nodes st) s':=by
 obtain⟨g,l,rfl,he,H⟩:=H.ok
 obtain⟨v,s',e,g'⟩:=H σ step R P loc hY hP st s hR
 refine⟨s',?_,g'⟩
 unfold rangeC
 have:tgtV (.val (.fn g l)) []=some (.f g,l):=rfl
 rw[this]
 simp only[he,cond_false,e]
 rfl
theorem Q72(t:Pat)(s:St)(h:t.size<2^40):∃ q,cw (.f Q2H) [t.enc] s=some (.ret (.val q),s)/\SeqOK q (nodesPat t):=by
 refine⟨.fn Q1Y [.cp t.cells],?_,⟨_,_,rfl,by kernel_rfl,λσ step R P loc hY hP st s hR=>?_⟩⟩
 ·rw[Q95];simp only[go_sem]
 ·obtain⟨s',e,g⟩:=Q43 hY t.size t [] (Yd _) h hP st s hR
  rw[List.append_nil] at e
  rw[Q71];simp only[go_sem,Nat.reduceAdd,Nat.reduceLeDiff,e]
  exact⟨_,s',rfl,g⟩
theorem Q93{h:AV}{nodes:List TNode}(H:SeqOK h nodes)(most:Nat)(hm:0<most)(hl:nodes.length<2^61)(s:St):Ret (cw (.f Q2h) [h,.int .i64 most] s) s (.int .i64 (min (countN nodes) most:Nat)):=by
 let o:=Q3f (.val (.cp [.int .i64 most])) (.val (.vp s.locs.length 0))
 have ho:isReady o=true:=rfl
 let R:Int × Bool->St->Prop:=λp s1=>s1=lay s.locs [.val (.int .i64 p.1)] [] (bif p.2 then o else reL .done (some (.exit 0)) o) [] s.tb
 have hY:YOK (cstep most) R (λ_=>True) (s.locs.length+1):=by
  rintro nd r st s1 - rfl
  simp only[cond_true]
  have b0:=Q6g s.locs [.val (.int .i64 st)] [] [] o s.tb
  rw[Yp,Nat.add_zero] at b0
  rw[cw,Qa4 b0]
  rw[Q84]
  have b1:=Q8k s.locs [.val (.int .i64 st)] [] [] s.tb ho
  have b2:∀ n st p q r,setLoop (s.locs.length+1) q r (lay s.locs [.val (.int .i64 n)] [] (reL st p o) [] s.tb)=_:=λn st p q r=>Q4A s.locs [.val (.int .i64 n)] [] [] s.tb p st ho q r
  simp only[Yp,Nat.add_zero] at b1
  simp only[go_sem,Nat.reduceAdd,Nat.reduceLeDiff,QaF,QaG,Q90,b1]
  simp only[go_sem,Nat.reduceAdd,Nat.reduceLeDiff,ZY (show (Slot.val (nd.thing r)).av=some (nd.thing r) from rfl),Q5w]
  have b3:∀ n st p v',stV (lay s.locs [.val (.int .i64 n)] [] (reL st p o) [] s.tb) (.val (.vp s.locs.length 0)) [.val v']=_:=λn st p v'=>Q9S s.locs [] [] (reL st p o) s.tb rfl
  cases hn:nd.isNode
  ·simp only[go_sem,b2,cstep,hn]
   cases hd:decide (st≥(most:Int))
   ·simp only[go_sem];exact⟨_,rfl,by simp only[R,Bool.not_false,cond_true,Q2Z ho]⟩
   ·simp only[go_sem];exact⟨_,rfl,by simp only[R,Bool.not_true,cond_false]⟩
  ·simp only[go_sem,b2,b3,cstep,hn]
   cases hd:decide (IntKind.i64.wrap (st+1)≥(most:Int))
   ·simp only[go_sem];exact⟨_,rfl,by simp only[R,Bool.not_false,cond_true,Q2Z ho]⟩
   ·simp only[go_sem];exact⟨_,rfl,by simp only[R,Bool.not_true,cond_false]⟩
 rw[Qbd]
 simp only[go_sem,Nat.reduceAdd,addVar,QdT,QdS]
 obtain⟨s',e,g⟩:=H.range hY (λ_ _=>trivial) (st:=0) (s:=lay s.locs [.val (.int .i64 0)] [] o [] s.tb) rfl (λs_10=>endX (s.locs.length+1) s_10 (λs_11=>bind1 (ldV (C.ti Q1) false s_11 (.val (.vp s.locs.length 0))) λv16=>some (.ret v16,s_11)) (λs_12=>some (.ret (.val (.int .i64 0)),s_12)) (λj s_13=>bif Nat.beq j 0 then (bind1 (ldV (C.ti Q1) false s_13 (.val (.vp s.locs.length 0))) λv16_1=>some (.ret v16_1,s_13)) else none))
 refine (congrArg (λr=>Ret r s (.int .i64 (min (countN nodes) most:Nat))) (Eq.trans rfl e)).mpr ?_
 have:=Q5y most nodes 0 (by omega) (by omega)
 rw[Nat.zero_add] at this
 rw[show ((0:Nat):Int)=0 from rfl] at this
 rw[this] at g
 have b2:∀ n st p,st≠.busy->∀ kn kr ke,endX (s.locs.length+1) (lay s.locs [.val (.int .i64 n)] [] (reL st p o) [] s.tb) kn kr ke=_:=λn st p hs kn kr ke=>QbM s.locs [.val (.int .i64 n)] [] [] s.tb p st ho hs kn kr ke
 subst g
 by_cases hc:(countN nodes:Int)<most
 ·rw[if_pos hc]
  simp only[cond_true]
  rw[<-Q2Z ho,b2 _ _ _ (by intro h;cases h),show min (countN nodes) most=countN nodes by omega]
  simp only[go_sem,Nat.reduceAdd,Nat.reduceLeDiff,pendX]
  exact Ret.mk (.layE _ _ _ _)
 ·rw[if_neg hc]
  simp only[cond_false]
  rw[b2 _ _ _ (by intro h;cases h),show min (countN nodes) most=most by omega]
  simp only[go_sem,Nat.reduceAdd,Nat.reduceLeDiff,pendX,Nat.beq]
  exact Ret.mk (.layE _ _ _ _)
def NumOK(d:AV)(n:Int):Prop:=∃ g l,d = .fn g l/\∀ s,cw (.f g) l s=some (.ret (.val (.int .i64 n)),s)
theorem Qgy(b:TBad):aggO (C.ti Qc) (avs (List.take 3 (b.cells.map .val)))=some (.val b.enc):=by kernel_rfl
theorem Q96{h d:AV}{nodes:List TNode}{n:Int}(H:SeqOK h nodes)(HD:NumOK d n)(hl:nodes.length<2^61)(hn:∀ nd ∈ nodes,nd.name.length<2^40)(s:St):Ret (cw (.f Q2k) [h,d] s) s (rightN nodes n).enc:=by
 rw[Qbg]
 obtain⟨s1,e1,g1⟩:=Q93 H 8193 (by decide) hl (s.addLoc (.var (TBad.zero.cells.map .val)))
 obtain⟨gf,gl,rfl,hd⟩:=HD
 rw[addVar] at e1 g1
 obtain⟨g,T,rfl,hT⟩:=g1.of_lay0
 have e0:s.addLoc (.var (List.map .val (C.ti Qc).zero))=lay0 s.locs (TBad.zero.cells.map .val) [] s.tb:=rfl
 rw[e0]
 rw[show ((8193:Nat):Int)=8193 from rfl] at e1
 have k1:∀ v:List AV,v.length=3->∀ r,Ret (some (.ret (.val r),lay0 s.locs (v.map .val) g T)) s r:=λv _ r=>Ret.mk (.lay0 _ _ hT)
 have k2:∀ (v:List AV) o a r,Ret (some (.ret (.val r),lay s.locs (v.map .val) g o a T)) s r:=λv o a r=>Ret.mk (.lay _ _ _ _ hT)
 have hst0:∀ x y z:AV,stV (lay0 s.locs (TBad.zero.cells.map .val) g T) (.val (.vp s.locs.length 0)) [.val x,.val y,.val z]=some (lay0 s.locs ([x,y,z].map .val) g T):=λx y z=>QcG _ _ _ rfl
 have hst:∀ (c:TBad) o x y z,stV (lay s.locs (c.cells.map .val) g o [] T) (.val (.vp s.locs.length 0)) [.val x,.val y,.val z]=some (lay s.locs ([x,y,z].map .val) g o [] T):=λc o x y z=>Q9S _ _ _ _ _ rfl
 have hb:∀ x y z:AV,aggO (C.ti Qc) (avs (List.take 3 ([x,y,z].map .val)))=some (.val (.agg [x,y,z])):=λx y z=>by kernel_rfl
 simp only[go_sem,Nat.reduceAdd,Nat.reduceLeDiff,e1,ZY (show (Slot.val h).av=some h from rfl),hd,hst0,hb]
 have hc:decide (((min (countN nodes) 8193:Nat):Int)>8192)=decide (countN nodes>8192):=by simp only[gt_iff_lt];congr 1;rw[eq_iff_iff];omega
 rw[hc]
 unfold rightN
 cases decide (countN nodes>8192) with
 |true=>simp only[go_sem];exact k1 [_,_,_] rfl _
 |false=>
   cases decide (n>100) with
   |true=>simp only[go_sem];exact k1 [_,_,_] rfl _
   |false=>
     simp only[go_sem,QdT,QdS]
     let o:=Q3g (.val (.vp s.locs.length 0))
     have ho:isReady o=true:=rfl
     let R:TBad × Bool->St->Prop:=λp s1=>s1=lay s.locs (p.1.cells.map .val) g (bif p.2 then o else reL .done (some .ret) o) [] T
     have hY:YOK rstep R (λnd=>nd.name.length<2^40) (s.locs.length+1+g.length):=by
      rintro nd r st s1 hP rfl
      simp only[cond_true]
      rw[cw,Qa4 (Q6g _ _ _ _ _ _),Q85]
      have b1:=Q8k s.locs (st.cells.map .val) g [] T ho
      have b2:∀ (c:List AV) st p q r,setLoop (s.locs.length+1+g.length) q r (lay s.locs (c.map .val) g (reL st p o) [] T)=_:=λc st p q r=>Q4A s.locs (c.map .val) g [] T p st ho q r
      simp only[go_sem,Nat.reduceAdd,Nat.reduceLeDiff,QaF,QaG,Q90,b1]
      simp only[go_sem,ZY (show (Slot.val (nd.thing r)).av=some (nd.thing r) from rfl),Q53 _ _ _ hP]
      unfold rstep
      generalize nd.bad=bd
      obtain⟨k,a,nm⟩:=bd
      obtain⟨k0,a0,nm0⟩:=st
      have b3:∀ p x y z x' y' z',stV (lay s.locs [.val x',.val y',.val z'] g (reL .busy p o) [] T) (.val (.vp s.locs.length 0)) [.val x,.val y,.val z]=some (lay s.locs ([x,y,z].map .val) g (reL .busy p o) [] T):=λp x y z x' y' z'=>Q9S _ _ _ _ _ rfl
      have b4:=b2 [.int .i64 k0,.int .i64 a0,.str nm0]
      have b5:=b2 [.int .i64 k,.int .i64 a,.str nm]
      simp only[List.map] at b3 b4 b5
      simp only[go_sem,Nat.reduceAdd,Nat.reduceLeDiff,TBad.enc,TBad.cells,b3,b4,b5]
      cases hk:decide (k=0)
      ·simp only[go_sem];exact⟨_,rfl,by simp only[R,cond_false];rfl⟩
      ·simp only[go_sem];exact⟨_,rfl,by simp only[R,cond_true,Q2Z ho];rfl⟩
     obtain⟨s',e,gR⟩:=H.range hY hn (st:=TBad.zero) (s:=lay s.locs (TBad.zero.cells.map .val) g o [] T) rfl (λs_11=>endX (s.locs.length+1+g.length) s_11 (λs_12=>bindS (stV s_12 (.val (.vp s.locs.length 0)) [.val (.int .i64 0),.val (.int .i64 0),.val (.str [])]) λs_15=>bind1 (ldV (C.ti Qc) false s_15 (.val (.vp s.locs.length 0))) λv=>some (.ret v,s_15)) (λs_13=>bind1 (ldV (C.ti Qc) false s_13 (.val (.vp s.locs.length 0))) λv=>some (.ret v,s_13)) (λj s_14=>bif Nat.beq j 0 then ( bindS (stV s_14 (.val (.vp s.locs.length 0)) [.val (.int .i64 0),.val (.int .i64 0),.val (.str [])]) λs_16=>bind1 (ldV (C.ti Qc) false s_16 (.val (.vp s.locs.length 0))) λv=>some (.ret v,s_16)) else ( (none:Res))))
     refine (congrArg (λr=>Ret r s (firstBad nodes).enc) e).mpr ?_
     have b2:∀ (c:List AV) st p,st≠.busy->∀ kn kr ke,endX (s.locs.length+1+g.length) (lay s.locs (c.map .val) g (reL st p o) [] T) kn kr ke=_:=λc st p hs kn kr ke=>QbM s.locs (c.map .val) g [] T p st ho hs kn kr ke
     rw[Q9g] at gR
     simp only[R] at gR
     subst gR
     cases ha:nodes.all λnd=>decide (nd.bad.kind=0)
     ·simp only[cond_false]
      rw[b2 _ _ _ (by intro h;cases h)]
      simp only[go_sem,pendX,Qgy]
      exact k2 _ _ _ _
     ·simp only[cond_true]
      rw[<-Q2Z ho,b2 _ _ _ (by intro h;cases h),Q5B _ ha]
      simp only[go_sem,Nat.reduceAdd,Nat.reduceLeDiff,pendX,hst,hb]
      exact k2 [_,_,_] _ _ _
end Go.Proofs.YtobelgghegmhhaaGreatDoor
namespace Go.Am
open Go
theorem TNode.ok_name{n:TNode}(h:n.ok):n.name.length<2^40:=by
 cases n<;>first|exact h|exact h.1
@[go_sem] theorem Qr3(f:FuncId)(v:AV):fnS f [.val v]=some (.val (.fn f [v])):=id rfl
end Go.Am
namespace Go.Proofs.YtobelgghegmhhaaGreatDoor
open Go Go.Am
set_option maxRecDepth 4000
section
variable (R:Nat->List Str->St->Prop) (loc:Nat)
variable {R} {loc}
end
theorem Q6A(t:Pat)(s:St)(h:t.size<2^26)(H:∀ n ∈ nodesPat t,n.ok):Ret (cw (.f Q2g) [t.enc] s) s (rightN (nodesPat t) (deepPat t)).enc:=by
 obtain⟨q,e1,hq⟩:=Q72 t s (by omega)
 have hlen:=Q6l t
 have hd:NumOK (.fn Q1D [.cp t.cells]) (deepPat t):=⟨_,_,rfl,λs=>by
  rw[Q6z];simp only[go_sem,Nat.reduceLeDiff,Q3q _ t s (Yd _) (by omega)]⟩
 obtain⟨s',e2,g2⟩:=Q96 hq hd (by omega) (λnd hn=>TNode.ok_name (H nd hn)) s
 revert e2
 generalize rightN _ _=b
 intro e2
 obtain⟨k,a,nm⟩:=b
 rw[Q83];simp only[go_sem,Nat.reduceAdd,Nat.reduceLeDiff,e1,ZY (show (Slot.val q).av=some q from rfl),e2,TBad.enc,TBad.cells]
 exact Ret.mk g2
open Go Go.Am
set_option maxRecDepth 4000
theorem Qbm(nm:Str)(s:St):cw (.f Q3w) [.str nm] s=some (.ret (.val (.tup [.int .i64 (givenB nm).1,.int .i64 (givenB nm).2.1,.bool (givenB nm).2.2])),s):=by
 rw[Qdz]
 simp only[go_sem,Q9T]
 delta givenB
 generalize decide (nm=[105,110,116])=x1
 generalize decide (nm=[98,111,111,108])=x2
 generalize decide (nm=[117,110,105,116])=x3
 generalize decide (nm=[101,120,110])=x4
 generalize decide (nm=[114,101,102])=x5
 generalize decide (nm=[45,62])=x6
 generalize decide (nm=[42])=x7
 cases x1<;>cases x2<;>cases x3<;>cases x4<;>cases x5<;>cases x6<;>cases x7<;>rfl
theorem QeF(nm:Str):decide ((rightN (nodesPat (.mk 2 0 nm 0 [] true)) (deepPat (.mk 2 0 nm 0 [] true))).kind=0)=lowB nm:=by
 have h1:countN (nodesPat (.mk 2 0 nm 0 [] true))=1:=by rfl
 have h2:deepPat (.mk 2 0 nm 0 [] true)=1:=by rfl
 simp only[rightN,h1,h2]
 simp only[nodesPat,nodesPats,firstBad]
 have h3:(TNode.pat (.mk 2 0 nm 0 [] true)).bad=mkBad (bif lowB nm then 0 else 8) 0 nm:=by
  simp only[TNode.bad,TNode.wrong,TNode.at_,wrongPatB,Pat.kind,Pat.name,Pat.n,Pat.kids,Pat.at_,patLM]
  cases lowB nm<;>rfl
 rw[h3]
 cases lowB nm<;>rfl
theorem QdA(nm:Str)(s:St)(hl:nm.length<2^40):Ret (cw (.f Q7A) [.str nm] s) s (.bool (lowB nm)):=by
 obtain⟨s1,e1,g1⟩:=Q6A (.mk 2 0 nm 0 [] true) s (by simp only[Pat.size,Pat.sizes];decide) (by
  intro n hn
  simp only[nodesPat,nodesPats,List.mem_cons,List.not_mem_nil,or_false] at hn
  subst hn
  exact⟨hl,by simp only[Pat.n];decide,by simp only[Pat.n];decide⟩)
 rw[<-QeF nm]
 revert e1
 generalize rightN _ _=b
 obtain⟨k,a,m⟩:=b
 intro e1
 simp only[go_sem,TBad.enc,TBad.cells,Pat.enc] at e1
 refine⟨s1,?_,g1⟩
 rw[Qgf]
 simp only[go_sem,Nat.reduceAdd,Nat.reduceLeDiff,e1]
theorem QcP(t:Ty)(s:St)(hl:t.name.length<2^40):Ret (cw (.f Q5R) [t.enc] s) s (.bool (goodB t)):=by
 obtain⟨s1,e1,g1⟩:=QdA t.name s hl
 have hg:=Qbm t.name
 unfold goodB goodC
 rw[QeY]
 simp only[go_sem,Nat.reduceAdd,Nat.reduceLeDiff,Ty.enc,Ty.cells_eq,hg,e1]
 generalize decide (t.kind=1)=a
 generalize decide (t.kind=2)=b
 generalize (decide (t.n=0)&&decide ((t.args.length:Int)≥(givenB t.name).1)&&decide ((t.args.length:Int)<=(givenB t.name).2.1))=c
 generalize (givenB t.name).2.2=d
 cases a<;>cases b<;>cases c<;>cases d<;>first|exact⟨_,rfl,g1⟩|exact⟨_,rfl,.refl _⟩
section
variable (L V:Nat)
def visF:AV:=.fn Q2q [.vp L 0,.vp V 0]
def Left(m:Int)(s:St):Prop:=s.locs[L]? = some (.var [.val (.int .i64 m)])/\s.locs[V]? = some (.var [.val (visF L V)])
def VisitOK(t:Ty):Prop:=∀ m s,Left L V m s->0<=m->m<2^40->∃ s' m' b,cw (.f Q2q) [t.enc,.vp L 0,.vp V 0] s=some (.ret (.val (.bool b)),s')/\(b=true↔(t.size:Int)<=m/\allTy goodB t=true)/\Left L V m' s'/\Moves [L] [] [] s s'/\(b=true->m'=m - t.size)/\-1<=m'/\m'<=m
theorem Left.grew{m:Int}{s s':St}(h:Left L V m s)(g:Grew s s'):Left L V m s':=⟨g.loc h.1,g.loc h.2⟩
theorem Q9d(hne:V≠L)(l:List Ty)(x:Slot)(hx:x.list? = some (l.map Ty.enc))(hl:l.length<2^40):∀ (suf pre:List Ty) (m:Int) (s:St) (i:Nat),pre++suf=l->i=pre.length->(∀ t ∈ suf,VisitOK L V t)->Left L V m s->0<=m->m<2^40->
  ∃ s' m' r,Qs x (.val (.fn ZV [.vp V 0])) (.val (.int .i64 l.length)) (.val (.int .i64 i)) s=some (.ret (.val (.int .i64 r)),s')/\(r<0↔(Ty.sizes suf:Int)<=m/\allTys goodB suf=true)/\Left L V m' s'/\Moves [L] [] [] s s'/\(r<0->m'=m - Ty.sizes suf)/\-1<=m'/\m'<=m
 |[],pre,m,s,i,h,hi,H,hL,h0,h1=>by
   subst hi
   refine⟨s,m,-1,?_,?_,hL,.refl _ _ _,by simp[Ty.sizes],by omega,Int.le_refl _⟩
   ·rw[Qt];simp only[go_sem,Int.reduceNeg,Ql (by simpa using h)]
   ·simp[Ty.sizes,allTys,h0]
 |t::suf,pre,m,s,i,h,hi,H,hL,h0,h1=>by
   subst hi
   obtain⟨f1,f2,f3⟩:=Qh hx h (by omega) (Ty.cells_len t) (by decide)
   obtain⟨s1,m1,b,e1,d1,l1,v1,q1,b1,b1'⟩:=H t Yc m s hL h0 h1
   have e2:cw (.f ZV) [t.enc,.vp V 0] s=some (.ret (.val (.bool (!b))),s1):=by
    rw[Q99]
    simp only[go_sem,Nat.reduceAdd,Nat.reduceLeDiff,QS hL.2,visF,e1]
   rw[Qt]
   simp only[go_sem,Int.reduceNeg,Nat.reduceLeDiff,f1,f2,f3,e2]
   have hsz:Ty.sizes (t::suf)=t.size+Ty.sizes suf:=rfl
   have hall:allTys goodB (t::suf)=(allTy goodB t&&allTys goodB suf):=rfl
   cases b with
   |true=>
     have hm1:=q1 rfl
     have hd:=d1.1 rfl
     obtain⟨s2,m2,r,e3,d3,l3,v3,q3,b3,b3'⟩:=Q9d hne l x hx hl suf (pre++[t]) m1 s1 (pre.length+1) (by simpa using h) (by simp) (λw hw=>H w (Yb _ hw)) l1 (by omega) (by omega)
     refine⟨s2,m2,r,by simp only[go_sem,e3],?_,l3,v1.trans v3,λhr=>by rw[q3 hr,hm1,hsz];omega,b3,by omega⟩
     rw[d3,hsz,hall,hd.2,Bool.true_and,hm1]
     constructor<;>rintro⟨g1,g2⟩<;>exact⟨by omega,g2⟩
   |false=>
     refine⟨s1,m1,pre.length,by simp only[go_sem],?_,l1,v1,λhr=>by omega,b1,b1'⟩
     constructor
     ·intro hr;omega
     ·rintro⟨h2,h3⟩
      rw[hall,Ya] at h3
      exact absurd (d1.2 ⟨by omega,h3.1⟩) (by simp)
theorem Q9e(hne:V≠L):∀ (k:Nat) (t:Ty),t.size<=k->t.size<2^40->NamesTy t->VisitOK L V t
 |0,.mk _ _ _ _ _,h,_,_=>by simp only[Ty.size] at h;omega
 |k+1,.mk kd n nm l nl,h,h',hn=>λm s hL h0 h1=>by
   simp only[Ty.size] at h h'
   have hl:=Ty.len_sizes l
   have hnm:nm.length<2^40:=hn.name
   have hsz:(Ty.mk kd n nm l nl).size=Ty.sizes l+1:=rfl
   have hall:allTy goodB (.mk kd n nm l nl)=(goodB (.mk kd n nm l nl)&&allTys goodB l):=rfl
   have hL':Left L V (m - 1) { s with locs:=s.locs.set L (.var [.val (.int .i64 (m - 1))]) }:=⟨Q1L hL.1,by rw[List.getElem?_set_ne (Ne.symm hne)];exact hL.2⟩
   have hM':Moves [L] [] [] s { s with locs:=s.locs.set L (.var [.val (.int .i64 (m - 1))]) }:=(Moves.refl _ _ _).setLoc (.inl (by simp)) _
   obtain⟨s1,e1,g1⟩:=QcP (.mk kd n nm l nl) { s with locs:=s.locs.set L (.var [.val (.int .i64 (m - 1))]) } hnm
   have HV:∀ t ∈ l,VisitOK L V t:=λt ht=>by
    have h1:=Ty.mem_sizes ht
    exact Q9e hne k t (by omega) (by omega) (hn.arg ht)
   have w1:IntKind.i64.wrap (m - 1)=m - 1:=wrap64 (by omega) (by omega)
   have hst:=Q2B (c:=[.val (.int .i64 (m - 1))]) hL.1 (off:=0) (by simp)
   simp only[go_sem,Nat.reduceAdd] at hst
   rw[Qbl]
   simp only[go_sem,Ty.enc] at e1
   simp only[go_sem,Int.reduceNeg,Nat.reduceAdd,Nat.reduceLeDiff,Ty.enc,QS hL.1,w1,hst,QS hL'.1,e1]
   by_cases hm:m - 1≥0
   ·rw[decide_eq_true hm]
    cases hg:goodB (.mk kd n nm l nl) with
    |false=>
      refine⟨s1,m - 1,false,by simp only[go_sem],?_,hL'.grew _ _ g1,hM'.trans (.grew _ _ g1),by simp,by omega,by omega⟩
      simp[hall,hg]
    |true=>
      obtain⟨s2,m2,r,e3,d3,l3,v3,q3,b3,b3'⟩:=Q9d L V hne l (.val (encS nl (l.map Ty.enc))) (Qe _ _) (by omega) l [] (m - 1) s1 0 rfl rfl HV (hL'.grew _ _ g1) hm (by omega)
      have e4:cw (.f Qn) [encS nl (l.map Ty.enc),.fn ZV [.vp V 0]] s1=some (.ret (.val (.bool (decide (r≥0)))),s2):=by
       rw[Zc]
       have:cw (.f QK) [encS nl (l.map Ty.enc),.fn ZV [.vp V 0]] s1=some (.ret (.val (.int .i64 r)),s2):=by
        rw[ZE];simp only[go_sem]
        exact e3
       simp only[go_sem,this]
      refine⟨s2,m2,!decide (r≥0),by simp only[go_sem,e4],?_,l3,(hM'.trans (.grew _ _ g1)).trans v3,λhr=>?_,b3,by omega⟩
      ·rw[hsz,hall,hg,Bool.true_and]
       simp only[Bool.not_eq_true',decide_eq_false_iff_not]
       constructor
       ·intro hr
        have:=d3.1 (by omega)
        exact⟨by omega,this.2⟩
       ·rintro⟨g2,g3⟩
        have:=d3.2 ⟨by omega,g3⟩
        omega
      ·simp only[Bool.not_eq_true',decide_eq_false_iff_not] at hr
       rw[q3 (by omega),hsz];omega
   ·rw[decide_eq_false hm]
    refine⟨_,m - 1,false,by simp only[go_sem],?_,hL',hM',by simp,by omega,by omega⟩
    constructor
    ·intro h;cases h
    ·rintro⟨g1,_⟩;omega
end
theorem Q3h(t:Ty)(s:St)(h:t.size<2^40)(hn:NamesTy t):Ret (cw (.f Q2p) [t.enc] s) s (.bool (rightTyB t)):=by
 obtain⟨s',m',b,e1,d1,-,v1,-⟩:=Q9e s.locs.length (s.locs.length+1) (by omega) t.size t (Yd _) h hn 256 (St.addLoc (St.addLoc s (.var [.val (.int .i64 256)])) (.var [.val (visF s.locs.length (s.locs.length+1))]))
  ⟨by simp[St.addLoc],by simp[St.addLoc]⟩ (by decide) (by decide)
 have hb:b=rightTyB t:=by
  unfold rightTyB
  rw[Bool.eq_iff_iff,d1]
  simp only[Ya,decide_eq_true_eq]
  constructor<;>rintro⟨g1,g2⟩<;>exact⟨by omega,g2⟩
 subst hb
 rw[Qdy]
 have e4:ldV (C.ti Qo) false (St.addLoc (St.addLoc s (.var [.val (.int .i64 256)])) (.var [.val (visF s.locs.length (s.locs.length+1))])) (.val (.vp (s.locs.length+1) 0))=some (.val (visF s.locs.length (s.locs.length+1))):=by
  have:=Q24 (St.addLoc s (.var [.val (.int .i64 256)])) (.var [.val (visF s.locs.length (s.locs.length+1))])
  rw[Q8y] at this
  rw[QS this];simp only[go_sem,Nat.reduceAdd,Nat.reduceLeDiff]
 simp only[visF] at e1 e4
 simp only[go_sem,Nat.reduceLeDiff,Ty.enc,e4,e1]
 simp only[visF] at v1
 refine⟨s',rfl,Moves.toGrew (Moves.shrink (h':=[]) (A:=[]) (h:=[]) ?_ (by simp))⟩
 refine Moves.since (A:=[]) (h:=[]) ((Moves.grew [] [] (((Grew.refl s).addLoc _).addLoc _))) v1 (λi hi=>.inr ?_) (by simp)
 simp only[List.mem_singleton] at hi;omega
theorem Q6J(l:List Ty)(x:Slot)(hx:x.list? = some (l.map Ty.enc))(hl:l.length<2^40):∀ (suf pre:List Ty) (n:Int) (s:St) (i:Nat),pre++suf=l->i=pre.length->(∀ t ∈ suf,∀ s,cw (.f Q22) [t.enc] s=some (.ret (.val (.int .i64 t.size)),s))->0<=n->n+Ty.sizes suf<2^40->
  Q2D (.val (.int .i64 n)) x (.val (.int .i64 l.length)) (.val (.int .i64 i)) s=some (.ret (.val (.int .i64 (n+Ty.sizes suf))),s)
 |[],pre,n,s,i,h,hi,H,h0,h1=>by
   subst hi
   rw[Q5I];simp only[go_sem,Ql (by simpa using h),Ty.sizes]
   simp
 |t::suf,pre,n,s,i,h,hi,H,h0,h1=>by
   subst hi
   obtain⟨f1,f2,f3⟩:=Qh hx h (by omega) (Ty.cells_len t) (by decide)
   simp only[Ty.sizes] at h1
   have e1:=H t Yc s
   have w1:IntKind.i64.wrap (n+(t.size:Int))=n+t.size:=wrap64 (by omega) (by omega)
   have ih:=Q6J l x hx hl suf (pre++[t]) (n+t.size) s (pre.length+1) (by simpa using h) (by simp) (λw hw=>H w (Yb _ hw)) (by omega) (by omega)
   rw[Q5I];simp only[go_sem,Nat.reduceAdd,Nat.reduceLeDiff,f1,f2,f3,e1,w1,ih]
   rw[show n+(t.size:Int)+(Ty.sizes suf:Int)=n+(Ty.sizes (t::suf):Int) by simp only[Ty.sizes];omega]
theorem Q6K:∀ (k:Nat) (t:Ty) (s:St),t.size<=k->t.size<2^40->cw (.f Q22) [t.enc] s=some (.ret (.val (.int .i64 t.size)),s)
 |0,.mk _ _ _ _ _,_,h,_=>by simp only[Ty.size] at h;omega
 |k+1,.mk kd n nm l nl,s,h,h'=>by
   simp only[Ty.size] at h h'
   have hl:=Ty.len_sizes l
   have e1:=Q6J l (.val (encS nl (l.map Ty.enc))) (Qe _ _) (by omega) l [] 1 s 0 rfl rfl (λt ht s=>by
    have:=Ty.mem_sizes ht
    exact Q6K k t s (by omega) (by omega)) (by omega) (by omega)
   rw[QeW]
   rw[show ((0:Nat):Int)=0 from rfl] at e1
   simp only[go_sem,Nat.reduceAdd,Nat.reduceLeDiff,Ty.enc,e1]
   rw[show 1+(Ty.sizes l:Int)=((Ty.mk kd n nm l nl).size:Int) by simp only[Ty.size];omega]
def TySameOK(t:Ty):Prop:=∀ u s,cw (.f Q21) [t.enc,u.enc] s=some (.ret (.val (.bool (eqTy t u))),s)
theorem Q6I(L M:List Ty)(x y:Slot)(hx:x.list? = some (L.map Ty.enc))(hy:y.list? = some (M.map Ty.enc))(hl:L.length<2^40)(he:M.length=L.length):∀ (suf suf' pre pre':List Ty) (s:St) (i:Nat),pre++suf=L->pre'++suf'=M->i=pre.length->pre'.length=pre.length->(∀ t ∈ suf,TySameOK t)->
  Qx y (.val (.fn Q21 [])) x (.val (.int .i64 L.length)) (.val (.int .i64 i)) s=some (.ret (.val (.bool (eqTys suf suf'))),s)
 |[],suf',pre,pre',s,i,h,g,hi,hp,H=>by
   subst hi
   have:suf'=[]:=by
    have h1:=congrArg List.length h
    have h2:=congrArg List.length g
    simp only[Ye,Yp] at h1 h2
    exact List.eq_nil_of_length_eq_zero (by omega)
   subst this
   rw[Zq];simp only[go_sem,Ql (by simpa using h),eqTys]
 |t::suf,suf',pre,pre',s,i,h,g,hi,hp,H=>by
   subst hi
   cases suf' with
   |nil=>
     have h1:=congrArg List.length h
     have h2:=congrArg List.length g
     simp only[Ye,Yp,Yg] at h1 h2
     omega
   |cons u suf'=>
     obtain⟨f1,f2,f3⟩:=Qh hx h (by omega) (Ty.cells_len t) (by decide)
     obtain⟨-,g2,-⟩:=Qh hy g (by omega) (Ty.cells_len u) (by decide)
     rw[hp] at g2
     have e1:=H t (Yc) u s
     have ih:=Q6I L M x y hx hy hl he suf suf' (pre++[t]) (pre'++[u]) s (pre.length+1) (by simpa using h) (by simpa using g) (by simp) (by simp[hp]) (λw hw=>H w (Yb _ hw))
     rw[Zq];simp only[go_sem,Nat.reduceAdd,Nat.reduceLeDiff,f1,f2,f3,g2,e1,ih,eqTys]
     cases eqTy t u<;>rfl
theorem QcM(L M:List Ty)(v w:AV)(hv:(Slot.val v).list? = some (L.map Ty.enc))(hw:(Slot.val w).list? = some (M.map Ty.enc))(hl:L.length<2^40)(H:∀ t ∈ L,TySameOK t)(s:St):cw (.f QM) [v,w,.fn Q21 []] s=some (.ret (.val (.bool (eqTys L M))),s):=by
 rw[Q1O];simp only[go_sem,hv,hw,Yh]
 by_cases he:M.length=L.length
 ·have h1:=Q6I L M (.val v) (.val w) hv hw hl he L M [] [] s 0 rfl rfl rfl rfl H
  rw[show ((0:Nat):Int)=0 from rfl] at h1
  simp only[go_sem,decide_eq_true (show ((L.length:Int)=M.length) by omega),h1]
 ·simp only[go_sem,decide_eq_false (show ¬ ((L.length:Int)=M.length) by omega),Q66 L M (λh=>he h.symm)]
theorem Q9a:∀ (k:Nat) (t:Ty),t.size<=k->WideTy t->TySameOK t
 |0,.mk _ _ _ _ _,h,_=>by simp only[Ty.size] at h;omega
 |k+1,.mk kd n nm l nl,h,h'=>λu s=>by
   obtain⟨k',n',nm',l',nl'⟩:=u
   simp only[Ty.size] at h
   have hl:=h'.len
   have e1:=λs=>QcM l l' (encS nl (l.map Ty.enc)) (encS nl' (l'.map Ty.enc)) (Qe _ _) (Qe _ _) (by omega) (λt ht=>by
    have:=Ty.mem_sizes ht
    exact Q9a k t (by omega) (h'.arg ht)) s
   rw[QeV]
   simp only[go_sem,Nat.reduceAdd,Nat.reduceLeDiff,Ty.enc,e1,eqTy]
theorem QcN(t:Ty)(h:WideTy t):TySameOK t:=Q9a _ t (Yd _) h
end Go.Proofs.YtobelgghegmhhaaGreatDoor