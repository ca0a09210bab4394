/- A part of the proof: SArr2, PTy2, PTy4, PSch2, SSch5, PSch3, SSch6, SSch7, SRef10, PMeet. -/
import Derived.Test.YtobelgghegmhhaaGreatDoorM9
import Derived.Test.YtobelgghegmhhaaGreatDoorM11
set_option linter.unusedVariables false
set_option linter.unusedSimpArgs false
open Bool renaming and_eq_true→Ya
open List renaming mem_cons_of_mem→Yb,mem_cons_self→Yc,length_append→Ye,length_cons→Yg,length_map→Yh,map_cons→Yi,length_singleton→Yj,cons_append→Yk,mem_append_left→Ym,map_nil→Yn,nil_append→Yo,length_nil→Yp,mem_append_right→Yq,append_assoc→Yr
open Nat renaming le_refl→Yd
namespace Go.Proofs.YtobelgghegmhhaaGreatDoor
open Go Go.Am
set_option maxRecDepth 4000
theorem Q49(a b:List AV):flatL (a++b)=flatL a++flatL b:=by simp[flatL]
def _root_.Go.Am.St.turn(s:St)(k:Nat)(o:Am.Obj):St:={ s with locs:=s.locs.set k .dead++[o] }
theorem Qey(s:St)(k:Nat)(l:List AV):Holds (s.turn k (.var ((flatL l).map .val))) s.locs.length l:=by
 unfold Holds St.turn
 simp only[]
 rw[List.getElem?_append_right (by rw[List.length_set];exact Yd _),List.length_set,Nat.sub_self];rfl
theorem Qfz(s:St)(l:List AV):Holds (s.addLoc (.var ((flatL l).map .val))) s.locs.length l:=Q24 _ _
theorem Holds.put{s:St}{j k:Nat}{l:List AV}(h:Holds s j l)(n:j≠k)(o:Am.Obj):Holds { s with locs:=s.locs.set k o } j l:=by
 unfold Holds at *
 simp only[]
 rw[List.getElem?_set_ne (Ne.symm n)];exact h
theorem Qfw{s0 s:St}(h:Grew s0 s){k:Nat}(hk:s0.locs.length<=k)(o:Am.Obj):Grew s0 (s.turn k o):=by
 have:=(Q0G h hk .dead).addLoc o
 exact this
theorem Qh0(s:St)(k:Nat)(o:Am.Obj):(s.turn k o).locs.length=s.locs.length+1:=by simp[St.turn]
theorem Qee{e:TypeId}{t:TI}{s:St}{loc:Nat}{l m:List AV}{y:Slot}(h:Holds s loc l)(hl:∀ v ∈ l,v.cells.length=t.size)(hy:y.list? = some m)(hm0:m≠[])(hm:∀ v ∈ m,v.cells.length=t.size)(h0:0<t.size)
  (b1:(l.length+m.length)*t.bytes<=140737488355328) (b2:l.length+m.length<=9223372036854775807) :
  appendV e t s (.val (.vs loc e t.size 0 l.length)) y=some (.val (.vs s.locs.length e t.size 0 (l.length+m.length)),s.turn loc (.var ((flatL (l++m)).map .val))):=by
 have hlen:=Q4a hl
 unfold appendV
 rw[hy]
 cases m with
 |nil=>exact absurd rfl hm0
 |cons a m=>
   simp only[Q02 hm h0,cond_true]
   unfold Holds at h
   rw[h]
   simp only[]
   rw[if_pos ⟨trivial,by simp[hlen],b1,b2⟩]
   simp only[St.turn]
   rw[List.take_of_length_le (by simp[hlen]),Q49,List.map_append]
theorem QbH{x:Option Slot}{d m h:Nat}(hd:d<=m)(e:bound x d m=some h):h<=m:=by
 unfold bound at e
 split at e
 ·cases e;exact hd
 ·split at e
  ·rename_i h1;cases e;omega
  ·cases e
 ·cases e
theorem Qfh{k:IntKind}{d m n:Nat}(h:n<=m):bound (some (.val (.int k (n:Int)))) d m=some n:=by
 simp only[bound]
 rw[if_pos ⟨by omega,by omega⟩];simp
end Go.Proofs.YtobelgghegmhhaaGreatDoor
namespace Go.Am
open Go
mutual
theorem Qaa:∀ t:Ty,eqTy t t=true
 |.mk k n s l b=>by simp only[eqTy,Q8t l,decide_true,Bool.and_self]
theorem Q8t:∀ l:List Ty,eqTys l l=true
 |[]=>by simp only[eqTys]
 |t::l=>by simp only[eqTys,Qaa t,Q8t l,Bool.and_self]
end
theorem Q6c{k n:Int}{s:Str}{l:List Ty}{b:Bool}(h:goodB (.mk k n s l b)=true)(hk:k=1):0<=n/\s=[]/\l=[]:=by
 have h:goodC k n s l.length (lowB s)=true:=h
 unfold goodC at h
 simp only[decide_eq_true hk,cond_true,Ya,decide_eq_true_eq] at h
 exact⟨h.1.1,h.1.2,List.eq_nil_of_length_eq_zero (by omega)⟩
theorem Q5p(n:Int)(l:List Int):placeR n l<0↔placeI n l 0=none:=by
 unfold placeR
 cases h:placeI n l 0 with
 |none=>simp
 |some j=>simp
theorem Qdt(n:Int)(old:List Int):(toCanon n old).2=if placeR n old<0 then old++[n] else old:=by
 unfold toCanon
 by_cases h:placeR n old<0
 ·rw[if_pos h];rw[Q5p] at h;rw[h]
 ·rw[if_neg h];rw[Q5p] at h
  cases hp:placeI n old 0 with
  |none=>exact absurd hp h
  |some j=>rfl
theorem Ty.size_pos(t:Ty):1<=t.size:=by cases t;simp only[Ty.size];omega
section
variable {σ:Type} (to:Int->σ->Ty × σ) (B:Nat)
end
end Go.Am
namespace Go.Am
open Go
theorem Q4y{n:Int}:∀ {l:List Int} {i:Nat},n ∉ l->placeI n l i=none
 |[],_,_=>rfl
 |m::l,i,h=>by
   simp only[placeI]
   rw[if_neg (λe=>h (by simp[e]))]
   exact Q4y λhm=>h (Yb _ hm)
end Go.Am
namespace Go.Am
open Go
def oldS(v keep:List Int):List Int:=v.filter (λn=>!hasI keep n)++v.filter (λn=>hasI keep n)
def ownN(v keep:List Int):Nat:=(v.filter λn=>!hasI keep n).length
def posV(old:List Int)(n:Int):Int:=match placeI n old 0 with|some i=>i|none=>0
def numF(old:List Int)(n:Int):Ty:=tvar (posV old n)
def ofP(t:Ty)(keep:List Int):Int × Ty:=
 bif rightTyB t then ((ownN (canonTy t).2 keep:Nat),rebT (numF (oldS (canonTy t).2 keep)) t) else (0,zeroTy)
theorem Q5f{k n:Int}{s:Str}{l:List Ty}{b:Bool}(h:goodB (.mk k n s l b)=true)(hk:decide (k=1)=true):0<=n/\s=[]/\l=[]:=Q6c h (of_decide_eq_true hk)
theorem Q5x{p:Int->Bool}{k n:Int}{s:Str}{l:List Ty}{b:Bool}(h:varB p (.mk k n s l b)=true)(hk:decide (k=1)=true):p n=true:=by
 have h:(!decide (k=1) || p n)=true:=h
 rw[hk] at h
 exact h
theorem Q5E{n:Int}:∀ {l:List Int} {i:Nat},n ∈ l->∃ j,placeI n l i=some j
 |m::l,i,h=>by
   by_cases hn:n=m
   ·exact⟨i,by simp[placeI,hn]⟩
   ·rcases List.mem_cons.1 h with h|h
    ·exact absurd h hn
    ·obtain⟨j,hj⟩:=Q5E (i:=i+1) h
     exact⟨j,by simp[placeI,hn,hj]⟩
theorem QeJ{n:Int}{l:List Int}(h:placeI n l 0=none):n ∉ l:=λhm=>by
 obtain⟨j,hj⟩:=Q5E (i:=0) hm
 rw[h] at hj;cases hj
theorem Qbc(n:Int){old:List Int}(h:old.Nodup):(toCanon n old).2.Nodup:=by
 rw[Qdt]
 split
 ·rename_i hp
  have:=QeJ ((Q5p n old).1 hp)
  rw[List.nodup_append]
  refine⟨h,by simp,λa ha b hb=>?_⟩
  simp only[List.mem_singleton] at hb
  subst hb
  rintro rfl
  exact this ha
 ·exact h
mutual
theorem QbJ:∀ (t:Ty) (old:List Int),old.Nodup->(chTy toCanon t old).2.Nodup
 |.mk k n s l b,old,h=>by
   simp only[chTy]
   cases decide (k=1) with
   |true=>exact Qbc n h
   |false=>exact Qa7 l old h
theorem Qa7:∀ (l:List Ty) (old:List Int),old.Nodup->(chTys toCanon l old).2.Nodup
 |[],old,h=>h
 |t::l,old,h=>by simp only[chTys];exact Qa7 l _ (QbJ t old h)
end
theorem Qd6(t:Ty):(canonTy t).2.Nodup:=QbJ t [] List.nodup_nil
mutual
theorem Q9Y{p q:Ty->Bool}(h:∀ t,p t=true->q t=true):∀ t:Ty,allTy p t=true->allTy q t=true
 |.mk k n s l b,g=>by
   simp only[allTy,Ya] at g |-
   exact⟨h _ g.1,Q8h h l g.2⟩
theorem Q8h{p q:Ty->Bool}(h:∀ t,p t=true->q t=true):∀ l:List Ty,allTys p l=true->allTys q l=true
 |[],_=>rfl
 |t::l,g=>by
   simp only[allTys,Ya] at g |-
   exact⟨Q9Y h t g.1,Q8h h l g.2⟩
end
theorem ZD{t:Ty}(h:rightTyB t=true):allTy goodB t=true:=by
 unfold rightTyB at h
 simp only[Ya] at h
 exact h.2
theorem Qb6{t:Ty}(h:rightTyB t=true):t.size<=256:=by
 unfold rightTyB at h
 simp only[Ya,decide_eq_true_eq] at h
 exact h.1
end Go.Am
namespace Go.Proofs.YtobelgghegmhhaaGreatDoor
open Go Go.Am
set_option maxRecDepth 4000
theorem Q4J(n:Int)(L:List Int)(x:Slot)(hx:x.list? = some (L.map ekI))(hl:L.length<2^40)(s:St):∀ (suf pre:List Int) (i:Nat),pre++suf=L->i=pre.length->
  ∃ r,QT x (.val (.int .i64 n)) (.val (.int .i64 L.length)) (.val (.int .i64 i)) s=some (.ret (.val (.int .i64 r)),s)/\decide (r≥0)=hasI suf n
 |[],pre,i,h,hi=>by
   subst hi
   refine⟨-1,?_,rfl⟩
   rw[Q0I];simp only[go_sem,Int.reduceNeg,Ql (by simpa using h)]
 |m::suf,pre,i,h,hi=>by
   subst hi
   obtain⟨f1,f2,f3⟩:=Qh (f:=ekI) (sz:=1) hx h (by omega) rfl (by decide)
   have hh:hasI (m::suf) n=(decide (m=n) || hasI suf n):=rfl
   simp only[ekI] at f2
   rw[Q0I,hh]
   by_cases hm:n=m
   ·refine⟨pre.length,by simp only[go_sem,Int.reduceNeg,Nat.reduceAdd,Nat.reduceLeDiff,f1,f2,f3,decide_eq_true hm],?_⟩
    rw[decide_eq_true hm.symm];simp
   ·obtain⟨r,e,hr⟩:=Q4J n L x hx hl s suf (pre++[m]) (pre.length+1) (by simpa using h) (by simp)
    refine⟨r,by simp only[go_sem,Int.reduceNeg,Nat.reduceAdd,Nat.reduceLeDiff,f1,f2,f3,decide_eq_false hm,e],?_⟩
    rw[hr,decide_eq_false (λh=>hm h.symm)];rfl
theorem Q6V(n:Int)(L:List Int)(v:AV)(hv:(Slot.val v).list? = some (L.map ekI))(hl:L.length<2^40)(s:St):cw (.f Zz) [v,.int .i64 n] s=some (.ret (.val (.bool (hasI L n))),s):=by
 obtain⟨r,e,hr⟩:=Q4J n L (.val v) hv hl s L [] 0 rfl rfl
 have e1:cw (.f Zd) [v,.int .i64 n] s=some (.ret (.val (.int .i64 r)),s):=by
  rw[Q3Y]
  rw[show ((0:Nat):Int)=0 from rfl] at e
  simp only[go_sem,hv,Yh,e]
 rw[Q36,<-hr]
 simp only[go_sem,e1]
theorem QdB{K V:Type}[DecidableEq K]{ek:K->AV}{ev:V->AV}{g:K->Option V}{es:List (AV × AV × Nat)}{c:Nat}{D:List (K × V × Nat)}(M:MapIs ek ev g es c D)(hk:KeyEnc ek){kt et:TI}(k:K)(hkt:isKey kt (ek k)=true){s:St}{loc:Nat}(hl:s.locs[loc]? = some (.map es c)){x:Slot}{v:V}(hx:x.av=some (ev v))(hs:(ev v).cells.length=et.size)(hg:g k=none) :
  ∃ es' c' D',updateS kt et s (.val (.mp loc)) (.val (ek k)) x=some (.no,{ s with locs:=s.locs.set loc (.map es' c') })/\MapIs ek ev (upd g k v) es' c' D'/\es'.length=es.length+1:=by
 rcases M.update hk k v with ⟨j,v0,b,h1,h2,h3,D',h4⟩|⟨h1,h2,D',h4⟩
 ·rw[hg] at h2;cases h2
 ·exact⟨_,_,D',by simp only[updateS,Q1l,hx,hkt,hs,and_self,if_true,hl,h1],h4,by simp⟩
structure OfMap (s:St) (M P:Nat) (old:List Int):Prop where
 ptr:s.locs[P]? = some (.var [.val (.mp M)])
 map:∃ es c D,s.locs[M]? = some (.map es c)/\MapIs ekI ekI (oldV old) es c D/\es.length=old.length
theorem OfMap.grew{s s':St}{M P:Nat}{old:List Int}(h:OfMap s M P old)(g:∀ (i:Nat) (x:Am.Obj),s.locs[i]? = some x->s'.locs[i]? = some x):OfMap s' M P old:=by
 obtain⟨h1,es,c,D,h2,h3⟩:=h
 exact⟨g _ _ h1,es,c,D,g _ _ h2,h3⟩
theorem QfN{old:List Int}{n:Int}(h:placeI n old 0=none):oldV (old++[n])=upd (oldV old) n (old.length:Int):=by
 funext m
 unfold oldV upd
 rw[Q5o]
 by_cases hm:m=n
 ·subst hm;simp[h]
 ·simp only[hm,if_false]
  cases placeI m old 0<;>rfl
theorem QfM{old:List Int}{n:Int}(h:n ∉ old):oldV old n=none:=by
 unfold oldV
 rw[Q4y h]
theorem Q7U(M P:Nat)(old:List Int)(n:Int)(s:St)(h:OfMap s M P old):cw (.f Q1V) [.int .i64 n,.vp P 0] s=some (.ret (.val (numF old n).enc),s):=by
 obtain⟨h1,es,c,D,h2,h3,h4⟩:=h
 have hlk:lookupS (C.ti Q1) (C.ti Q1) s (.val (.mp M)) (.val (ekI n)) false=some (.val (ekI (posV old n))):=by
  rw[Q4w h3 keyInt (kt:=C.ti Q1) (et:=C.ti Q1) n (Q26 Q1A n) h2 (z:=.int .i64 0) (QaN Q8e Q9U Q8f) false]
  unfold oldV posV
  cases placeI n old 0<;>rfl
 have e1:=Q0S (posV old n) s
 rw[Q9J]
 simp only[ekI,Ty.enc,tvar] at hlk e1
 simp only[go_sem,Nat.reduceAdd,Nat.reduceLeDiff,QS h1,hlk,e1,numF,tvar,Ty.enc]
def ofNew(keep:List Int)(kept:Bool)(l:List Int):List Int:=l.filter λn=>hasI keep n == kept
theorem Q8H(keep:List Int)(kept:Bool)(n:Int)(l:List Int):ofNew keep kept (n::l)=bif hasI keep n == kept then n::ofNew keep kept l else ofNew keep kept l:=by
 unfold ofNew
 rw[List.filter_cons]
 cases hasI keep n == kept<;>rfl
theorem Q6j{keep:List Int}{kept:Bool}{l:List Int}{n:Int}(h:n ∈ ofNew keep kept l):n ∈ l/\(hasI keep n == kept)=true:=List.mem_filter.1 h
theorem Q0q(keep V:List Int)(v:AV)(hv:(Slot.val v).list? = some (keep.map ekI))(hk:keep.length<2^40)(x2 x4:List Slot)(x6 x16 x17 x23:Slot)(hx:x23.list? = some (V.map ekI))(hV:V.length<2^40)(kept:Bool)(k:Nat)(hk2:k<2)(M P:Nat)(hMP:M<P)(s0:St)(hb:s0.locs.length<=M) :
  ∀ (suf pre old:List Int) (s:St) (i:Nat),pre++suf=V->i=pre.length->OfMap s M P old->Grew s0 s->suf.Nodup->(∀ n ∈ ofNew keep kept suf,n ∉ old)->
  ∃ s',Q0F (.val v) x2 x4 (.val (.vp P 0)) x6 (.val (.bool kept)) x16 x17 (.val (.int .i64 k)) x23 (.val (.int .i64 V.length)) (.val (.int .i64 i)) s =
    Z8 (.val v) x2 x4 (.val (.vp P 0)) (bif kept then x6 else .val (.int .i64 (old++ofNew keep kept suf).length)) x16 x17 (.val (.int .i64 ((k+1:Nat):Int))) s'/\OfMap s' M P (old++ofNew keep kept suf)/\Grew s0 s'
 |[],pre,old,s,i,h,hi,hM,g,_,_=>by
   subst hi
   refine⟨s,?_,by simpa [ofNew] using hM,g⟩
   obtain⟨h1,es,c,D,h2,h3,h4⟩:=hM
   have hlen:lenM s (.val (.mp M))=some (.val (.int .i64 es.length)):=by simp only[lenM,h2]
   have hnx:IntKind.i64.wrap ((k:Int)+1)=((k+1:Nat):Int):=by rw[wrap64 (by omega) (by omega)];rfl
   rw[Q4k]
   cases kept with
   |true=>simp only[go_sem,Ql (by simpa using h),hnx]
   |false=>simp only[go_sem,Nat.reduceAdd,Nat.reduceLeDiff,Ql (by simpa using h),hnx,QS h1,hlen,h4,ofNew,List.filter_nil,List.append_nil]
 |n::suf,pre,old,s,i,h,hi,hM,g,hn,hd=>by
   subst hi
   obtain⟨f1,f2,f3⟩:=Qh (f:=ekI) (sz:=1) hx h (by omega) rfl (by decide)
   simp only[ekI] at f2
   have e1:=Q6V n keep v hv hk s
   rw[List.nodup_cons] at hn
   rw[Q4k]
   cases hc:(hasI keep n == kept) with
   |false=>
     have hN:ofNew keep kept (n::suf)=ofNew keep kept suf:=by rw[Q8H,hc];rfl
     rw[hN] at hd |-
     obtain⟨s',e2,h2,h3⟩:=Q0q keep V v hv hk x2 x4 x6 x16 x17 x23 hx hV kept k hk2 M P hMP s0 hb suf (pre++[n]) old s (pre.length+1) (by simpa using h) (by simp) hM g hn.2 hd
     refine⟨s',?_,h2,h3⟩
     simp only[go_sem,Nat.reduceAdd,Nat.reduceLeDiff,f1,f2,f3,e1,hc,e2]
   |true=>
     have hN:ofNew keep kept (n::suf)=n::ofNew keep kept suf:=by rw[Q8H,hc];rfl
     rw[hN] at hd |-
     have hno:n ∉ old:=hd n Yc
     obtain⟨h1,es,c,D,h2,h3,h4⟩:=hM
     obtain⟨es',c',D',eu,hM',hl'⟩:=QdB h3 keyInt (kt:=C.ti Q1) (et:=C.ti Q1) n (Q26 Q1A n) h2 (x:=.val (.int .i64 old.length)) (v:=(old.length:Int)) rfl (by rw[Q3x];rfl) (QfM hno)
     have hlen:lenM s (.val (.mp M))=some (.val (.int .i64 old.length)):=by simp only[lenM,h2,h4]
     have hM2:OfMap { s with locs:=s.locs.set M (.map es' c') } M P (old++[n]):=by
      refine⟨?_,es',c',D',Q1L h2,by rw[QfN (Q4y hno)];exact hM',by rw[hl',h4];simp⟩
      show (s.locs.set M _)[P]? = _
      rw[List.getElem?_set_ne (by omega)];exact h1
     obtain⟨s',e2,h5,h6⟩:=Q0q keep V v hv hk x2 x4 x6 x16 x17 x23 hx hV kept k hk2 M P hMP s0 hb suf (pre++[n]) (old++[n]) { s with locs:=s.locs.set M (.map es' c') } (pre.length+1) (by simpa using h) (by simp) hM2 (Q0G g hb _) hn.2 (λm hm=>by
      have h7:=hd m (Yb _ hm)
      rw[List.mem_append,List.mem_singleton]
      rintro (h8|rfl)
      ·exact h7 h8
      ·exact hn.1 (Q6j hm).1)
     rw[Yr] at e2 h5
     refine⟨s',?_,h5,h6⟩
     simp only[ekI] at eu
     simp only[go_sem,Nat.reduceAdd,Nat.reduceLeDiff,f1,f2,f3,e1,hc,QS h1,hlen,eu,e2]
theorem Qha(V keep:List Int):oldS V keep=ofNew keep false V++ofNew keep true V:=by
 unfold oldS ofNew
 congr 1
 all_goals exact List.filter_congr λn _=>by cases hasI keep n<;>rfl
theorem Qhd(V keep:List Int):ownN V keep=(ofNew keep false V).length:=by
 unfold ownN ofNew
 refine congrArg List.length ?_
 exact List.filter_congr λn _=>by cases hasI keep n<;>rfl
theorem Q9K(t:Ty)(keep:List Int)(v:AV)(hv:(Slot.val v).list? = some (keep.map ekI))(hk:keep.length<2^40)(s:St)(h:t.size<2^28)(hn:NamesTy t) :
  Ret (cw (.f Q1I) [t.enc,v] s) s (.agg (.int .i64 (ofP t keep).1::(ofP t keep).2.cells)):=by
 obtain⟨s1,e1,g1⟩:=Q3h t s (by omega) hn
 have c:=Ty.cells_eq t
 rw[Qcy]
 unfold ofP
 cases hr:rightTyB t with
 |false=>
   rw[hr] at e1
   simp only[go_sem,Nat.reduceAdd,Nat.reduceLeDiff,c,Ty.enc] at e1 |-
   simp only[go_sem,e1]
   exact⟨s1,rfl,g1⟩
 |true=>
   rw[hr] at e1
   let s2:St:=(s1.addLoc (.map [] 0)).addLoc (.var [.val (.mp s1.locs.length)])
   have hM0:OfMap s2 s1.locs.length (s1.locs.length+1) []:=⟨by simp[s2,St.addLoc],[],0,[],by simp[s2,St.addLoc],.nil,rfl⟩
   have g2:Grew s1 s2:=((Grew.refl s1).addLoc _).addLoc _
   have hV:=Qd6 t
   have hVl:(canonTy t).2.length<2^40:=by
    have:=Q79 t []
    simp only[Yp] at this
    show (chTy toCanon t []).2.length<_
    omega
   have i0:ixS 1 (.full [.bool false,.bool true]) (.val (.int .i64 0))=some (.val (.cp [.bool false])):=rfl
   have i1:ixS 1 (.full [.bool false,.bool true]) (.val (.int .i64 1))=some (.val (.cp [.bool true])):=rfl
   obtain⟨s3,e3,g3⟩:=Q6L t s2 h
   obtain⟨s4,e4,h4,g4⟩:=Q0q keep (canonTy t).2 v hv hk (t.cells.map .val) ((C.ti Q6).zero.map .val) (.val (.int .i64 0)) (.full [.bool false,.bool true]) (.val (.int .i64 2)) (.val (encS true ((canonTy t).2.map ekI))) (Qe _ _) hVl false 0 (by decide) s1.locs.length (s1.locs.length+1) (by omega) s1 (Yd _) (canonTy t).2 [] [] s3 0 rfl rfl (hM0.grew λi x=>g3.loc) (g2.trans g3) hV (by simp)
   obtain⟨s5,e5,g5⟩:=Q6L t s4 h
   obtain⟨s6,e6,h6,g6⟩:=Q0q keep (canonTy t).2 v hv hk (t.cells.map .val) ((C.ti Q6).zero.map .val) (.val (.int .i64 ([]++ofNew keep false (canonTy t).2).length)) (.full [.bool false,.bool true]) (.val (.int .i64 2)) (.val (encS true ((canonTy t).2.map ekI))) (Qe _ _) hVl true 1 (by decide) s1.locs.length (s1.locs.length+1) (by omega) s1 (Yd _) (canonTy t).2 [] ([]++ofNew keep false (canonTy t).2) s5 0 rfl rfl (h4.grew λi x=>g5.loc) (g4.trans g5) hV (λn hn hm=>by
    have h1:=(Q6j hn).2
    have h2:=(Q6j (by simpa using hm)).2
    cases hh:hasI keep n<;>rw[hh] at h1 h2<;>simp at h1 h2)
   rw[Yo,<-Qha] at h6
   obtain⟨s7,e7,g7⟩:=Q2E (numF (oldS (canonTy t).2 keep)) (λ_=>true) Q1V [.vp (s1.locs.length+1) 0] (by kernel_rfl) (λs=>OfMap s s1.locs.length (s1.locs.length+1) (oldS (canonTy t).2 keep)) (λs s' hq g=>hq.grew g)
    (λn s hq _=>⟨s,Q7U _ _ _ n s hq,.refl s⟩) t (Q00 t h) (Q9Y (p:=goodB) (λu _=>by unfold varB;simp) t (ZD hr)) s6 h6
   have cr:=Ty.cells_eq (rebT (numF (oldS (canonTy t).2 keep)) t)
   have L0:Z8 (.val v) (t.cells.map .val) ((C.ti Q6).zero.map .val) (.val (.vp (s1.locs.length+1) 0)) (.val (.int .i64 0)) (.full [.bool false,.bool true]) (.val (.int .i64 2)) (.val (.int .i64 0)) s2=some (.ret (.val (.agg (.int .i64 (ownN (canonTy t).2 keep:Nat)::(rebT (numF (oldS (canonTy t).2 keep)) t).cells))),s7):=by
    rw[show ((0:Nat):Int)=0 from rfl,show ((0+1:Nat):Int)=1 from rfl] at e4
    rw[show ((0:Nat):Int)=0 from rfl,show ((1:Nat):Int)=1 from rfl,show ((1+1:Nat):Int)=2 from rfl] at e6
    have t1:Z8 (.val v) (t.cells.map .val) ((C.ti Q6).zero.map .val) (.val (.vp (s1.locs.length+1) 0)) (.val (.int .i64 ([]++ofNew keep false (canonTy t).2).length)) (.full [.bool false,.bool true]) (.val (.int .i64 2)) (.val (.int .i64 2)) s6=some (.ret (.val (.agg (.int .i64 (ownN (canonTy t).2 keep:Nat)::(rebT (numF (oldS (canonTy t).2 keep)) t).cells))),s7):=by
     rw[Q2y,Qhd]
     simp only[Ty.enc,c,cr] at e7 |-
     simp only[go_sem,Int.reduceLT,Nat.reduceAdd,Nat.reduceLeDiff,e7,Yo]
    have t2:Z8 (.val v) (t.cells.map .val) ((C.ti Q6).zero.map .val) (.val (.vp (s1.locs.length+1) 0)) (.val (.int .i64 ([]++ofNew keep false (canonTy t).2).length)) (.full [.bool false,.bool true]) (.val (.int .i64 2)) (.val (.int .i64 1)) s4=some (.ret (.val (.agg (.int .i64 (ownN (canonTy t).2 keep:Nat)::(rebT (numF (oldS (canonTy t).2 keep)) t).cells))),s7):=by
     rw[<-t1,Q2y]
     simp only[cond_true] at e6
     rw[<-e6]
     simp only[Ty.enc,c] at e5 |-
     simp only[go_sem,Int.reduceLT,Nat.reduceAdd,Nat.reduceLeDiff,i1,e5,Qe,Yh]
    rw[<-t2,Q2y]
    simp only[cond_false] at e4
    rw[<-e4]
    simp only[Ty.enc,c] at e3 |-
    simp only[go_sem,Int.reduceLT,Nat.reduceAdd,Nat.reduceLeDiff,i0,e3,Qe,Yh]
   simp only[go_sem,Nat.reduceAdd,Nat.reduceLeDiff,c,Ty.enc] at e1 L0 |-
   simp only[go_sem,e1]
   refine⟨s7,?_,((g1.trans g6)).trans g7⟩
   exact L0
end Go.Proofs.YtobelgghegmhhaaGreatDoor
namespace Go.Am
open Go
mutual
theorem Q67:∀ t u:Ty,eqTy t u=true↔ownTy t=ownTy u
 |.mk k n s l b,.mk k' n' s' l' b'=>by
   have:=QdM l l'
   simp only[eqTy,ownTy,Ya,decide_eq_true_eq,Ty.mk.injEq,this,and_true]
   constructor
   ·rintro⟨⟨⟨h1,h2⟩,h3⟩,h4⟩;exact⟨h1,h2,h3,h4⟩
   ·rintro⟨h1,h2,h3,h4⟩;exact⟨⟨⟨h1,h2⟩,h3⟩,h4⟩
theorem QdM:∀ l m:List Ty,eqTys l m=true↔ownTys l=ownTys m
 |[],[]=>by simp[eqTys,ownTys]
 |[],_::_=>by simp[eqTys,ownTys]
 |_::_,[]=>by simp[eqTys,ownTys]
 |t::l,u::m=>by simp only[eqTys,ownTys,Ya,Q67 t u,QdM l m,List.cons.injEq]
end
mutual
theorem Qit(f:Int->Ty):∀ t:Ty,rebT f (ownTy t)=rebT f t
 |.mk k n s l b=>by simp only[ownTy,rebT,Qcv f l]
theorem Qcv(f:Int->Ty):∀ l:List Ty,rebTs f (ownTys l)=rebTs f l
 |[]=>rfl
 |t::l=>by simp only[ownTys,rebTs,Qit f t,Qcv f l]
end
theorem Q4e(f:Int->Ty):∀ l:List Ty,rebTs f l=l.map (rebT f)
 |[]=>rfl
 |t::l=>by simp only[rebTs,Yi,Q4e f l]
def moreF(av bv:Int):Nat->List (Ty × Ty)->(Int->Option Ty)->Bool
 |0,_,_=>true
 |_+1,[],_=>true
 |k+1,(x,y)::st,g=>
   bif decide (x.kind=1) then
    (bif decide (x.n<av) then (match g x.n with
      |some was=>bif eqTy was y then moreF av bv k st g else false
      |none=>moreF av bv k st (upd g x.n y))
    else bif !decide (y.kind=1) || (decide (y.n<bv) || !decide (y.n - bv=x.n - av)) then false else moreF av bv k st g)
   else bif !decide (y.kind=2) || (!decide (x.name=y.name) || !decide (x.args.length=y.args.length)) then false else moreF av bv k ((x.args.zip y.args).reverse++st) g
def moreP(av:Int)(t:Ty)(bv:Int)(u:Ty):Bool:=bif !rightSB av t || !rightSB bv u then false else moreF av bv t.size [(t,u)] (λ_=>none)
theorem Qch(av bv:Int)(k:Nat)(kx nx:Int)(sx:Str)(lx:List Ty)(bx:Bool)(ky ny:Int)(sy:Str)(ly:List Ty)(by':Bool)(st:List (Ty × Ty))(g:Int->Option Ty):moreF av bv (k+1) ((.mk kx nx sx lx bx,.mk ky ny sy ly by')::st) g =
  bif decide (kx=1) then
   (bif decide (nx<av) then (match g nx with
     |some was=>bif eqTy was (.mk ky ny sy ly by') then moreF av bv k st g else false
     |none=>moreF av bv k st (upd g nx (.mk ky ny sy ly by')))
   else bif !decide (ky=1) || (decide (ny<bv) || !decide (ny - bv=nx - av)) then false else moreF av bv k st g)
  else bif !decide (ky=2) || (!decide (sx=sy) || !decide (lx.length=ly.length)) then false else moreF av bv k ((lx.zip ly).reverse++st) g:=rfl
def sub(av bv:Int)(σ:Int->Ty)(n:Int):Ty:=bif decide (n<av) then σ n else tvar (n - av+bv)
def sumX(l:List (Ty × Ty)):Nat:=(l.map λp=>p.1.size).sum
theorem Q1q(p:Ty × Ty)(l:List (Ty × Ty)):sumX (p::l)=p.1.size+sumX l:=by simp[sumX]
theorem Q80(a b:List (Ty × Ty)):sumX (a++b)=sumX a+sumX b:=by simp[sumX]
theorem Q81(a:List (Ty × Ty)):sumX a.reverse=sumX a:=by simp[sumX]
theorem Q5v:∀ (a b:List Ty),sumX (a.zip b)<=Ty.sizes a
 |[],_=>by simp[sumX]
 |_::_,[]=>by simp[sumX]
 |t::a,u::b=>by
   have:=Q5v a b
   rw[List.zip_cons_cons,Q1q,Ty.sizes]
   show t.size+_<=_
   omega
def Meets(av bv:Int)(σ:Int->Ty)(p:Ty × Ty):Prop:=ownTy (rebT (sub av bv σ) p.1)=ownTy p.2
theorem Q6i(av bv:Int)(σ:Int->Ty):∀ (a b:List Ty),a.length=b.length->((∀ p ∈ a.zip b,Meets av bv σ p)↔ownTys (rebTs (sub av bv σ) a)=ownTys b)
 |[],[],_=>by simp[rebTs,ownTys]
 |t::a,u::b,h=>by
   have:=Q6i av bv σ a b (by simpa using h)
   simp only[List.zip_cons_cons,List.forall_mem_cons,rebTs,ownTys,List.cons.injEq,this]
   rfl
 |[],_::_,h=>by simp at h
 |_::_,[],h=>by simp at h
theorem Q3Q{k n:Int}{s:Str}{l:List Ty}{b:Bool}(h:goodB (.mk k n s l b)=true)(hk:decide (k=1)=false):k=2/\n=0:=by
 have h:goodC k n s l.length (lowB s)=true:=h
 unfold goodC at h
 rw[hk,cond_false] at h
 cases h2:decide (k=2) with
 |false=>rw[h2] at h;cases h
 |true=>
   rw[h2] at h
   simp only[cond_true,Ya,decide_eq_true_eq] at h
   exact⟨of_decide_eq_true h2,h.1.1.1⟩
def GoodP(p:Ty × Ty):Prop:=allTy goodB p.1=true/\allTy goodB p.2=true
theorem Q08{p:Ty->Bool}:∀ {l:List Ty},allTys p l=true->∀ t ∈ l,allTy p t=true
 |x::l,h,t,ht=>by
   simp only[allTys,Ya] at h
   rcases List.mem_cons.1 ht with rfl|ht
   ·exact h.1
   ·exact Q08 h.2 t ht
theorem QbZ{a b:List Ty}(ha:allTys goodB a=true)(hb:allTys goodB b=true):∀ p ∈ a.zip b,GoodP p:=by
 intro p hp
 have:=List.of_mem_zip (a:=p.1) (b:=p.2) hp
 exact⟨Q08 ha _ this.1,Q08 hb _ this.2⟩
theorem Q2v(av bv:Int):∀ (k:Nat) (st:List (Ty × Ty)) (g:Int->Option Ty),sumX st<=k->(∀ p ∈ st,GoodP p)->moreF av bv k st g=true->
  ∃ σ:Int->Ty,(∀ n u,g n=some u->σ n=u)/\∀ p ∈ st,Meets av bv σ p
 |k,[],g,_,_,_=>⟨λn=>(g n).getD zeroTy,λn u h=>by simp[h],by simp⟩
 |0,(x,y)::st,g,hs,_,_=>by
   have:=Ty.size_pos x
   rw[Q1q] at hs
   simp only at hs
   omega
 |k+1,(.mk kx nx sx lx bx,.mk ky ny sy ly by')::st,g,hs,hg,hm=>by
   rw[Q1q] at hs
   simp only[Ty.size] at hs
   have hg0:=hg _ Yc
   have hgs:=λp hp=>hg p (Yb _ hp)
   obtain⟨hgx,hgy⟩:=hg0
   simp only[allTy,Ya] at hgx hgy
   rw[Qch] at hm
   cases hk:decide (kx=1) with
   |true=>
     obtain⟨h0,rfl,rfl⟩:=Q5f hgx.1 hk
     obtain rfl:=of_decide_eq_true hk
     rw[hk,cond_true] at hm
     cases hn:decide (nx<av) with
     |true=>
       rw[hn,cond_true] at hm
       cases hx:g nx with
       |some was=>
         rw[hx] at hm
         simp only at hm
         cases he:eqTy was (.mk ky ny sy ly by') with
         |false=>rw[he] at hm;cases hm
         |true=>
           rw[he,cond_true] at hm
           obtain⟨σ,h1,h2⟩:=Q2v av bv k st g (by omega) hgs hm
           refine⟨σ,h1,List.forall_mem_cons.2 ⟨?_,h2⟩⟩
           unfold Meets
           simp only[rebT,decide_true,cond_true,sub,hn,h1 nx was hx]
           exact (Q67 _ _).1 he
       |none=>
         rw[hx] at hm
         simp only at hm
         obtain⟨σ,h1,h2⟩:=Q2v av bv k st (upd g nx (.mk ky ny sy ly by')) (by omega) hgs hm
         refine⟨σ,λn u h=>h1 n u ?_,List.forall_mem_cons.2 ⟨?_,h2⟩⟩
         ·rw[Q9b _ _ (λe=>by rw[e,hx] at h;cases h)];exact h
         ·unfold Meets
          simp only[rebT,decide_true,cond_true,sub,hn]
          rw[h1 nx _ (Q41 _ _ _)]
     |false=>
       rw[hn,cond_false] at hm
       cases hc:(!decide (ky=1) || (decide (ny<bv) || !decide (ny - bv=nx - av))) with
       |true=>rw[hc] at hm;cases hm
       |false=>
         rw[hc,cond_false] at hm
         simp only[Bool.or_eq_false_iff,Bool.not_eq_false',decide_eq_true_eq] at hc
         obtain⟨σ,h1,h2⟩:=Q2v av bv k st g (by omega) hgs hm
         refine⟨σ,h1,List.forall_mem_cons.2 ⟨?_,h2⟩⟩
         obtain⟨h0',rfl,rfl⟩:=Q6c hgy.1 hc.1
         unfold Meets
         simp only[rebT,decide_true,cond_true,sub,hn,cond_false]
         rw[show nx - av+bv=ny by omega,hc.1];rfl
   |false=>
     rw[hk,cond_false] at hm
     cases hc:(!decide (ky=2) || (!decide (sx=sy) || !decide (lx.length=ly.length))) with
     |true=>rw[hc] at hm;cases hm
     |false=>
       rw[hc,cond_false] at hm
       simp only[Bool.or_eq_false_iff,Bool.not_eq_false',decide_eq_true_eq] at hc
       obtain⟨rfl,rfl,hl⟩:=hc
       obtain⟨rfl,rfl⟩:=Q3Q hgx.1 hk
       obtain⟨-,rfl⟩:=Q3Q hgy.1 (by decide)
       have hz:=Q5v lx ly
       obtain⟨σ,h1,h2⟩:=Q2v av bv k ((lx.zip ly).reverse++st) g (by rw[Q80,Q81];omega) (λp hp=>by
        rcases List.mem_append.1 hp with hp|hp
        ·exact QbZ hgx.2 hgy.2 p (List.mem_reverse.1 hp)
        ·exact hgs p hp) hm
       refine⟨σ,h1,List.forall_mem_cons.2 ⟨?_,λp hp=>h2 p (Yq _ hp)⟩⟩
       have h3:=(Q6i av bv σ lx ly hl).1 λp hp=>h2 p (Ym _ (List.mem_reverse.2 hp))
       unfold Meets
       simp only[rebT,hk,cond_false,ownTy,h3]
theorem Q0X(av bv:Int)(σ:Int->Ty):∀ (k:Nat) (st:List (Ty × Ty)) (g:Int->Option Ty),sumX st<=k->(∀ p ∈ st,GoodP p)->(∀ n u,g n=some u->ownTy (σ n)=ownTy u)->(∀ p ∈ st,Meets av bv σ p)->moreF av bv k st g=true
 |0,_,g,_,_,_,_=>rfl
 |k+1,[],g,_,_,_,_=>rfl
 |k+1,(.mk kx nx sx lx bx,.mk ky ny sy ly by')::st,g,hs,hg,hσ,hM=>by
   rw[Q1q] at hs
   simp only[Ty.size] at hs
   have hg0:=hg _ Yc
   have hgs:=λp hp=>hg p (Yb _ hp)
   have hM0:=hM _ Yc
   have hMs:=λp hp=>hM p (Yb _ hp)
   obtain⟨hgx,hgy⟩:=hg0
   simp only[allTy,Ya] at hgx hgy
   unfold Meets at hM0
   rw[Qch]
   cases hk:decide (kx=1) with
   |true=>
     simp only[rebT,hk,cond_true,sub] at hM0
     rw[cond_true]
     cases hn:decide (nx<av) with
     |true=>
       rw[hn,cond_true] at hM0
       rw[cond_true]
       cases hx:g nx with
       |some was=>
         have he:eqTy was (.mk ky ny sy ly by')=true:=(Q67 _ _).2 (by rw[<-hσ nx was hx];exact hM0)
         simp only[he,cond_true]
         exact Q0X av bv σ k st g (by omega) hgs hσ hMs
       |none=>
         simp only[]
         refine Q0X av bv σ k st _ (by omega) hgs (λn u h=>?_) hMs
         unfold upd at h
         split at h
         ·rename_i e;cases h;rw[e];exact hM0
         ·exact hσ n u h
     |false=>
       rw[hn,cond_false] at hM0
       rw[cond_false]
       simp only[tvar,ownTy,ownTys,Ty.mk.injEq] at hM0
       obtain⟨h1,h2,-,-,-⟩:=hM0
       have hn':=of_decide_eq_false hn
       rw[decide_eq_true h1.symm,decide_eq_false (show ¬ ny<bv by omega),decide_eq_true (show ny - bv=nx - av by omega)]
       exact Q0X av bv σ k st g (by omega) hgs hσ hMs
   |false=>
     simp only[rebT,hk,cond_false,ownTy,Ty.mk.injEq] at hM0
     obtain⟨h1,h2,h3,h4,-⟩:=hM0
     obtain⟨rfl,rfl⟩:=Q3Q hgx.1 hk
     have hl:lx.length=ly.length:=by
      have:=congrArg List.length h4
      simpa [Q5n,Q4e] using this
     have hz:=Q5v lx ly
     rw[cond_false,decide_eq_true h1.symm,decide_eq_true h3,decide_eq_true hl]
     refine Q0X av bv σ k ((lx.zip ly).reverse++st) g (by rw[Q80,Q81];omega) (λp hp=>?_) hσ (λp hp=>?_)
     ·rcases List.mem_append.1 hp with hp|hp
      ·exact QbZ hgx.2 hgy.2 p (List.mem_reverse.1 hp)
      ·exact hgs p hp
     ·rcases List.mem_append.1 hp with hp|hp
      ·exact (Q6i av bv σ lx ly hl).2 h4 p (List.mem_reverse.1 hp)
      ·exact hMs p hp
theorem Zk{v:Int}{t:Ty}(h:rightSB v t=true):rightTyB t=true/\0<=v/\v<=256:=by
 unfold rightSB at h
 simpa [Ya] using h
theorem Qh6(av:Int)(t:Ty)(bv:Int)(u:Ty):moreP av t bv u=true↔rightSB av t=true/\rightSB bv u=true/\∃ σ,ownTy (rebT (sub av bv σ) t)=ownTy u:=by
 unfold moreP
 cases ha:rightSB av t with
 |false=>simp
 |true=>
   cases hb:rightSB bv u with
   |false=>simp
   |true=>
     have ga:=ZD (Zk ha).1
     have gb:=ZD (Zk hb).1
     have hg:∀ p ∈ [(t,u)],GoodP p:=by simp;exact⟨ga,gb⟩
     have hs:sumX [(t,u)]<=t.size:=by simp[sumX]
     simp only[Bool.not_true,Bool.or_self,cond_false,true_and]
     constructor
     ·intro h
      obtain⟨σ,-,h2⟩:=Q2v av bv t.size [(t,u)] _ hs hg h
      exact⟨σ,h2 _ Yc⟩
     ·rintro⟨σ,h⟩
      exact Q0X av bv σ t.size [(t,u)] _ hs hg (λn u h=>by cases h) (by intro p hp;rw[List.mem_singleton.1 hp];exact h)
def numI(n:Int):Bool:=decide (-9223372036854775808<=n)&&decide (n<=9223372036854775807)
theorem Qck{n:Int}:numI n=true↔-9223372036854775808<=n/\n<=9223372036854775807:=by unfold numI;rw[Ya,decide_eq_true_eq,decide_eq_true_eq]
def numB(u:Ty):Bool:=numI u.n
structure Sch where
 vars:Int
 ty:Ty
namespace Sch
def cells(x:Sch):List AV:=.int .i64 x.vars::x.ty.cells
abbrev enc(x:Sch):AV:=.agg x.cells
end Sch
mutual
theorem Qcl:∀ t:Ty,allTy goodB t=true->allTy numB t=true->allTy (varB λn=>decide (0<=n)&&decide (n<=9223372036854775807)) t=true
 |.mk k n s l b,hg,hn=>by
   simp only[allTy,Ya] at hg hn |-
   refine⟨?_,Qao l hg.2 hn.2⟩
   show (!decide (k=1) || (decide (0<=n)&&decide (n<=9223372036854775807)))=true
   cases hk:decide (k=1) with
   |true=>
     have h1:=Qck.1 (show numI n=true from hn.1)
     rw[decide_eq_true (Q5f hg.1 hk).1,decide_eq_true h1.2];rfl
   |false=>rfl
theorem Qao:∀ l:List Ty,allTys goodB l=true->allTys numB l=true->allTys (varB λn=>decide (0<=n)&&decide (n<=9223372036854775807)) l=true
 |[],_,_=>rfl
 |t::l,hg,hn=>by
   simp only[allTys,Ya] at hg hn |-
   exact⟨Qcl t hg.1 hn.1,Qao l hg.2 hn.2⟩
end
structure SchOK (x:Sch):Prop where
 size:x.ty.size<2^28
 names:NamesTy x.ty
 num:allTy numB x.ty=true
theorem SchOK.var{x:Sch}(h:SchOK x)(hr:rightTyB x.ty=true):allTy (varB λn=>decide (0<=n)&&decide (n<=9223372036854775807)) x.ty=true:=Qcl _ (ZD hr) h.num
end Go.Am
namespace Go.Proofs.YtobelgghegmhhaaGreatDoor
open Go Go.Am
set_option maxRecDepth 4000
def encP(p:Ty × Ty):AV:=.agg (p.1.cells++p.2.cells)
theorem Q5c(p:Ty × Ty):(encP p).cells=p.1.cells++p.2.cells:=rfl
theorem Q7E(p:Ty × Ty):(encP p).cells.length=8:=by rw[Q5c,Ye,Ty.cells_len,Ty.cells_len]
def flatP(l:List (Ty × Ty)):List AV:=flatL (l.map encP)
theorem Q69(l:List (Ty × Ty)):(flatP l).length=l.length*8:=by
 have:=Q4a (sz:=8) (l:=l.map encP) (λv hv=>by obtain⟨p,_,rfl⟩:=List.mem_map.1 hv;exact Q7E p)
 simpa [flatP] using this
theorem Q5e(l:List (Ty × Ty))(p:Ty × Ty):flatP (l++[p])=flatP l++(p.1.cells++p.2.cells):=by
 unfold flatP
 rw[List.map_append,Q49]
 simp[flatL,Q5c]
def Stk(s:St)(loc:Nat)(l:List (Ty × Ty)):Prop:=∃ rest:List Slot,s.locs[loc]? = some (.var ((flatP l).map .val++rest))
theorem Stk.lt{s:St}{loc:Nat}{l:List (Ty × Ty)}(h:Stk s loc l):loc<s.locs.length:=by
 obtain⟨r,h⟩:=h
 exact (List.getElem?_eq_some_iff.1 h).1
theorem Stk.move{s s':St}{loc:Nat}{l:List (Ty × Ty)}(h:Stk s loc l)(g:∀ o,s.locs[loc]? = some o->s'.locs[loc]? = some o):Stk s' loc l:=by
 obtain⟨r,h⟩:=h
 exact⟨r,g _ h⟩
theorem Stk.pop{s:St}{loc:Nat}{l:List (Ty × Ty)}{p:Ty × Ty}(h:Stk s loc (l++[p])):Stk s loc l:=by
 obtain⟨r,h⟩:=h
 rw[Q5e,List.map_append,Yr] at h
 exact⟨_,h⟩
theorem Stk.top{s:St}{loc:Nat}{l:List (Ty × Ty)}{p:Ty × Ty}(h:Stk s loc (l++[p])):ldV (C.ti Qv) false s (.val (.vp loc (l.length*8)))=some (.val (.agg (p.1.cells++p.2.cells))):=by
 obtain⟨r,h⟩:=h
 rw[Q5e,List.map_append,Yr] at h
 rw[QS h,List.drop_left' (by rw[Yh,Q69]),Q15,List.take_left' (by rw[Yh,Ye,Ty.cells_len,Ty.cells_len])]
 exact Qdl Qea (by rw[Q15,Ye,Ty.cells_len,Ty.cells_len])
theorem Stk.push{s:St}{loc:Nat}{l:List (Ty × Ty)}(h:Stk s loc l)(p:Ty × Ty)(hb:l.length<2^30){y:Slot}(hy:y.list? = some [encP p]) :
  ∃ s',appendV Qv (C.ti Qv) s (.val (.vs loc Qv 8 0 l.length)) y=some (.val (.vs s.locs.length Qv 8 0 (l.length+1)),s')/\Stk s' s.locs.length (l++[p])/\(∀ s0,Grew s0 s->s0.locs.length<=loc->Grew s0 s')/\(∀ (j:Nat) (o:Am.Obj),j≠loc->s.locs[j]? = some o->s'.locs[j]? = some o):=by
 have hl:=h.lt
 obtain⟨r,h⟩:=h
 refine⟨{ s with locs:=s.locs.set loc .dead++[.var ((flatP l).map .val++(flatL [encP p]).map .val)] },?_,⟨[],?_⟩,λs0 g hb=>(Q0G g hb .dead).addLoc _,λj o hj ho=>?_⟩
 ·unfold appendV
  rw[hy]
  simp only[Q02 (l:=[encP p]) (sz:=(C.ti Qv).size) (by intro v hv;rw[List.mem_singleton.1 hv,Q15];exact Q7E p) (by rw[Q15];decide),cond_true,h]
  rw[if_pos ⟨trivial,by rw[Ye,Yh,Q69];omega,by rw[Q5S,Yj];omega,by rw[Yj];omega⟩,List.take_left' (by rw[Yh,Q69])]
  rfl
 ·simp only[]
  rw[List.getElem?_append_right (by rw[List.length_set];exact Yd _),List.length_set,Nat.sub_self,Q5e]
  simp[flatL,Q5c]
 ·have hj2:=(List.getElem?_eq_some_iff.1 ho).1
  simp only[]
  rw[List.getElem?_append_left (by rw[List.length_set];exact hj2),List.getElem?_set_ne (Ne.symm hj)];exact ho
theorem Qg5(loc n:Nat):sliceS (C.ti Q0m) 8 (.val (.vs loc Qv 8 0 (n+1))) none (some (.val (.int .i64 n))) none=some (.val (.vs loc Qv 8 0 n)):=by
 have hb:bound (some (.val (.int .i64 (n:Int)))) (n+1) (n+1)=some n:=Qfh (by omega)
 simp only[sliceS,Qe8,Qcc,sliceV,hb]
 rfl
def MapTI(s:St)(M:Nat)(g:Int->Option Ty):Prop:=∃ es c D,s.locs[M]? = some (.map es c)/\MapIs ekI Ty.enc g es c D
theorem MapTI.move{s s':St}{M:Nat}{g:Int->Option Ty}(h:MapTI s M g)(k:∀ o,s.locs[M]? = some o->s'.locs[M]? = some o):MapTI s' M g:=by
 obtain⟨es,c,D,h1,h2⟩:=h
 exact⟨es,c,D,k _ h1,h2⟩
theorem MapTI.get{s:St}{M:Nat}{g:Int->Option Ty}(h:MapTI s M g)(n:Int):lookupS (C.ti Q1) (C.ti Q2) s (.val (.mp M)) (.val (.int .i64 n)) true=some (.val (.tup [((g n).getD zeroTy).enc,.bool (g n).isSome])):=by
 obtain⟨es,c,D,h1,h2⟩:=h
 have:=Q4w h2 keyInt n (kt:=C.ti Q1) (et:=C.ti Q2) (Q26 Q1A n) h1 (z:=zeroTy.enc) (Qgn Qfb Qbv Qfd (by rw[ZM];rfl)) true
 simp only[ekI] at this
 rw[this]
 cases g n<;>rfl
theorem MapTI.set{s:St}{M:Nat}{g:Int->Option Ty}(h:MapTI s M g)(n:Int)(v:Ty) :
  ∃ es c,updateS (C.ti Q1) (C.ti Q2) s (.val (.mp M)) (.val (.int .i64 n)) (.val v.enc)=some (.no,{ s with locs:=s.locs.set M (.map es c) })/\MapTI { s with locs:=s.locs.set M (.map es c) } M (upd g n v):=by
 obtain⟨es,c,D,h1,h2⟩:=h
 obtain⟨es',c',D',e1,e2⟩:=Q7x h2 keyInt (kt:=C.ti Q1) (et:=C.ti Q2) n (Q26 Q1A n) h1 (x:=.val v.enc) (v:=v) rfl (by rw[ZM];exact Ty.cells_len v)
 exact⟨es',c',e1,es',c',D',Q1L h1,e2⟩
theorem Qal(X2 X3:List Slot)(M:Nat)(x y:Ty)(hxy:x.args.length=y.args.length)(hxl:x.args.length<2^28)(s0:St)(hb:s0.locs.length<=M)(g:Int->Option Ty):∀ (suf suf' pre pre':List Ty) (l:List (Ty × Ty)) (loc:Nat) (s:St) (i:Nat),pre++suf=x.args->pre'++suf'=y.args->i=pre.length->pre'.length=pre.length->l.length+suf.length<2^30->Stk s loc l->MapTI s M g->M<loc->Grew s0 s->
  ∃ s' loc',Q0E X2 X3 (.val (.mp M)) (.val (.vs loc Qv 8 0 l.length)) ((x.cells++y.cells).map .val) (.val (.int .i64 x.args.length)) (.val (.int .i64 i)) s=QV X2 X3 (.val (.mp M)) (.val (.vs loc' Qv 8 0 (l++suf.zip suf').length)) s'/\Stk s' loc' (l++suf.zip suf')/\MapTI s' M g/\M<loc'/\Grew s0 s'
 |[],suf',pre,pre',l,loc,s,i,h,h',hi,hp,hl,hS,hM,hlt,G=>by
   subst hi
   refine⟨s,loc,?_,by simpa using hS,hM,hlt,G⟩
   rw[Q3n]
   simp only[go_sem,Nat.reduceLeDiff,Nat.reduceSub,Ql (by simpa using h),List.zip_nil_left,List.append_nil]
 |t::suf,[],pre,pre',l,loc,s,i,h,h',hi,hp,hl,hS,hM,hlt,G=>by
   have h1:=congrArg List.length h
   have h2:=congrArg List.length h'
   simp only[Ye,Yp,Yg] at h1 h2
   omega
 |t::suf,u::suf',pre,pre',l,loc,s,i,h,h',hi,hp,hl,hS,hM,hlt,G=>by
   subst hi
   simp only[Yg] at hl
   have cx:=Ty.cells_eq x
   have cy:=Ty.cells_eq y
   obtain⟨f1,f2,f3⟩:=Qh (x:=.val (encS x.nl (x.args.map Ty.enc))) (Qe _ _) h (by omega) (Ty.cells_len t) (by decide)
   obtain⟨-,f5,-⟩:=Qh (x:=.val (encS y.nl (y.args.map Ty.enc))) (Qe _ _) h' (by omega) (Ty.cells_len u) (by decide)
   rw[hp] at f5
   have ct:=Ty.cells_eq t
   have cu:=Ty.cells_eq u
   obtain⟨s1,e1,S1,G1,K1⟩:=hS.push (t,u) (by omega) (y:=.full [encP (t,u)]) rfl
   obtain⟨s2,loc2,e2,S2,M2,L2,G2⟩:=Qal X2 X3 M x y hxy hxl s0 hb g suf suf' (pre++[t]) (pre'++[u]) (l++[(t,u)]) s.locs.length s1 (pre.length+1) (by simpa using h) (by simpa using h') (by simp) (by simp[hp]) (by simp;omega) S1 (hM.move λo=>K1 M o (by omega)) (by have:=hS.lt;omega) (G1 s0 G (by omega))
   refine⟨s2,loc2,?_,by simpa using S2,M2,L2,G2⟩
   rw[Q3n]
   simp only[Ye,Yj,Yr,List.singleton_append,cx,cy,Yi,Yn,Yk,Yo] at e2 |-
   simp only[encP,ct,cu,Yk,Yo] at e1
   simp only[go_sem,Nat.reduceAdd,Nat.reduceLeDiff,f1,f2,f3,f5,ct,cu,e1,List.zip_cons_cons,Yg]
   exact e2
structure PairOK (p:Ty × Ty):Prop where
 vx:allTy (varB λn=>decide (0<=n)&&decide (n<=9223372036854775807)) p.1=true
 vy:allTy (varB λn=>decide (0<=n)&&decide (n<=9223372036854775807)) p.2=true
 sx:p.1.size<2^28
 sy:p.2.size<2^28
theorem PairOK.var{t:Ty}(h:allTy (varB λn=>decide (0<=n)&&decide (n<=9223372036854775807)) t=true)(hk:decide (t.kind=1)=true):0<=t.n/\t.n<=9223372036854775807:=by
 cases t with
 |mk k n s l b=>
   simp only[allTy,Ya] at h
   have:=Q5x h.1 hk
   simp only[Ya,decide_eq_true_eq] at this
   exact this
theorem PairOK.kids{p:Ty × Ty}(h:PairOK p):∀ q ∈ p.1.args.zip p.2.args,PairOK q:=by
 intro q hq
 have hm:=List.of_mem_zip (a:=q.1) (b:=q.2) hq
 obtain⟨⟨kx,nx,sx,lx,bx⟩,⟨ky,ny,sy,ly,by'⟩⟩:=p
 obtain⟨h1,h2,h3,h4⟩:=h
 simp only[Ty.args] at hm
 simp only[allTy,Ya] at h1 h2
 simp only[Ty.size] at h3 h4
 have a1:=Ty.mem_sizes hm.1
 have a2:=Ty.mem_sizes hm.2
 exact⟨Q08 h1.2 _ hm.1,Q08 h2.2 _ hm.2,by omega,by omega⟩
theorem QfJ(av bv:Int)(k:Nat)(x y:Ty)(st:List (Ty × Ty))(g:Int->Option Ty):moreF av bv (k+1) ((x,y)::st) g =
  bif decide (x.kind=1) then
   (bif decide (x.n<av) then (match g x.n with
     |some was=>bif eqTy was y then moreF av bv k st g else false
     |none=>moreF av bv k st (upd g x.n y))
   else bif !decide (y.kind=1) || (decide (y.n<bv) || !decide (y.n - bv=x.n - av)) then false else moreF av bv k st g)
  else bif !decide (y.kind=2) || (!decide (x.name=y.name) || !decide (x.args.length=y.args.length)) then false else moreF av bv k ((x.args.zip y.args).reverse++st) g:=rfl
theorem Q6k(av bv:Int)(t u:Ty)(ha:0<=av/\av<=256)(hb:0<=bv/\bv<=256)(M:Nat)(s0:St)(hM0:s0.locs.length<=M):∀ (k:Nat) (st:List (Ty × Ty)) (g:Int->Option Ty) (loc:Nat) (s:St),k<2^28->sumX st<=k->(∀ p ∈ st,PairOK p)->(∀ n w,g n=some w->w.size<2^28)->Stk s loc st.reverse->MapTI s M g->M<loc->Grew s0 s->
  Ret (QV ((AV.int .i64 av::t.cells).map .val) ((AV.int .i64 bv::u.cells).map .val) (.val (.mp M)) (.val (.vs loc Qv 8 0 st.length)) s) s0 (.bool (moreF av bv k st g))
 |k,[],g,loc,s,hk,hs,hp,hg,hS,hM,hlt,G=>by
   have z:decide (((0:Nat):Int)>0)=false:=rfl
   have:moreF av bv k [] g=true:=by cases k<;>rfl
   rw[Q3m,this]
   simp only[go_sem,Yp,z]
   exact⟨s,rfl,G⟩
 |0,(x,y)::st,g,loc,s,hk,hs,_,_,_,_,_,_=>by
   have:=Ty.size_pos x
   rw[Q1q] at hs
   simp only at hs
   omega
 |k+1,(x,y)::st,g,loc,s,hk,hs,hp,hg,hS,hM,hlt,G=>by
   rw[Q1q] at hs
   simp only at hs
   have hsz:Ty.sizes x.args+1=x.size:=by cases x;simp only[Ty.size,Ty.args]
   have hal:=Ty.len_sizes x.args
   have hpos:=Ty.size_pos x
   have hst:st.length<=sumX st:=by
    clear hs hp hS
    induction st with
    |nil=>simp
    |cons q st ih=>
      have:=Ty.size_pos q.1
      rw[Q1q,Yg];omega
   have P:=hp _ Yc
   have hps:=λp h=>hp p (Yb _ h)
   have cx:=Ty.cells_eq x
   have cy:=Ty.cells_eq y
   have ct:=Ty.cells_eq t
   have cu:=Ty.cells_eq u
   rw[List.reverse_cons] at hS
   have hT:=hS.top
   have hS':=hS.pop
   rw[List.length_reverse] at hT
   have z:decide (((st.length+1:Nat):Int)>0)=true:=decide_eq_true (by omega)
   have w1:IntKind.i64.wrap (((st.length+1:Nat):Int) - 1)=(st.length:Int):=by rw[wrap64 (by omega) (by omega)];omega
   have f1:ixS 8 (.val (.vs loc Qv 8 0 (st.length+1))) (.val (.int .i64 (st.length:Int)))=some (.val (.vp loc (st.length*8))):=by
    rw[Q6e (by omega) (by decide),Nat.zero_add]
   have f2:=Qg5 loc st.length
   have ih:=λg' s' (a:∀ n w,g' n=some w->w.size<2^28) (b:Stk s' loc st.reverse) (c:MapTI s' M g') (d:Grew s0 s')=>Q6k av bv t u ha hb M s0 hM0 k st g' loc s' (by omega) (by omega) hps a b c hlt d
   rw[Q3m,QfJ]
   cases hkx:decide (x.kind=1) with
   |true=>
     have hx:0<=x.n/\x.n<=9223372036854775807:=PairOK.var P.vx hkx
     cases hn:decide (x.n<av) with
     |true=>
       have hget:=hM.get x.n
       cases hgx:g x.n with
       |some was=>
         have e1:=QcN was (Q00 was (hg _ _ hgx)) y s
         have cw':=Ty.cells_eq was
         rw[hgx] at hget
         cases he:eqTy was y with
         |true=>
           have i:=ih g s hg hS' hM G
           rw[he] at e1
           simp only[Option.getD_some,Option.isSome_some,Ty.enc,cw',cx,cy,ct,cu,Yi,Yn,Yk,Yo] at hT e1 hget i |-
           simp only[go_sem,Nat.reduceAdd,Nat.reduceLeDiff,Yg,z,w1,f1,f2,hT,hkx,hn,hget,e1,he,cond_true,cond_false]
           exact i
         |false=>
           rw[he] at e1
           simp only[Option.getD_some,Option.isSome_some,Ty.enc,cw',cx,cy,ct,cu,Yi,Yn,Yk,Yo] at hT e1 hget |-
           simp only[go_sem,Nat.reduceAdd,Nat.reduceLeDiff,Yg,z,w1,f1,f2,hT,hkx,hn,hget,e1,he,cond_true,cond_false]
           exact⟨s,rfl,G⟩
       |none=>
         rw[hgx] at hget
         obtain⟨es,c,eu,hM'⟩:=hM.set x.n y
         have i:=ih (upd g x.n y) { s with locs:=s.locs.set M (.map es c) } (λn w h=>by
          unfold upd at h
          split at h
          ·cases h;exact P.sy
          ·exact hg n w h) (hS'.move λo ho=>by
           show (s.locs.set M _)[loc]? = _
           rw[List.getElem?_set_ne (by omega)];exact ho) hM' (Q0G G hM0 _)
         simp only[Option.getD_none,Option.isSome_none,Ty.enc,zeroTy,Ty.cells_mk,cx,cy,ct,cu,Yi,Yn,Yk,Yo] at hT eu hget i |-
         simp only[go_sem,Nat.reduceAdd,Nat.reduceLeDiff,Yg,z,w1,f1,f2,hT,hkx,hn,hget,eu,cond_true]
         exact i
     |false=>
       have hn':=of_decide_eq_false hn
       have hk1:decide (x.kind=1)=true:=hkx
       have i:=ih g s hg hS' hM G
       have w2:IntKind.i64.wrap (x.n - av)=x.n - av:=wrap64 (by omega) (by omega)
       cases hky:decide (y.kind=1) with
       |false=>
         simp only[cx,cy,ct,cu,Yi,Yn,Yk,Yo] at hT |-
         simp only[go_sem,Nat.reduceAdd,Nat.reduceLeDiff,Yg,z,w1,f1,f2,hT,hkx,hn,hky,cond_true,cond_false]
         exact⟨s,rfl,G⟩
       |true=>
         have hy:0<=y.n/\y.n<=9223372036854775807:=PairOK.var P.vy hky
         cases hm:decide (y.n<bv) with
         |true=>
           simp only[cx,cy,ct,cu,Yi,Yn,Yk,Yo] at hT |-
           simp only[go_sem,Nat.reduceAdd,Nat.reduceLeDiff,Yg,z,w1,f1,f2,hT,hkx,hn,hky,hm,cond_true,cond_false]
           exact⟨s,rfl,G⟩
         |false=>
           have hm':=of_decide_eq_false hm
           have w3:IntKind.i64.wrap (y.n - bv)=y.n - bv:=wrap64 (by omega) (by omega)
           cases hd:decide (y.n - bv=x.n - av) with
           |true=>
             simp only[cx,cy,ct,cu,Yi,Yn,Yk,Yo] at hT i |-
             simp only[go_sem,Nat.reduceAdd,Nat.reduceLeDiff,Yg,z,w1,w2,w3,f1,f2,hT,hkx,hn,hky,hm,hd,cond_true,cond_false]
             exact i
           |false=>
             simp only[cx,cy,ct,cu,Yi,Yn,Yk,Yo] at hT |-
             simp only[go_sem,Nat.reduceAdd,Nat.reduceLeDiff,Yg,z,w1,w2,w3,f1,f2,hT,hkx,hn,hky,hm,hd,cond_true,cond_false]
             exact⟨s,rfl,G⟩
   |false=>
     cases hky:decide (y.kind=2) with
     |false=>
       simp only[cx,cy,ct,cu,Yi,Yn,Yk,Yo] at hT |-
       simp only[go_sem,Nat.reduceAdd,Nat.reduceLeDiff,Yg,z,w1,f1,f2,hT,hkx,hky,cond_true,cond_false]
       exact⟨s,rfl,G⟩
     |true=>
       cases hnm:decide (x.name=y.name) with
       |false=>
         simp only[cx,cy,ct,cu,Yi,Yn,Yk,Yo] at hT |-
         simp only[go_sem,Nat.reduceAdd,Nat.reduceLeDiff,Yg,z,w1,f1,f2,hT,hkx,hky,hnm,cond_true,cond_false]
         exact⟨s,rfl,G⟩
       |true=>
         have hil:∀ a b:Nat,decide ((a:Int)=(b:Int))=decide (a=b):=λa b=>by
          by_cases h:a=b
          ·rw[decide_eq_true h,decide_eq_true (by omega)]
          ·rw[decide_eq_false h,decide_eq_false (by omega)]
         have hle:=hil x.args.length y.args.length
         cases hl:decide (x.args.length=y.args.length) with
         |false=>
           rw[hl] at hle
           simp only[cx,cy,ct,cu,Yi,Yn,Yk,Yo] at hT |-
           simp only[go_sem,Nat.reduceAdd,Nat.reduceLeDiff,Yg,z,w1,f1,f2,hT,hkx,hky,hnm,Qe,Yh,hle,cond_true,cond_false]
           exact⟨s,rfl,G⟩
         |true=>
           rw[hl] at hle
           have hl':=of_decide_eq_true hl
           have hlen:st.reverse.length+x.args.length<2^30:=by rw[List.length_reverse];omega
           obtain⟨s',loc',e1,S1,M1,L1,G1⟩:=Qal ((AV.int .i64 av::t.cells).map .val) ((AV.int .i64 bv::u.cells).map .val) M x y hl' (by omega) s0 hM0 g x.args y.args [] [] st.reverse loc s 0 rfl rfl rfl rfl hlen hS' hM hlt G
           have hrev:st.reverse++x.args.zip y.args=((x.args.zip y.args).reverse++st).reverse:=by simp
           have hz:=Q5v x.args y.args
           have i:=Q6k av bv t u ha hb M s0 hM0 k ((x.args.zip y.args).reverse++st) g loc' s' (by omega) (by rw[Q80,Q81];omega) (λp h=>by
            rcases List.mem_append.1 h with h|h
            ·exact P.kids p (List.mem_reverse.1 h)
            ·exact hps p h) hg (by rw[<-hrev];exact S1) M1 L1 G1
           rw[hrev,List.length_reverse,List.length_reverse,show ((0:Nat):Int)=0 from rfl] at e1
           rw[<-e1] at i
           simp only[cx,cy,ct,cu,Yi,Yn,Yk,Yo] at hT i |-
           simp only[go_sem,Nat.reduceAdd,Nat.reduceLeDiff,Yg,z,w1,f1,f2,hT,hkx,hky,hnm,Qe,Yh,hle,cond_true,cond_false]
           exact i
open Go Go.Am
set_option maxRecDepth 4000
theorem Qkh{e:TypeId}{t:TI}{v:AV}(s:St)(h:v.cells.length=t.size)(ht:v.isTup=false)(hb:t.bytes<=2^16):bslV e t s [.val v]=some (.val (.vs s.locs.length e t.size 0 1),s.addLoc (.var ((flatL [v]).map .val))):=by
 unfold bslV
 rw[QgB h ht,QgA]
 simp only[Option.map_some,newV,Yj]
 rw[if_pos ⟨by omega,by omega⟩]
theorem ZZ(a b:Sch)(ha:SchOK a)(hb:SchOK b)(s:St):Ret (cw (.f Z5) [a.enc,b.enc] s) s (.bool (moreP a.vars a.ty b.vars b.ty)):=by
 obtain⟨av,t⟩:=a
 obtain⟨bv,u⟩:=b
 obtain⟨s1,e1,g1⟩:=ZG av t s (by have:=ha.size;simp only at this;omega) ha.names
 have ct:=Ty.cells_eq t
 have cu:=Ty.cells_eq u
 change cw _ _ _=some (.ret (.val (.bool (rightSB av t))),s1) at e1
 rw[Q9I]
 unfold moreP
 cases hr:rightSB av t with
 |false=>
   rw[hr] at e1
   simp only[Sch.enc,Sch.cells,ct,cu] at e1 |-
   simp only[go_sem,Nat.reduceAdd,Nat.reduceLeDiff,e1]
   exact⟨s1,rfl,g1⟩
 |true=>
   obtain⟨s2,e2,g2⟩:=ZG bv u s1 (by have:=hb.size;simp only at this;omega) hb.names
   change cw _ _ _=some (.ret (.val (.bool (rightSB bv u))),s2) at e2
   rw[hr] at e1
   cases hr2:rightSB bv u with
   |false=>
     rw[hr2] at e2
     simp only[Sch.enc,Sch.cells,ct,cu] at e1 e2 |-
     simp only[go_sem,Nat.reduceAdd,Nat.reduceLeDiff,e1,e2]
     exact⟨s2,rfl,g1.trans g2⟩
   |true=>
     rw[hr2] at e2
     have r1:=Zk hr
     have r2:=Zk hr2
     have e3:=Qkh (e:=Qv) (t:=C.ti Qv) (v:=encP (t,u)) (s2.addLoc (.map [] 0)) (by rw[Q15];exact Q7E _) rfl (by rw[Q5S];decide)
     rw[Q15] at e3
     have gM:Grew s2 ((s2.addLoc (.map [] 0)).addLoc (.var ((flatL [encP (t,u)]).map .val))):=((Grew.refl s2).addLoc _).addLoc _
     obtain⟨s4,e4,g4⟩:=Q6k av bv t u r1.2 r2.2 s2.locs.length s2 (Yd _) t.size [(t,u)] (λ_=>none) (s2.addLoc (.map [] 0)).locs.length ((s2.addLoc (.map [] 0)).addLoc (.var ((flatL [encP (t,u)]).map .val))) ha.size (by simp[sumX]) (by
       intro p hp
       rw[List.mem_singleton.1 hp]
       exact⟨ha.var r1.1,hb.var r2.1,ha.size,hb.size⟩) (λn w h=>by cases h) ⟨[],by rw[Q24];simp[flatP]⟩ ⟨[],0,[],by simp[St.addLoc],.nil⟩ (by simp[St.addLoc]) gM
     refine⟨s4,?_,(g1.trans g2).trans g4⟩
     simp only[Bool.not_true,Bool.or_self,cond_false]
     simp only[encP,ct,cu,Yk,Yo,Yi,Yn,Yj] at e3 e4
     simp only[Sch.enc,Sch.cells,ct,cu] at e1 e2 |-
     simp only[go_sem,Nat.reduceAdd,Nat.reduceLeDiff,e1,e2,e3] at e4 |-
     exact e4
theorem Q7V(a b:Sch)(ha:SchOK a)(hb:SchOK b)(s:St):Ret (cw (.f Q3c) [a.enc,b.enc] s) s (.bool (moreP a.vars a.ty b.vars b.ty&&moreP b.vars b.ty a.vars a.ty)):=by
 obtain⟨s1,e1,g1⟩:=ZZ a b ha hb s
 obtain⟨s2,e2,g2⟩:=ZZ b a hb ha s1
 have ct:=Ty.cells_eq a.ty
 have cu:=Ty.cells_eq b.ty
 rw[Q9L]
 simp only[Sch.enc,Sch.cells,ct,cu] at e1 e2 |-
 cases hr:moreP a.vars a.ty b.vars b.ty with
 |false=>
   rw[hr] at e1
   simp only[go_sem,Nat.reduceAdd,Nat.reduceLeDiff,e1]
   exact⟨s1,rfl,g1⟩
 |true=>
   rw[hr] at e1
   simp only[go_sem,Nat.reduceAdd,Nat.reduceLeDiff,e1,e2]
   exact⟨s2,rfl,g1.trans g2⟩
end Go.Proofs.YtobelgghegmhhaaGreatDoor
namespace Go.Am
open Go
end Go.Am
namespace Go.Proofs.YtobelgghegmhhaaGreatDoor
open Go Go.Am
set_option maxRecDepth 4000
theorem Q3W(vars:Int)(t:Ty)(s:St)(h:t.size<2^28)(hn:NamesTy t):Ret (cw (.f Q1U) [.agg (.int .i64 vars::t.cells)] s) s (.bool (rightSB vars t)):=by
 obtain⟨s1,e1,g1⟩:=Q7R t s h hn
 have c:=Ty.cells_eq t
 have hc:rightSB vars t=(decide (vars≥0)&&(decide (vars<=256)&&rightTyB t)):=by
  unfold rightSB
  cases rightTyB t<;>cases decide (vars≥0)<;>cases decide (vars<=256)<;>rfl
 rw[Q9F,hc]
 simp only[go_sem,Nat.reduceAdd,Nat.reduceLeDiff,c,Ty.enc] at e1 |-
 cases h1:decide (vars≥0) with
 |false=>simp only[go_sem,h1];exact Ret.same _ _
 |true=>
   cases h2:decide (vars<=256) with
   |false=>simp only[go_sem,h1,h2];exact Ret.same _ _
   |true=>simp only[go_sem,h1,h2,e1];exact⟨s1,rfl,g1⟩
end Go.Proofs.YtobelgghegmhhaaGreatDoor
namespace Go.Am
open Go
mutual
def meetT(av bv:Int):Ty->Ty->(Int->Option Ty)->Option (Int->Option Ty)
 |.mk kx nx sx lx _,y,g=>
   bif decide (kx=1) then
    (bif decide (nx<av) then (match g nx with
      |some was=>bif eqTy was y then some g else none
      |none=>some (upd g nx y))
    else bif !decide (y.kind=1) || (decide (y.n<bv) || !decide (y.n - bv=nx - av)) then none else some g)
   else bif !decide (y.kind=kx) || (!decide (y.name=sx) || !decide (y.args.length=lx.length)) then none else meetTs av bv lx y.args g
def meetTs(av bv:Int):List Ty->List Ty->(Int->Option Ty)->Option (Int->Option Ty)
 |[],_,g=>some g
 |_::_,[],g=>some g
 |x::xs,y::ys,g=>match meetT av bv x y g with
   |some g'=>meetTs av bv xs ys g'
   |none=>none
end
theorem Qcf(av bv kx nx:Int)(sx:Str)(lx:List Ty)(b:Bool)(y:Ty)(g:Int->Option Ty):meetT av bv (.mk kx nx sx lx b) y g =
  bif decide (kx=1) then
   (bif decide (nx<av) then (match g nx with
     |some was=>bif eqTy was y then some g else none
     |none=>some (upd g nx y))
   else bif !decide (y.kind=1) || (decide (y.n<bv) || !decide (y.n - bv=nx - av)) then none else some g)
  else bif !decide (y.kind=kx) || (!decide (y.name=sx) || !decide (y.args.length=lx.length)) then none else meetTs av bv lx y.args g:=by simp only[meetT]
theorem Qaj(av bv kx nx:Int)(sx:Str)(lx:List Ty)(b:Bool)(ky ny:Int)(sy:Str)(ly:List Ty)(b':Bool)(g:Int->Option Ty):meetT av bv (.mk kx nx sx lx b) (.mk ky ny sy ly b') g =
  bif decide (kx=1) then
   (bif decide (nx<av) then (match g nx with
     |some was=>bif eqTy was (.mk ky ny sy ly b') then some g else none
     |none=>some (upd g nx (.mk ky ny sy ly b')))
   else bif !decide (ky=1) || (decide (ny<bv) || !decide (ny - bv=nx - av)) then none else some g)
  else bif !decide (ky=kx) || (!decide (sy=sx) || !decide (ly.length=lx.length)) then none else meetTs av bv lx ly g:=Qcf ..
def Agr(σ:Int->Ty)(g:Int->Option Ty):Prop:=∀ n u,g n=some u->ownTy (σ n)=ownTy u
def ExtG(g g':Int->Option Ty):Prop:=∀ n u,g n=some u->g' n=some u
theorem ExtG.refl(g:Int->Option Ty):ExtG g g:=λ_ _ h=>h
theorem ExtG.trans{a b c:Int->Option Ty}(h:ExtG a b)(k:ExtG b c):ExtG a c:=λn u x=>k n u (h n u x)
theorem Agr.ext{σ:Int->Ty}{g g':Int->Option Ty}(h:Agr σ g')(k:ExtG g g'):Agr σ g:=λn u x=>h n u (k n u x)
mutual
theorem Q8C(av bv:Int):∀ (x y:Ty) (g g':Int->Option Ty),allTy goodB x=true->allTy goodB y=true->meetT av bv x y g=some g'->ExtG g g'/\∀ σ,Agr σ g'->Meets av bv σ (x,y)
 |.mk kx nx sx lx bx,.mk ky ny sy ly by',g,g',hx,hy,h=>by
   simp only[allTy,Ya] at hx hy
   rw[Qaj] at h
   cases hk:decide (kx=1) with
   |true=>
     obtain⟨h0,rfl,rfl⟩:=Q5f hx.1 hk
     obtain rfl:=of_decide_eq_true hk
     rw[hk,cond_true] at h
     cases hn:decide (nx<av) with
     |true=>
       rw[hn,cond_true] at h
       have fin:∀ σ,ownTy (σ nx)=ownTy (.mk ky ny sy ly by')->Meets av bv σ (.mk 1 nx [] [] bx,.mk ky ny sy ly by'):=λσ e=>by
        unfold Meets
        simp only[rebT,decide_true,cond_true,sub,hn]
        exact e
       cases hg:g nx with
       |some was=>
         rw[hg] at h
         simp only at h
         cases he:eqTy was (.mk ky ny sy ly by') with
         |false=>rw[he] at h;cases h
         |true=>
           rw[he] at h;cases h
           exact⟨.refl g,λσ a=>fin σ ((a nx was hg).trans ((Q67 _ _).1 he))⟩
       |none=>
         rw[hg] at h
         simp only at h
         cases h
         exact⟨λn u e=>by rw[Q9b _ _ (λe'=>by rw[e',hg] at e;cases e)];exact e,λσ a=>fin σ (a nx _ (Q41 _ _ _))⟩
     |false=>
       rw[hn,cond_false] at h
       cases hc:(!decide (ky=1) || (decide (ny<bv) || !decide (ny - bv=nx - av))) with
       |true=>rw[hc] at h;cases h
       |false=>
         rw[hc] at h;cases h
         simp only[Bool.or_eq_false_iff,Bool.not_eq_false',decide_eq_true_eq] at hc
         refine⟨.refl g,λσ _=>?_⟩
         obtain⟨h0',rfl,rfl⟩:=Q6c hy.1 hc.1
         unfold Meets
         simp only[rebT,decide_true,cond_true,sub,hn,cond_false]
         rw[show nx - av+bv=ny by omega,hc.1];rfl
   |false=>
     rw[hk,cond_false] at h
     cases hc:(!decide (ky=kx) || (!decide (sy=sx) || !decide (ly.length=lx.length))) with
     |true=>rw[hc] at h;cases h
     |false=>
       rw[hc,cond_false] at h
       simp only[Bool.or_eq_false_iff,Bool.not_eq_false',decide_eq_true_eq] at hc
       obtain⟨rfl,rfl,hl⟩:=hc
       obtain⟨rfl,rfl⟩:=Q3Q hx.1 hk
       obtain⟨-,rfl⟩:=Q3Q hy.1 hk
       obtain⟨h1,h2⟩:=Q7k av bv lx ly g g' hx.2 hy.2 hl.symm h
       refine⟨h1,λσ a=>?_⟩
       unfold Meets
       simp only[rebT,hk,cond_false,ownTy,h2 σ a]
theorem Q7k(av bv:Int):∀ (x y:List Ty) (g g':Int->Option Ty),allTys goodB x=true->allTys goodB y=true->x.length=y.length->meetTs av bv x y g=some g'->ExtG g g'/\∀ σ,Agr σ g'->ownTys (rebTs (sub av bv σ) x)=ownTys y
 |[],[],g,g',_,_,_,h=>by simp only[meetTs] at h;cases h;exact⟨.refl g,λ_ _=>rfl⟩
 |x::xs,y::ys,g,g',hx,hy,hl,h=>by
   simp only[allTys,Ya] at hx hy
   simp only[meetTs] at h
   cases h1:meetT av bv x y g with
   |none=>rw[h1] at h;cases h
   |some g1=>
     rw[h1] at h
     simp only at h
     obtain⟨a1,a2⟩:=Q8C av bv x y g g1 hx.1 hy.1 h1
     obtain⟨b1,b2⟩:=Q7k av bv xs ys g1 g' hx.2 hy.2 (by simpa using hl) h
     refine⟨a1.trans b1,λσ a=>?_⟩
     have:=a2 σ (a.ext b1)
     unfold Meets at this
     simp only[rebTs,ownTys,this,b2 σ a]
 |[],_::_,_,_,_,_,hl,_=>by simp at hl
 |_::_,[],_,_,_,_,hl,_=>by simp at hl
end
mutual
theorem Q5C(av bv:Int)(σ:Int->Ty):∀ (x y:Ty) (g:Int->Option Ty),allTy goodB x=true->allTy goodB y=true->Agr σ g->Meets av bv σ (x,y)->∃ g',meetT av bv x y g=some g'/\Agr σ g'
 |.mk kx nx sx lx bx,.mk ky ny sy ly by',g,hx,hy,ha,hM=>by
   simp only[allTy,Ya] at hx hy
   unfold Meets at hM
   rw[Qaj]
   cases hk:decide (kx=1) with
   |true=>
     simp only[rebT,hk,cond_true,sub] at hM
     rw[cond_true]
     cases hn:decide (nx<av) with
     |true=>
       rw[hn,cond_true] at hM
       rw[cond_true]
       cases hg:g nx with
       |some was=>
         have he:eqTy was (.mk ky ny sy ly by')=true:=(Q67 _ _).2 (by rw[<-ha nx was hg];exact hM)
         simp only[he,cond_true]
         exact⟨g,rfl,ha⟩
       |none=>
         refine⟨_,rfl,λn u h=>?_⟩
         unfold upd at h
         split at h
         ·rename_i e;cases h;rw[e];exact hM
         ·exact ha n u h
     |false=>
       rw[hn,cond_false] at hM
       rw[cond_false]
       simp only[tvar,ownTy,ownTys,Ty.mk.injEq] at hM
       obtain⟨h1,h2,-,-,-⟩:=hM
       have hn':=of_decide_eq_false hn
       rw[decide_eq_true h1.symm,decide_eq_false (show ¬ ny<bv by omega),decide_eq_true (show ny - bv=nx - av by omega)]
       exact⟨g,rfl,ha⟩
   |false=>
     simp only[rebT,hk,cond_false,ownTy,Ty.mk.injEq] at hM
     obtain⟨h1,h2,h3,h4,-⟩:=hM
     have hl:lx.length=ly.length:=by
      have:=congrArg List.length h4
      simpa [Q5n,Q4e] using this
     rw[cond_false,decide_eq_true h1.symm,decide_eq_true h3.symm,decide_eq_true hl.symm]
     exact Q4Q av bv σ lx ly g hx.2 hy.2 ha h4
theorem Q4Q(av bv:Int)(σ:Int->Ty):∀ (x y:List Ty) (g:Int->Option Ty),allTys goodB x=true->allTys goodB y=true->Agr σ g->ownTys (rebTs (sub av bv σ) x)=ownTys y->∃ g',meetTs av bv x y g=some g'/\Agr σ g'
 |[],_,g,_,_,ha,_=>⟨g,by simp only[meetTs],ha⟩
 |_::_,[],g,_,_,ha,_=>⟨g,by simp only[meetTs],ha⟩
 |x::xs,y::ys,g,hx,hy,ha,h=>by
   simp only[allTys,Ya] at hx hy
   simp only[rebTs,ownTys,List.cons.injEq] at h
   obtain⟨g1,e1,a1⟩:=Q5C av bv σ x y g hx.1 hy.1 ha h.1
   obtain⟨g2,e2,a2⟩:=Q4Q av bv σ xs ys g1 hx.2 hy.2 a1 h.2
   exact⟨g2,by simp only[meetTs,e1,e2],a2⟩
end
theorem QfI(av:Int)(t:Ty)(bv:Int)(u:Ty)(ha:rightSB av t=true)(hb:rightSB bv u=true):(meetT av bv t u (λ_=>none)).isSome=moreP av t bv u:=by
 have ga:=ZD (Zk ha).1
 have gb:=ZD (Zk hb).1
 rw[Bool.eq_iff_iff,Qh6]
 constructor
 ·intro h
  obtain⟨g',e⟩:=Option.isSome_iff_exists.1 h
  obtain⟨-,h2⟩:=Q8C av bv t u _ g' ga gb e
  exact⟨ha,hb,λn=>(g' n).getD zeroTy,h2 _ (λn u e=>by simp[e])⟩
 ·rintro⟨-,-,σ,h⟩
  obtain⟨g',e,-⟩:=Q5C av bv σ t u (λ_=>none) ga gb (λ_ _ e=>by cases e) h
  rw[e];rfl
end Go.Am