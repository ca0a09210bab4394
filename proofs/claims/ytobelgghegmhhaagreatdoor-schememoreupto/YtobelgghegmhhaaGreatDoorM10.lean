/- A part of the proof: STy2, SShow1, PShow, SShow2, SShow3, SShow4, SLex2, SLex3. -/
import Derived.Test.YtobelgghegmhhaaGreatDoorM8
import Derived.Test.YtobelgghegmhhaaGreatDoorM9
import Derived.Lib.ItoaNum
import Derived.Lib.ItoaLen
set_option linter.unusedVariables false
set_option linter.unusedSimpArgs false
open Bool renaming and_eq_true→Ya
open List renaming mem_cons_of_mem→Yb,mem_cons_self→Yc,length_append→Ye,length_cons→Yg,length_map→Yh,map_cons→Yi,length_singleton→Yj,cons_append→Yk,map_nil→Yn,length_nil→Yp
open Nat renaming le_refl→Yd
namespace Go.Proofs.YtobelgghegmhhaaGreatDoor
open Go Go.Am
set_option maxRecDepth 4000
theorem tyAcc{A0 h0 h:List Nat}{s0 s:St}{x y:Slot}{A B:List Ty}(a:AccH Q2 s0.toks.length h s x (A.map Ty.enc))(M:Moves A0 h0 h s0 s)(hh:∀ k ∈ h,k<s.toks.length)(hy:y.list? = some (B.map Ty.enc))(b:A.length+B.length<2^30) :
  ∃ x' s',appendS Q2 (C.ti Q2) s x y=some (x',s')/\AccH Q2 s0.toks.length h s' x' ((A++B).map Ty.enc)/\Moves A0 h0 h s0 s'/\s'.locs=s.locs/\(∀ k ∈ h,s'.toks[k]? = s.toks[k]?)/\(∀ k ∈ h,k<s'.toks.length):=
 AccH.appendF a M hh hy (λa=>by rw[ZM];exact Ty.cells_len a) (by rw[ZM];decide) b (by rw[Q8d];decide)
def OwnOK(t:Ty):Prop:=∀ s,Ret (cw (.f Q2I) [t.enc] s) s (ownTy t).enc
theorem Q7v(t:Ty)(hl:t.args.length<2^28)(s0:St)(z:List Slot)(hz:z.length=4):∀ (suf pre A:List Ty) (x:Slot) (s:St) (i:Nat),AccH Q2 s0.toks.length [] s x (A.map Ty.enc)->Moves [] [] [] s0 s->pre++suf=t.args->i=pre.length->A.length=pre.length->(∀ t ∈ suf,OwnOK t)->
  Ret (Q38 z [.val (.int .i64 t.kind),.val (.int .i64 t.n),.val (.str t.name),x] (.val (encS t.nl (t.args.map Ty.enc))) (.val (.int .i64 t.args.length)) (.val (.int .i64 i)) s) s0 (Ty.mk t.kind t.n t.name (A++ownTys suf) true).enc
 |[],pre,A,x,s,i,hA,hM,h,hi,hn,H=>by
   subst hi
   rw[Q6M];simp only[go_sem,Nat.reduceAdd,Nat.reduceLeDiff,Ql (by simpa using h),ZY hA.av,ownTys,hz]
   exact⟨_,by simp only[Ty.enc];rw[Ty.cells_mk],hM.toGrew⟩
 |u::suf,pre,A,x,s,i,hA,hM,h,hi,hn,H=>by
   subst hi
   obtain⟨f1,f2,f3⟩:=Qh (x:=.val (encS t.nl (t.args.map Ty.enc))) (Qe _ _) h (by omega) (Ty.cells_len u) (by decide)
   obtain⟨s1,e1,g1⟩:=H u Yc s
   have hlen:pre.length<t.args.length:=by rw[<-h];simp
   have hM1:=hM.trans (.grew [] [] g1)
   obtain⟨x1,s2,e2,a2,m2,-,-,-⟩:=tyAcc (A0:=[]) (h0:=[]) (h:=[]) (s0:=s0) (B:=[ownTy u]) (y:=.full [(ownTy u).enc]) (hA.move (.grew [] [] g1)) hM1 (by simp) rfl (by simp only[Yj];omega)
   have ih:=Q7v t hl s0 z hz suf (pre++[u]) (A++[ownTy u]) x1 s2 (pre.length+1) a2 m2 (by simpa using h) (by simp) (by simp[hn]) (λw hw=>H w (Yb _ hw))
   have c1:=a2.cellOk
   rw[Q6M];simp only[go_sem,Nat.reduceAdd,Nat.reduceLeDiff,f1,f2,f3,e1,e2,c1,ownTys] at ih |-
   exact ih
theorem Q4F:∀ (k:Nat) (t:Ty),t.size<=k->WideTy t->OwnOK t
 |0,.mk _ _ _ _ _,h,_=>by simp only[Ty.size] at h;omega
 |k+1,.mk kd n nm l nl,h,h'=>λs=>by
   simp only[Ty.size] at h
   have hl:=h'.len
   have e1:=Q7v (.mk kd n nm l nl) (by simp only[Ty.args];omega) s [.val (.int .i64 0),.val (.int .i64 0),.val (.str []),.val .nils] rfl l [] [] (.val .nils) s 0 (.nil _ _ _ _) (.refl _ _ _) rfl rfl rfl (λt ht=>by
    have:=Ty.mem_sizes ht
    exact Q4F k t (by omega) (h'.arg ht))
   rw[show ((0:Nat):Int)=0 from rfl] at e1
   rw[Qgg]
   simp only[go_sem,Nat.reduceAdd,Nat.reduceLeDiff,Ty.enc,Ty.kind,Ty.n,Ty.name,Ty.args,Ty.nl,ownTy] at e1 |-
   exact e1
theorem Q98(nm:Str)(l:List Ty)(y:Slot)(hy:y.list? = some (l.map Ty.enc))(hl:l.length<2^28)(s0:St)(z:List Slot)(hz:z.length=4):∀ (suf pre A:List Ty) (x:Slot) (s:St) (i:Nat),AccH Q2 s0.toks.length [] s x (A.map Ty.enc)->Moves [] [] [] s0 s->pre++suf=l->i=pre.length->A.length=pre.length->(∀ t ∈ suf,OwnOK t)->
  Ret (Q3Z z [.val (.int .i64 2),.val (.int .i64 0),.val (.str nm),x] y (.val (.int .i64 l.length)) (.val (.int .i64 i)) s) s0 (Ty.mk 2 0 nm (A++suf.map ownTy) true).enc
 |[],pre,A,x,s,i,hA,hM,h,hi,hn,H=>by
   subst hi
   rw[Q7t];simp only[go_sem,Nat.reduceAdd,Nat.reduceLeDiff,Ql (by simpa using h),ZY hA.av,hz]
   exact⟨_,by simp only[Ty.enc];rw[Ty.cells_mk],hM.toGrew⟩
 |u::suf,pre,A,x,s,i,hA,hM,h,hi,hn,H=>by
   subst hi
   obtain⟨f1,f2,f3⟩:=Qh hy h (by omega) (Ty.cells_len u) (by decide)
   obtain⟨s1,e1,g1⟩:=H u Yc s
   have hlen:pre.length<l.length:=by rw[<-h];simp
   have hM1:=hM.trans (.grew [] [] g1)
   obtain⟨x1,s2,e2,a2,m2,-,-,-⟩:=tyAcc (A0:=[]) (h0:=[]) (h:=[]) (s0:=s0) (B:=[ownTy u]) (y:=.full [(ownTy u).enc]) (hA.move (.grew [] [] g1)) hM1 (by simp) rfl (by simp only[Yj];omega)
   have ih:=Q98 nm l y hy hl s0 z hz suf (pre++[u]) (A++[ownTy u]) x1 s2 (pre.length+1) a2 m2 (by simpa using h) (by simp) (by simp[hn]) (λw hw=>H w (Yb _ hw))
   have c1:=a2.cellOk
   rw[Q7t];simp only[go_sem,Nat.reduceAdd,Nat.reduceLeDiff,f1,f2,f3,e1,e2,c1] at ih |-
   exact ih
theorem QeU(nm:Str)(l:List Ty)(v:AV)(hv:(Slot.val v).list? = some (l.map Ty.enc))(hl:l.length<2^28)(hw:∀ t ∈ l,WideTy t)(s:St):Ret (cw (.f Q6P) [.str nm,v] s) s (ofTy nm l).enc:=by
 have e1:=Q98 nm l (.val v) hv (by omega) s [.val (.int .i64 0),.val (.int .i64 0),.val (.str []),.val .nils] rfl l [] [] (.val .nils) s 0 (.nil _ _ _ _) (.refl _ _ _) rfl rfl rfl (λt ht=>Q4F _ t (Yd _) (hw t ht))
 rw[show ((0:Nat):Int)=0 from rfl] at e1
 rw[Qhy]
 simp only[go_sem,Nat.reduceAdd,Nat.reduceLeDiff,Ty.enc,hv,ofTy,Yh] at e1 |-
 exact e1
section
variable {σ:Type} (to:Int->σ->Ty × σ) (g:Nat) (caps:List AV) (A:List Nat) (R:σ->List Nat->St->Prop) (P:σ->Prop)
structure ToOK:Prop where
 call:∀ n st h s,R st h s->P (to n st).2->∃ s' h',cw (.f g) (.int .i64 n::caps) s=some (.ret (.val (to n st).1.enc),s')/\R (to n st).2 h' s'/\Moves A h h' s s'
 held:∀ st h s,R st h s->∀ k ∈ h,k<s.toks.length
 stab:∀ st h s s',R st h s->s'.locs=s.locs->(∀ k ∈ h,s'.toks[k]? = s.toks[k]?)->R st h s'
 mono:∀ n st,P (to n st).2->P st
variable {to g caps A R P}
mutual
theorem Qfj(H:ToOK to g caps A R P):∀ (t:Ty) (st:σ),P (chTy to t st).2->P st
 |.mk k n s l b,st,h=>by
   simp only[chTy] at h
   cases hk:decide (k=1) with
   |true=>rw[hk] at h;exact H.mono n st h
   |false=>rw[hk] at h;exact Q3z H l st h
theorem Q3z(H:ToOK to g caps A R P):∀ (l:List Ty) (st:σ),P (chTys to l st).2->P st
 |[],st,h=>h
 |t::l,st,h=>by
   simp only[chTys] at h
   exact Qfj H t st (Q3z H l _ h)
end
def ChOK(to:Int->σ->Ty × σ)(g:Nat)(caps:List AV)(A:List Nat)(R:σ->List Nat->St->Prop)(P:σ->Prop)(t:Ty):Prop:=
 ∀ st h s,R st h s->P (chTy to t st).2->∃ s' h',cw (.f Q11) [t.enc,.fn g caps] s=some (.ret (.val (chTy to t st).1.enc),s')/\R (chTy to t st).2 h' s'/\Moves A h h' s s'
theorem Q54(H:ToOK to g caps A R P)(t:Ty)(hl:t.args.length<2^28)(s0:St)(h0:List Nat)(z:List Slot)(hz:z.length=4):∀ (suf pre B:List Ty) (x:Slot) (st:σ) (h:List Nat) (s:St) (i:Nat),AccH Q2 s0.toks.length h s x (B.map Ty.enc)->Moves A h0 h s0 s->R st h s->P (chTys to suf st).2->pre++suf=t.args->i=pre.length->B.length=pre.length->(∀ t ∈ suf,ChOK to g caps A R P t)->
  ∃ s' h',Q1r (.val (.fn g caps)) z [.val (.int .i64 t.kind),.val (.int .i64 t.n),.val (.str t.name),x] (.val (encS t.nl (t.args.map Ty.enc))) (.val (.int .i64 t.args.length)) (.val (.int .i64 i)) s=some (.ret (.val (Ty.mk t.kind t.n t.name (B++(chTys to suf st).1) true).enc),s')/\R (chTys to suf st).2 h' s'/\Moves A h0 h' s0 s'
 |[],pre,B,x,st,h,s,i,hA,hM,hR,hP,hpre,hi,hn,HC=>by
   subst hi
   refine⟨s,h,?_,hR,hM⟩
   rw[Q4q];simp only[go_sem,Nat.reduceAdd,Nat.reduceLeDiff,Ql (by simpa using hpre),ZY hA.av,chTys,hz]
   simp only[Ty.enc];rw[Ty.cells_mk]
 |u::suf,pre,B,x,st,h,s,i,hA,hM,hR,hP,hpre,hi,hn,HC=>by
   subst hi
   obtain⟨f1,f2,f3⟩:=Qh (x:=.val (encS t.nl (t.args.map Ty.enc))) (Qe _ _) hpre (by omega) (Ty.cells_len u) (by decide)
   have hlen:pre.length<t.args.length:=by rw[<-hpre];simp
   simp only[chTys] at hP
   obtain⟨s1,h1,e1,r1,m1⟩:=HC u Yc st h s hR (Q3z H suf _ hP)
   obtain⟨x1,s2,e2,a2,m2,l2,t2,b2⟩:=tyAcc (B:=[(chTy to u st).1]) (y:=.full [(chTy to u st).1.enc]) (hA.move m1) (hM.trans m1) (H.held _ _ _ r1) rfl (by simp only[Yj];omega)
   have r2:=H.stab _ _ _ s2 r1 l2 t2
   obtain⟨s3,h3,e3,r3,m3⟩:=Q54 H t hl s0 h0 z hz suf (pre++[u]) (B++[(chTy to u st).1]) x1 (chTy to u st).2 h1 s2 (pre.length+1) a2 m2 r2 hP (by simpa using hpre) (by simp) (by simp[hn]) (λw hw=>HC w (Yb _ hw))
   refine⟨s3,h3,?_,r3,m3⟩
   have c1:=a2.cellOk
   rw[Q4q];simp only[go_sem,Nat.reduceAdd,Nat.reduceLeDiff,f1,f2,f3,e1,e2,c1,chTys] at e3 |-
   exact e3
theorem Q2R(H:ToOK to g caps A R P):∀ (k:Nat) (t:Ty),t.size<=k->WideTy t->ChOK to g caps A R P t
 |0,.mk _ _ _ _ _,h,_=>by simp only[Ty.size] at h;omega
 |k+1,.mk kd n nm l nl,hs,hs'=>λst h s hR hP=>by
   simp only[Ty.size] at hs
   have hl:=hs'.len
   simp only[chTy] at hP |-
   rw[QcO]
   by_cases hk:kd=1
   ·rw[decide_eq_true hk,cond_true] at hP
    obtain⟨s1,h1,e1,r1,m1⟩:=H.call n st h s hR hP
    refine⟨s1,h1,?_,by rw[decide_eq_true hk];exact r1,m1⟩
    simp only[go_sem,Nat.reduceAdd,Nat.reduceLeDiff,Ty.enc,decide_eq_true hk,e1,cond_true]
   ·rw[decide_eq_false hk,cond_false] at hP
    obtain⟨s1,h1,e1,r1,m1⟩:=Q54 H (.mk kd n nm l nl) (by simp only[Ty.args];omega) s h [.val (.int .i64 0),.val (.int .i64 0),.val (.str []),.val .nils] rfl l [] [] (.val .nils) st h s 0 (.nil _ _ _ _) (.refl _ _ _) hR hP rfl rfl rfl (λt ht=>by
     have:=Ty.mem_sizes ht
     exact Q2R H k t (by omega) (hs'.arg ht))
    refine⟨s1,h1,?_,by rw[decide_eq_false hk];exact r1,m1⟩
    rw[show ((0:Nat):Int)=0 from rfl] at e1
    simp only[go_sem,Nat.reduceAdd,Nat.reduceLeDiff,Ty.enc,Ty.kind,Ty.n,Ty.name,Ty.args,Ty.nl,decide_eq_false hk,cond_false] at e1 |-
    exact e1
end
theorem Qhw(l:List Ty)(v:AV)(hv:(Slot.val v).list? = some (l.map Ty.enc))(hl:l.length<2^40)(hs:∀ t ∈ l,WideTy t):ToOK (toPut l) Q57 [.cp [v]] [] (λ_ h _=>h=[]) (λ_=>True) where
 call n st h s hR _:=by
  subst hR
  have hvl:(ofCells (C.ti Q8) (List.take (C.ti Q8).size [v]))=some v:=by
   simp only[go_sem,Nat.reduceAdd,Nat.reduceLeDiff]
  by_cases hn:0<=n/\n<l.length
  ·obtain⟨m,rfl⟩:=Int.eq_ofNat_of_zero_le hn.1
   have hm:m<l.length:=by omega
   obtain⟨s1,e1,g1⟩:=Q4F _ l[m] (Yd _) (hs _ (List.getElem_mem hm)) s
   refine⟨s1,[],?_,rfl,.grew _ _ g1⟩
   have hix:ixS 4 (.val v) (.val (.int .i64 (m:Int)))=some (.val (.cp l[m].cells)):=Q2M hv (v:=l[m].enc) (by simp[hm]) (Ty.cells_len _) (by decide)
   have hge:decide ((m:Int)≥0)=true:=decide_eq_true (by omega)
   have hlt:decide ((m:Int)<(l.length:Int))=true:=decide_eq_true (by omega)
   rw[Q7u]
   simp only[go_sem,Nat.reduceAdd,Nat.reduceLeDiff,hge,hv,Yh,hlt,hix,Ty.enc] at e1 |-
   simp only[go_sem,Nat.reduceAdd,Nat.reduceLeDiff,e1,toPut,hn,and_self,if_true]
   simp[hm]
  ·refine⟨s,[],?_,rfl,.refl _ _ _⟩
   rw[Q7u]
   simp only[toPut,if_neg hn]
   by_cases h0:n≥0
   ·have hlt:decide (n<(l.length:Int))=false:=decide_eq_false (by omega)
    simp only[go_sem,Nat.reduceAdd,Nat.reduceLeDiff,decide_eq_true h0,hv,hlt,Ty.enc,tvar]
   ·simp only[go_sem,Nat.reduceAdd,Nat.reduceLeDiff,decide_eq_false h0,Ty.enc,tvar]
 held:=by rintro _ _ _ rfl k hk;cases hk
 stab:=by rintro _ _ _ _ rfl _ _;rfl
 mono:=λ_ _ _=>trivial
theorem Qdx(t:Ty)(l:List Ty)(nl:Bool)(s:St)(ht:WideTy t)(hl:l.length<2^40)(hs:∀ t ∈ l,WideTy t):Ret (cw (.f Q7z) [t.enc,encS nl (l.map Ty.enc)] s) s (putTy t l).enc:=by
 obtain⟨s1,h1,e1,r1,m1⟩:=Q2R (Qhw l (encS nl (l.map Ty.enc)) (Qe _ _) hl hs) _ t (Yd _) ht () [] s rfl trivial
 subst r1
 refine⟨s1,?_,m1.toGrew⟩
 rw[Qge]
 simp only[go_sem,Nat.reduceLeDiff,Ty.enc,putTy] at e1 |-
 simp only[go_sem,Nat.reduceAdd,Nat.reduceLeDiff,e1]
theorem Q5o(n m:Int):∀ (l:List Int) (i:Nat),placeI n (l++[m]) i=match placeI n l i with|some j=>some j|none=>if n=m then some (i+l.length) else none
 |[],i=>by simp[placeI]
 |a::l,i=>by
   simp only[Yk,placeI,Q5o n m l (i+1),Yg]
   by_cases h:n=a
   ·simp[h]
   ·simp only[h,if_false]
    rw[show i+1+l.length=i+(l.length+1) by omega]
def ekI(n:Int):AV:=.int .i64 n
def oldV(old:List Int)(n:Int):Option Int:=match placeI n old 0 with|some i=>some (i:Int)|none=>none
structure OldR (ml pl ol:Nat) (old:List Int) (h:List Nat) (s:St):Prop where
 mp:s.locs[pl]? = some (.var [.val (.mp ml)])
 map:∃ es c D,s.locs[ml]? = some (.map es c)/\MapIs ekI ekI (oldV old) es c D
 old:∃ x,s.locs[ol]? = some (.var [x])/\HeldIs Q1 s x (old.map ekI) h
theorem QeS(ml pl ol:Nat)(h1:pl≠ml)(h2:pl≠ol)(h3:ml≠ol):ToOK toCanon Q3M [.vp pl 0,.vp ol 0] [ml,ol] (OldR ml pl ol) (λold=>old.length<2^28) where
 call n old h s hR hP:=by
  obtain⟨hmp,⟨es,c,D,hml,hM⟩,x,hol,hx⟩:=hR
  have hlk:=Q4w hM keyInt (kt:=C.ti Q1) (et:=C.ti Q1) n (Q26 Q1A n) hml (z:=.int .i64 0) (QaN Q8e Q9U Q8f) true
  rw[Qbj]
  unfold oldV at hlk
  simp only[ekI] at hlk
  cases hp:placeI n old 0 with
  |some i=>
    rw[hp] at hlk
    simp only[cond_true] at hlk
    refine⟨s,h,?_,?_,.refl _ _ _⟩
    ·simp only[go_sem,Nat.reduceAdd,Nat.reduceLeDiff,QS hmp,hlk,toCanon,hp,tvar,Ty.enc]
    ·simp only[toCanon,hp];exact⟨hmp,⟨es,c,D,hml,hM⟩,x,hol,hx⟩
  |none=>
    rw[hp] at hlk
    simp only[cond_true] at hlk
    simp only[toCanon,hp,Ye,Yj] at hP
    have hlist:=hx.list?
    obtain⟨es',c',D',eu,hM'⟩:=Q7x hM keyInt (kt:=C.ti Q1) (et:=C.ti Q1) n (Q26 Q1A n) hml (x:=.val (.int .i64 old.length)) (v:=(old.length:Int)) rfl (by rw[Q3x];rfl)
    simp only[ekI] at eu
    simp only[go_sem,Nat.reduceAdd,Nat.reduceLeDiff,QS hmp,hlk,QS hol,hlist,Yh,eu]
    have hol1:({ s with locs:=s.locs.set ml (.map es' c') }:St).locs[ol]? = some (.var [x]):=by
     show (s.locs.set ml _)[ol]? = _
     rw[List.getElem?_set_ne h3];exact hol
    obtain⟨x2,s2,h2',e2,a2,l2,m2⟩:=HeldIs.appendF (f:=ekI) (t:=C.ti Q1) (B:=[n]) (y:=.full [.int .i64 n]) (hx.stab (s':={ s with locs:=s.locs.set ml (.map es' c') }) (λ_ _=>rfl)) rfl (λa=>by rw[Q3x];rfl) (by rw[Q3x];decide) (by simp only[Yj];omega) (by rw[QcX];decide)
    have c2:=a2.cellOk
    have hol2:s2.locs[ol]? = some (.var [x]):=by rw[l2];exact hol1
    have hst:=Q2B (c:=[x2]) hol2 (off:=0) (by simp)
    simp only[go_sem,Nat.reduceAdd] at hst
    simp only[go_sem,Nat.reduceAdd,Nat.reduceLeDiff,QS hol1,e2,c2,hst]
    refine⟨_,h2',⟨by simp only[toCanon,hp,tvar,Ty.enc,Ty.cells_mk];rfl,?_,?_⟩⟩
    ·simp only[toCanon,hp]
     refine⟨?_,⟨es',c',D',?_,?_⟩,x2,Q1L hol2,a2.stab (λ_ _=>rfl)⟩
     ·show (s2.locs.set ol _)[pl]? = _
      rw[List.getElem?_set_ne (Ne.symm h2),l2]
      show (s.locs.set ml _)[pl]? = _
      rw[List.getElem?_set_ne (Ne.symm h1)];exact hmp
     ·show (s2.locs.set ol _)[ml]? = _
      rw[List.getElem?_set_ne (Ne.symm h3),l2]
      exact Q1L hml
     ·have:oldV (old++[n])=upd (oldV old) n (old.length:Int):=by
       funext m
       unfold oldV upd
       rw[Q5o]
       by_cases hm:m=n
       ·subst hm;simp[hp]
       ·simp only[hm,if_false]
        cases placeI m old 0<;>rfl
      rw[this];exact hM'
    ·have m0:Moves [ml,ol] h h s { s with locs:=s.locs.set ml (.map es' c') }:=(Moves.refl _ _ _).setLoc (.inl (by simp)) _
     exact (m0.trans (m2.wider (by simp))).setLoc (.inl (by simp)) _
 held:=by
  rintro old h s ⟨_,_,x,_,hx⟩
  exact hx.held
 stab:=by
  rintro old h s s' ⟨hmp,hm,x,hol,hx⟩ hl ht
  exact⟨by rw[hl];exact hmp,by rw[hl];exact hm,x,by rw[hl];exact hol,hx.stab ht⟩
 mono:=λn old h=>by
  simp only[toCanon] at h
  split at h
  ·exact h
  ·simp only[Ye,Yj] at h;omega
theorem Q79:(∀ (t:Ty) (old:List Int),(chTy toCanon t old).2.length<=old.length+t.size):=by
 have both:∀ k:Nat,(∀ (t:Ty) (old:List Int),t.size<=k->(chTy toCanon t old).2.length<=old.length+t.size):=by
  intro k
  induction k with
  |zero=>rintro⟨_,_,_,_,_⟩ _ h;simp only[Ty.size] at h;omega
  |succ k ih=>
    rintro⟨kd,n,nm,l,nl⟩ old h
    simp only[Ty.size] at h |-
    simp only[chTy]
    cases decide (kd=1) with
    |true=>
      simp only[cond_true,toCanon]
      split
      ·show old.length<=_
       omega
      ·simp only[Ye,Yj];omega
    |false=>
      simp only[cond_false]
      have hl:∀ (l:List Ty) (old:List Int),Ty.sizes l<=k->(chTys toCanon l old).2.length<=old.length+Ty.sizes l:=by
       intro l
       induction l with
       |nil=>intro old _;simp only[chTys,Ty.sizes];omega
       |cons t l ihl=>
         intro old hk
         simp only[Ty.sizes] at hk |-
         simp only[chTys]
         have h1:=ih t old (by omega)
         have h2:=ihl (chTy toCanon t old).2 (by omega)
         omega
      have:=hl l old (by omega)
      omega
 exact λt old=>both _ t old (Yd _)
theorem Qbk(t:Ty)(s:St)(ht:t.size<2^28):Ret (cw (.f Q56) [t.enc] s) s (.tup [(canonTy t).1.enc,encS true ((canonTy t).2.map ekI)]):=by
 have hlen:=Q79 t []
 simp only[Yp] at hlen
 obtain⟨s1,h1,e1,⟨-,-,x,hol,hx⟩,m1⟩:=Q2R (QeS s.locs.length (s.locs.length+1) (s.locs.length+2) (by omega) (by omega) (by omega)) _ t (Yd _) (Q00 t ht) [] [] (((s.addLoc (.map [] 0)).addLoc (.var [.val (.mp s.locs.length)])).addLoc (.var [.val .nils]))
  ⟨by simp[St.addLoc],⟨[],0,[],by simp[St.addLoc],.nil⟩,_,by simp[St.addLoc],.inl ⟨rfl,rfl,rfl⟩⟩ (by show _<_;omega)
 refine⟨s1,?_,Moves.toGrew (Moves.since (A:=[]) (h:=[]) (.grew _ _ ((((Grew.refl s).addLoc _).addLoc _).addLoc _)) m1 (λi hi=>.inr ?_) (by simp))⟩
 ·rw[Qdw]
  have e3:=Qa2 hx.av []
  simp only[go_sem,Nat.reduceLeDiff,Ty.enc,canonTy] at e1 e3 |-
  simp only[go_sem,Nat.reduceAdd,Nat.reduceLeDiff,e1,QS hol,e3]
 ·simp only[List.mem_cons,List.not_mem_nil,or_false] at hi;omega
theorem Q6L(t:Ty)(s:St)(ht:t.size<2^28):Ret (cw (.f Q5Q) [t.enc] s) s (encS true ((canonTy t).2.map ekI)):=by
 obtain⟨s1,e1,g1⟩:=Qbk t s ht
 refine⟨s1,?_,g1⟩
 rw[QeX]
 simp only[go_sem,Nat.reduceLeDiff,Ty.enc] at e1 |-
 simp only[go_sem,Nat.reduceAdd,Nat.reduceLeDiff,e1]
end Go.Proofs.YtobelgghegmhhaaGreatDoor
namespace Go.Am
open Go
theorem HeldIs.congr{e:TypeId}{s s':St}{x:Slot}{l:List AV}{h:List Nat}(a:HeldIs e s x l h)(ht:s'.toks=s.toks):HeldIs e s' x l h:=a.stab λk _=>by rw[ht]
theorem Q5U{e:TypeId}{t:TI}{s s':St}{x y x':Slot}(h:appendS e t s x y=some (x',s'))(hx:∀ l,x≠.full l):(∀ l,x'≠.full l)/\s'.bl=s.bl:=by
 unfold appendS at h
 split at h
 ·split at h
  ·cases h;exact⟨hx,rfl⟩
  ·cases h
 ·cases ho:okSz t.size _ with
  |false=>rw[ho] at h;cases h
  |true=>
    rw[ho] at h
    simp only[cond_true] at h
    split at h
    ·rename_i k e' l
     cases hq:okSz t.size l with
     |false=>rw[hq] at h;cases h
     |true=>
       rw[hq] at h
       simp only[cond_true] at h
       split at h
       ·cases h;exact⟨λl hl=>(by cases hl),rfl⟩
       ·cases h
    ·exact absurd rfl (hx _)
    ·split at h
     ·cases h;exact⟨λl hl=>(by cases hl),rfl⟩
     ·cases h
    ·cases h
 ·cases h
end Go.Am
namespace Go.Proofs.YtobelgghegmhhaaGreatDoor
open Go Go.Am
set_option maxRecDepth 4000
theorem Q1Z{f:Nat}{g:List AV->St->Option (Slot × St)}(e:C.ext f=some g){l:List AV}{s s':St}{v:Slot}(h:g l s=some (v,s')):cw (.f f) l s=some (.ret v,s'):=by
 rw[cw,Q5];unfold callR;rw[e];simp only[h]
theorem Zr(l:List UInt8):(strAV l).length=l.length:=by simp[strAV]
theorem QaC(a b:List UInt8):strAV (a++b)=strAV a++strAV b:=by simp[strAV]
theorem Q4m(l:List UInt8):∀ v ∈ strAV l,v.cells.length=1:=λv hv=>by obtain⟨b,_,rfl⟩:=List.mem_map.1 hv;rfl
theorem Q5A:∀ l:List UInt8,bytesAV (strAV l)=some l
 |[]=>rfl
 |b::r=>by
   have:=Q5A r
   have hb:=b.toNat_lt
   simp only[strAV,Yi,bytesAV] at this |-
   rw[if_pos ⟨by omega,by omega⟩,this]
   simp
structure BldIs (s:St) (loc:Nat) (bs:List UInt8) (h:List Nat):Prop where
 bl:isBld QX s loc=true
 cells:∃ a x,s.locs[loc]? = some (.var [a,x])/\(a = .val .nilp\/a = .val (.vp loc 0))/\HeldIs Qb s x (strAV bs) h/\∀ l,x≠.full l
theorem Q75{s:St}{loc:Nat}{bs:List UInt8}{h:List Nat}(H:BldIs s loc bs h):∃ s' x,cw (.f QW) [.vp loc 0] s=some (.ret (.val (.tup [])),s')/\s'.locs[loc]? = some (.var [.val (.vp loc 0),x])/\HeldIs Qb s' x (strAV bs) h/\(∀ l,x≠.full l)/\Moves [loc] h h s s'/\isBld QX s' loc=true:=by
 obtain⟨hb,a,x,hl,ha,hx,hk⟩:=H
 have e:C.ext QW=some (extCopyCheck QX):=by kernel_rfl
 rcases ha with rfl|rfl
 ·refine⟨{ s with locs:=s.locs.set loc (.var [.val (.vp loc 0),x]) },x,Q1Z e ?_,?_,hx.congr rfl,hk,(Moves.refl _ _ s).setLoc (.inl (by simp)) _,hb⟩
  ·simp only[extCopyCheck,hb,cond_true,hl]
  ·exact List.getElem?_set_self (List.getElem?_eq_some_iff.1 hl).1
 ·refine⟨s,x,Q1Z e ?_,hl,hx,hk,.refl _ _ s,hb⟩
  simp only[extCopyCheck,hb,cond_true,hl,Nat.beq_refl]
theorem Q3j{s:St}{loc:Nat}{bs:List UInt8}{h:List Nat}(H:BldIs s loc bs h)(t:List UInt8)(hl:bs.length+t.length<2^40) :
  ∃ s' h',cw (.f QQ) [.vp loc 0,.str t] s=some (.ret (.val (.tup [.int .i64 t.length,.nili])),s')/\BldIs s' loc (bs++t) h'/\Moves [loc] h h' s s':=by
 obtain⟨s1,x,e1,l1,x1,k1,m1,b1⟩:=Q75 H
 have z1:(C.ti Qb).size=1:=by kernel_rfl
 have z2:(C.ti Qb).bytes=1:=by kernel_rfl
 obtain⟨x',s2,h',e2,x2,l2,m2⟩:=x1.append (m:=strAV t) (y:=.val (.sl (strAV t))) (t:=C.ti Qb) rfl (by rw[z1];exact Q4m bs) (by rw[z1];exact Q4m t) (by rw[z1];decide) (by rw[z2,Zr,Zr];omega) (by rw[Zr,Zr];omega)
 rw[<-QaC] at x2
 obtain⟨f1,f2⟩:=Q5U e2 k1
 have l3:s2.locs[loc]? = some (.var [.val (.vp loc 0),x]):=by rw[l2];exact l1
 have e3:appendStr Qb (C.ti Qb) s1 x (.val (.str t))=some (x',s2):=by
  unfold appendStr
  simp only[go_sem]
  rcases x1 with ⟨rfl,_⟩|⟨rfl,_⟩|⟨k,rfl,_⟩
  ·exact e2
  ·exact absurd rfl (k1 _)
  ·exact e2
 have e4:=QS (t:=C.ti QR) (off:=1) l1
 have e5:stV s2 (.val (.vp loc 1)) [x']=some { s2 with locs:=s2.locs.set loc (.var [.val (.vp loc 0),x']) }:=Q2B l3 (by simp)
 have e6:ofSlots (C.ti QR) (List.take (C.ti QR).size (List.drop 1 [Slot.val (.vp loc 0),x]))=some x:=by
  rw[Q4G];rfl
 rw[e6] at e4
 refine⟨{ s2 with locs:=s2.locs.set loc (.var [.val (.vp loc 0),x']) },h',?_,⟨?_,?_⟩,?_⟩
 ·rw[Q2C]
  simp only[go_sem,Nat.reduceAdd,e1,e3,e4,e5,x2.cellOk]
 ·have b2:s2.bl=s1.bl:=f2
  unfold isBld at b1 |-
  rw[b2]
  exact b1
 ·exact⟨_,x',List.getElem?_set_self (List.getElem?_eq_some_iff.1 l3).1,.inr rfl,x2.congr rfl,f1⟩
 ·exact (m1.trans (m2.wider (by simp))).setLoc (.inl (by simp)) _
theorem Q8l{s:St}{loc:Nat}{bs:List UInt8}{h:List Nat}(H:BldIs s loc bs h)(b:UInt8)(hl:bs.length+1<2^40) :
  ∃ s' h',cw (.f Zn) [.vp loc 0,.int .u8 b.toNat] s=some (.ret (.val .nili),s')/\BldIs s' loc (bs++[b]) h'/\Moves [loc] h h' s s':=by
 obtain⟨s1,x,e1,l1,x1,k1,m1,b1⟩:=Q75 H
 have z1:(C.ti Qb).size=1:=by kernel_rfl
 have z2:(C.ti Qb).bytes=1:=by kernel_rfl
 obtain⟨x',s2,h',e2,x2,l2,m2⟩:=x1.append (m:=[.int .u8 b.toNat]) (y:=.full [.int .u8 b.toNat]) (t:=C.ti Qb) rfl (by rw[z1];exact Q4m bs) (by rw[z1];exact Q4m [b]) (by rw[z1];decide) (by rw[z2,Zr];simp;omega) (by rw[Zr];simp;omega)
 have x3:HeldIs Qb s2 x' (strAV (bs++[b])) h':=by rw[QaC];exact x2
 obtain⟨f1,f2⟩:=Q5U e2 k1
 have l3:s2.locs[loc]? = some (.var [.val (.vp loc 0),x]):=by rw[l2];exact l1
 have e4:=QS (t:=C.ti QR) (off:=1) l1
 have e5:stV s2 (.val (.vp loc 1)) [x']=some { s2 with locs:=s2.locs.set loc (.var [.val (.vp loc 0),x']) }:=Q2B l3 (by simp)
 have e6:ofSlots (C.ti QR) (List.take (C.ti QR).size (List.drop 1 [Slot.val (.vp loc 0),x]))=some x:=by
  rw[Q4G];rfl
 rw[e6] at e4
 refine⟨{ s2 with locs:=s2.locs.set loc (.var [.val (.vp loc 0),x']) },h',?_,⟨?_,?_⟩,?_⟩
 ·rw[Q2Q]
  simp only[go_sem,Nat.reduceAdd,e1,e2,e4,e5,x2.cellOk]
 ·have b2:s2.bl=s1.bl:=f2
  unfold isBld at b1 |-
  rw[b2]
  exact b1
 ·exact⟨_,x',List.getElem?_set_self (List.getElem?_eq_some_iff.1 l3).1,.inr rfl,x3.congr rfl,f1⟩
 ·exact (m1.trans (m2.wider (by simp))).setLoc (.inl (by simp)) _
theorem QbI{s:St}{loc:Nat}{bs:List UInt8}{h:List Nat}(H:BldIs s loc bs h) :
  ∃ s',cw (.f ZX) [.vp loc 0] s=some (.ret (.val (.str bs)),s')/\Moves [] h h s s':=by
 obtain⟨hb,a,x,hl,ha,hx,hk⟩:=H
 have e:C.ext ZX=some (extBString Qb):=by kernel_rfl
 rcases hx with ⟨rfl,h1,rfl⟩|⟨rfl,_⟩|⟨k,rfl,rfl,h3,h4⟩
 ·have:bs=[]:=by simpa [strAV] using h1
  subst this
  refine⟨s,Q1Z e ?_,.refl _ _ s⟩
  simp only[extBString,hl]
 ·exact absurd rfl (hk _)
 ·refine⟨{ s with toks:=s.toks.set k (bs.length+1) },Q1Z e ?_,⟨by simp,λj hj hn=>?_,λ_ h=>.inl h,Yd _,λ_ _ _=>rfl⟩⟩
  ·have hne:bs.isEmpty=false:=by cases bs with|nil=>exact absurd rfl h4|cons b r=>rfl
   rw[Zr] at h3
   simp only[extBString,hl,Q5A,hne,Nat.beq_refl,Bool.not_true,Bool.or_self,cond_false,Zr,h3,if_true]
  ·simp only[List.mem_singleton] at hn
   exact List.getElem?_set_ne (Ne.symm hn)
end Go.Proofs.YtobelgghegmhhaaGreatDoor
namespace Go.Am
open Go
def glueL:List Str:=[[40],[126],[33]]
def glueR:List Str:=[[41],[44],[59]]
def sepB(p:Option Str)(s:Str):Bool:=match p with
 |none=>false
 |some q=>!hasL glueL q && !hasL glueR s
def textGo:Option Str->List Str->Str
 |_,[]=>[]
 |p,s::r=>(bif sepB p s then 32::s else s)++textGo (some s) r
def textB(l:List Str):Str:=textGo none l
def tokSum(l:List Str):Nat:=(l.map λs=>s.length+1).sum
theorem Q4C(s:Str)(l:List Str):tokSum (s::l)=s.length+1+tokSum l:=by simp[tokSum]
theorem Q91:∀ l:List Str,l.length<=tokSum l
 |[]=>by simp
 |s::l=>by have:=Q91 l;rw[Q4C,Yg];omega
def joinT(sign:Str):List (List Str)->Bool->List Str
 |[],_=>[]
 |l::r,fst=>(bif fst then l else sign::l)++joinT sign r false
theorem Q2X(sign:Str):∀ (L:List (List Str)) (f:Bool),(joinT sign L f).length<=(L.map (·.length)).sum+L.length
 |[],_=>by simp[joinT]
 |l::r,f=>by
   have:=Q2X sign r false
   cases f<;>simp[joinT]<;>omega
def letT(n:Int):Str:=UInt8.ofNat (97+n % 26).toNat::(bif decide (n>25) then Go.Lib.itoa (n / 26) else [])
def parT(b:Bool)(l:List Str):List Str:=bif b then [40]::(l++[[41]]) else l
mutual
def typT:Ty->Int->List Str
 |.mk k n nm ags _,lv=>
   bif decide (k=1) then [39::letT n]
   else bif decide (nm=[45,62]) then parT (decide (0<lv)) ((typTs ags 1).getD 0 []++[[45,62]]++(typTs ags 0).getD 1 [])
   else bif decide (nm=[42]) then parT (decide (1<lv)) (joinT [42] (typTs ags 2) true)
   else bif decide (ags.length=0) then [nm]
   else bif decide (ags.length=1) then (typTs ags 2).getD 0 []++[nm]
   else [40]::(joinT [44] (typTs ags 0) true++[[41]])++[nm]
def typTs:List Ty->Int->List (List Str)
 |[],_=>[]
 |t::l,lv=>typT t lv::typTs l lv
end
theorem Q40:∀ (l:List Ty) (lv:Int),typTs l lv=l.map λt=>typT t lv
 |[],_=>rfl
 |t::l,lv=>by simp only[typTs,Yi,Q40 l lv]
theorem Qcr(b:Bool)(l:List Str):(parT b l).length<=l.length+2:=by cases b<;>simp[parT]
theorem QbY:∀ (L:List (List Str)) (i:Nat),(L.getD i []).length<=(L.map (·.length)).sum
 |[],i=>by simp
 |l::L,0=>by simp
 |l::L,i+1=>by have:=QbY L i;simp at this |-;omega
mutual
theorem Q1s:∀ (t:Ty) (lv:Int),(typT t lv).length+1<=6*t.size
 |.mk k n nm ags b,lv=>by
   have h0:=Q28 ags 0
   have h1:=Q28 ags 1
   have h2:=Q28 ags 2
   simp only[typT,Ty.size]
   cases decide (k=1) with
   |true=>simp;omega
   |false=>
     cases decide (nm=[45,62]) with
     |true=>
       have g:=Qgh ags
       have:=Qcr (decide (0<lv)) ((typTs ags 1).getD 0 []++[[45,62]]++(typTs ags 0).getD 1 [])
       simp only[Ye,Yj,cond_true,cond_false] at this |-
       omega
     |false=>
       cases decide (nm=[42]) with
       |true=>
         have:=Qcr (decide (1<lv)) (joinT [42] (typTs ags 2) true)
         have:=Q2X [42] (typTs ags 2) true
         simp only[cond_true,cond_false]
         omega
       |false=>
         cases decide (ags.length=0) with
         |true=>simp;omega
         |false=>
           cases decide (ags.length=1) with
           |true=>
             have:=QbY (typTs ags 2) 0
             simp only[Ye,Yj,cond_true,cond_false]
             omega
           |false=>
             have:=Q2X [44] (typTs ags 0) true
             simp only[Ye,Yg,Yp,cond_true,cond_false]
             omega
theorem Q28:∀ (l:List Ty) (lv:Int),((typTs l lv).map (·.length)).sum+(typTs l lv).length<=6*Ty.sizes l
 |[],lv=>by simp[typTs,Ty.sizes]
 |t::l,lv=>by
   have h1:=Q1s t lv
   have h2:=Q28 l lv
   simp only[typTs,Yi,List.sum_cons,Yg,Ty.sizes]
   omega
theorem Qgh:∀ (l:List Ty),((typTs l 1).getD 0 []).length+((typTs l 0).getD 1 []).length<=6*Ty.sizes l
 |[]=>by simp[typTs]
 |[t]=>by have:=Q1s t 1;simp[typTs,Ty.sizes];omega
 |t::u::l=>by have:=Q1s t 1;have:=Q1s u 0;simp[typTs,Ty.sizes];omega
end
def tokB(nm:Str):Bool:=decide ((lxScan nm).2.1=0)&&(decide ((lxScan nm).1.length=1)&&(decide (((lxScan nm).1.headD default).kind=2)&&decide (((lxScan nm).1.headD default).text=nm)))
def tellN(nm:Str)(len:Nat):Bool:=
 bif decide (nm=[105,110,116]) || (decide (nm=[98,111,111,108]) || (decide (nm=[117,110,105,116]) || decide (nm=[101,120,110]))) then decide (len=0)
 else bif decide (nm=[114,101,102]) then decide (len=1)
 else bif decide (nm=[45,62]) then decide (len=2)
 else bif decide (nm=[42]) then decide (2<=len)&&decide (len<=8)
 else tokB nm&&decide (len<=8)
def tellB(t:Ty):Bool:=
 bif decide (t.kind=1) then decide (0<=t.n)&&(decide (t.n<=1000)&&(decide (t.name=[])&&decide (t.args.length=0)))
 else bif !decide (t.kind=2) || !decide (t.n=0) then false else tellN t.name t.args.length
def toldB(t:Ty):Bool:=decide (t.size<=256)&&allTy tellB t
def typeT(t:Ty):Str:=bif toldB t then textB (typT t 0) else []
end Go.Am
namespace Go.Proofs.YtobelgghegmhhaaGreatDoor
open Go Go.Am
set_option maxRecDepth 4000
theorem QgW{L pre suf:List Str}{q s:Str}{x:Slot}(hx:x.list? = some (L.map AV.str))(h:(pre++[q])++s::suf=L):ixS 1 x (.val (.int .i64 (pre.length:Int)))=some (.val (.cp [.str q])):=
 Q2M (v:=.str q) hx (by rw[<-h];simp) rfl (by decide)
theorem Q4X(L:List Str)(v:AV)(hv:(Slot.val v).list? = some (L.map AV.str))(hL:L.length<2^40)(loc:Nat)(s0:St)(hloc:s0.locs.length<=loc):∀ (suf pre:List Str) (bs:Str) (h:List Nat) (s:St) (i:Nat),BldIs s loc bs h->Moves [] [] [] s0 s->(∀ k ∈ h,s0.toks.length<=k)->pre++suf=L->i=pre.length->bs.length+tokSum suf<2^40->
  Ret (Z3 (.val v) (.val (.vp loc 0)) (.val v) (.val (.int .i64 L.length)) (.val (.int .i64 i)) s) s0 (.str (bs++textGo pre.getLast? suf))
 |[],pre,bs,h,s,i,H,m,hk,hp,hi,hb=>by
   subst hi
   obtain⟨s',e1,m1⟩:=QbI H
   rw[Q4l];simp only[go_sem,Nat.reduceAdd,Ql (by simpa using hp),e1,textGo,List.append_nil]
   exact⟨s',rfl,(m.since m1 (by simp) (λk h'=>.inr (hk k h'))).toGrew⟩
 |t::suf,pre,bs,h,s,i,H,m,hk,hp,hi,hb=>by
   subst hi
   rw[Q4C] at hb
   obtain⟨f1,f2,f3⟩:=Qh (f:=AV.str) (sz:=1) hv hp (by omega) rfl (by decide)
   have hnew:∀ {h':List Nat} {s':St},Moves [loc] h h' s s'->Moves [] [] [] s0 s'/\∀ k ∈ h',s0.toks.length<=k:=λ{h' s'} c=>
    ⟨m.since c (λi hi=>by simp only[List.mem_singleton] at hi;subst hi;exact .inr hloc) (λk h'=>.inr (hk k h')),λk hk'=>(c.new k hk').elim (hk k) (λh=>Nat.le_trans m.tl h)⟩
   have c1:∀ x s,cw (.f Qf) [.sl [.str [40],.str [126],.str [33]],.str x] s=some (.ret (.val (.bool (hasL glueL x))),s):=λx s=>Q1X x glueL (by decide) s
   have c2:∀ x s,cw (.f Qf) [.sl [.str [41],.str [44],.str [59]],.str x] s=some (.ret (.val (.bool (hasL glueR x))),s):=λx s=>Q1X x glueR (by decide) s
   have fin:∀ {bs':Str} {h':List Nat} {s':St},BldIs s' loc bs' h'->Moves [loc] h h' s s'->bs'.length+tokSum suf<2^40->Ret (Z3 (.val v) (.val (.vp loc 0)) (.val v) (.val (.int .i64 L.length)) (.val (.int .i64 ((pre.length+1:Nat):Int))) s') s0 (.str (bs'++textGo (some t) suf)):=λ{bs' h' s'} H' c hb'=>by
    have:=Q4X L v hv hL loc s0 hloc suf (pre++[t]) bs' h' s' (pre.length+1) H' (hnew c).1 (hnew c).2 (by simpa using hp) (by simp) hb'
    simpa using this
   obtain⟨s1,h1,e1,H1,m1⟩:=Q3j H t (by omega)
   obtain⟨s2,h2,e2,H2,m2⟩:=Q8l H 32 (by omega)
   obtain⟨s3,h3,e3,H3,m3⟩:=Q3j H2 t (by simp;omega)
   have r1:=fin H1 m1 (by simp;omega)
   have r3:=fin H3 (m2.trans m3) (by simp;omega)
   rw[show ((32:UInt8).toNat:Int)=32 from rfl] at e2
   rw[Q4l]
   rcases List.eq_nil_or_concat pre with rfl|⟨pre',q,rfl⟩
   ·have z:(((([]:List Str).length:Nat)):Int)=0:=rfl
    rw[z] at f1 f2 f3 |-
    have z1:decide ((0:Int)>0)=false:=rfl
    have r2:Ret (Z3 (.val v) (.val (.vp loc 0)) (.val v) (.val (.int .i64 L.length)) (.val (.int .i64 ((([]:List Str).length+1:Nat):Int))) s1) s0 (.str (bs++textGo ([]:List Str).getLast? (t::suf))):=by
     simpa [textGo,sepB] using r1
    simp only[go_sem,Int.reduceAdd,Int.reduceGT,Nat.reduceAdd,Nat.reduceLeDiff,f1,f2,f3,z1,e1,ZR,c1,c2]
    exact r2
   ·have hp1:decide (((pre'.concat q).length:Int)>0)=true:=by simp
    have hp2:IntKind.i64.wrap (((pre'.concat q).length:Int) - 1)=(pre'.length:Int):=by
     rw[<-hp] at hL
     simp only[List.concat_eq_append,Ye,Yj,Yg,Yp] at hL |-
     rw[wrap64 (by omega) (by omega)]
     omega
    have hp3:=QgW (pre:=pre') (q:=q) (s:=t) (suf:=suf) hv (by simpa using hp)
    have hq:(pre'.concat q).getLast? = some q:=by simp
    have g1:hasL glueL q=true\/(hasL glueL q=false/\hasL glueR t=true)->Ret (Z3 (.val v) (.val (.vp loc 0)) (.val v) (.val (.int .i64 L.length)) (.val (.int .i64 (((pre'.concat q).length+1:Nat):Int))) s1) s0 (.str (bs++textGo (pre'.concat q).getLast? (t::suf))):=λh=>by
     rw[hq]
     rcases h with h|⟨h,k⟩
     ·simpa [textGo,sepB,h] using r1
     ·simpa [textGo,sepB,h,k] using r1
    have g2:hasL glueL q=false->hasL glueR t=false->Ret (Z3 (.val v) (.val (.vp loc 0)) (.val v) (.val (.int .i64 L.length)) (.val (.int .i64 (((pre'.concat q).length+1:Nat):Int))) s3) s0 (.str (bs++textGo (pre'.concat q).getLast? (t::suf))):=λh k=>by
     rw[hq]
     simpa [textGo,sepB,h,k] using r3
    cases hA:hasL glueL q with
    |true=>
      have g:=g1 (.inl hA)
      simp only[go_sem,Nat.reduceAdd,Nat.reduceLeDiff,f1,f2,f3,hp1,hp2,hp3,e1,ZR,c1,c2,hA]
      exact g
    |false=>
      cases hB:hasL glueR t with
      |true=>
        have g:=g1 (.inr ⟨hA,hB⟩)
        simp only[go_sem,Nat.reduceAdd,Nat.reduceLeDiff,f1,f2,f3,hp1,hp2,hp3,e1,ZR,c1,c2,hA,hB]
        exact g
      |false=>
        have g:=g2 hA hB
        simp only[go_sem,Nat.reduceAdd,Nat.reduceLeDiff,f1,f2,f3,hp1,hp2,hp3,e1,e2,e3,ZR,c1,c2,hA,hB]
        exact g
theorem Q9N(L:List Str)(v:AV)(hv:(Slot.val v).list? = some (L.map AV.str))(hL:tokSum L<2^40)(s:St):Ret (cw (.f Q2V) [v] s) s (.str (textB L)):=by
 have hlen:=Q91 L
 have H:BldIs (St.addLocT s (.var (List.map .val (C.ti QX).zero)) QX) s.locs.length [] []:=by
  refine⟨by simp[isBld,St.addLocT],.val .nilp,.val .nils,?_,.inl rfl,.inl ⟨rfl,rfl,rfl⟩,λl h=>by cases h⟩
  simp only[St.addLocT,Q9k]
  rw[List.getElem?_append_right (Yd _)]
  simp
 have m:Moves [] [] [] s (St.addLocT s (.var (List.map .val (C.ti QX).zero)) QX):=Moves.grew _ _ ⟨⟨_,rfl⟩,⟨[],by simp[St.addLocT]⟩⟩
 have:=Q4X L v hv (by omega) s.locs.length s (Yd _) L [] [] [] _ 0 H m (by simp) rfl rfl (by simpa using hL)
 rw[QcD]
 simp only[go_sem,hv,Yh]
 exact this
end Go.Proofs.YtobelgghegmhhaaGreatDoor
namespace Go.Am
open Go
def StrsAV(v:AV)(l:List Str):Prop:=(Slot.val v).list? = some (l.map AV.str)
theorem StrsAV.cells{v:AV}{l:List Str}(h:StrsAV v l):v.cells=[v]:=by
 cases v<;>first|rfl|(simp only[StrsAV,Slot.list?] at h;cases h;done)
theorem StrsAV.bsl{v:AV}{l:List Str}(h:StrsAV v l)(r:List Slot):bslS 1 (.val v::r)=(bslS 1 r).map (v :: ·):=by
 cases v<;>first|(simp only[StrsAV,Slot.list?] at h;cases h;done)|(simp only[bslS];cases bslS 1 r<;>rfl)
theorem StrsAV.bslx{x:Slot}{v:AV}{l:List Str}(hx:x.av=some v)(h:StrsAV v l)(r:List Slot):bslS 1 (x::r)=(bslS 1 r).map (v :: ·):=by
 have h1:=h.bsl r
 rw[<-h1]
 have h2:(Slot.val v).av=some v:=rfl
 simp only[bslS,hx,h2]
theorem Q0J(l:List Str):StrsAV (.sl (l.map AV.str)) l:=id rfl
theorem QeQ(nl:Bool)(l:List Str):StrsAV (encS nl (l.map AV.str)) l:=Qe _ _
theorem StrsAV.ld{v:AV}{l:List Str}(h:StrsAV v l){t:TI}(ht:t.isAgg=false)(hz:t.size=1)(s:St):ldV t false s (.val (.cp v.cells))=some (.val v):=by
 rw[h.cells]
 simp only[ldV,ofSlots,hz]
 simp[ht,ofCells]
structure SlotS (x:Slot) (l:List Str):Prop where
 av:∃ v,x.av=some v/\StrsAV v l
 list:x.list? = some (l.map AV.str)
def RetS(r:Res)(s:St)(l:List Str):Prop:=∃ x s',r=some (.ret x,s')/\Grew s s'/\SlotS x l
theorem StrsAV.slot{v:AV}{l:List Str}(h:StrsAV v l):SlotS (.val v) l:=⟨⟨v,rfl,h⟩,h⟩
theorem AccR.strs{e:TypeId}{s0 s:St}{x:Slot}{l:List Str}(h:AccR e s0 s x (l.map AV.str)):∃ v,x.av=some v/\StrsAV v l:=by
 obtain⟨nl,h1⟩:=h.av
 exact⟨_,h1,QeQ nl l⟩
theorem AccR.slot{e:TypeId}{s0 s:St}{x:Slot}{l:List Str}(h:AccR e s0 s x (l.map AV.str)):SlotS x l:=⟨h.strs,h.list?⟩
end Go.Am
namespace Go.Proofs.YtobelgghegmhhaaGreatDoor
open Go Go.Am
set_option maxRecDepth 4000
def sumL(P:List (AV × List Str)):Nat:=(P.map λp=>p.2.length).sum
theorem Qg9(p:AV × List Str)(P:List (AV × List Str)):sumL (p::P)=p.2.length+sumL P:=by simp[sumL]
theorem Q62(P:List (AV × List Str))(hP:∀ p ∈ P,StrsAV p.1 p.2)(hl:P.length<2^40)(v:AV)(hv:(Slot.val v).list? = some (P.map (·.1)))(s0:St):∀ (suf pre:List (AV × List Str)) (acc:List Str) (x:Slot) (s:St) (i:Nat),AccR Q0 s0 s x (acc.map AV.str)->pre++suf=P->i=pre.length->acc.length+sumL suf<2^30->
  RetA (QD x (.val v) (.val (.int .i64 P.length)) (.val (.int .i64 i)) s) Q0 s0 ((acc++(suf.map (·.2)).flatten).map AV.str)
 |[],pre,acc,x,s,i,A,hp,hi,hb=>by
   subst hi
   rw[ZI];simp only[go_sem,Ql (by simpa using hp),Yn,List.flatten_nil,List.append_nil]
   exact RetA.mk A
 |p::suf,pre,acc,x,s,i,A,hp,hi,hb=>by
   subst hi
   rw[Qg9] at hb
   have hpm:p ∈ P:=by rw[<-hp];simp
   have hc:=(hP p hpm).cells
   obtain⟨f1,f2,f3⟩:=Qh (f:=λp:AV × List Str=>p.1) (sz:=1) hv hp (by omega) (by rw[hc];rfl) (by decide)
   have e1:ldV (C.ti Qu) false s (.val (.cp p.1.cells))=some (.val p.1):=(hP p hpm).ld (by kernel_rfl) (by kernel_rfl) s
   obtain⟨x',s',e2,A'⟩:=AccR.appendF (t:=C.ti Q0) (B:=p.2) A (hP p hpm) (λ_=>rfl) (by decide) (by omega) (by decide +kernel)
   have ih:=Q62 P hP hl v hv s0 suf (pre++[p]) (acc++p.2) x' s' (pre.length+1) A' (by simpa using hp) (by simp) (by simp only[Ye];omega)
   rw[ZI]
   simp only[go_sem,f1,f2,f3,e1,e2] at ih |-
   simpa using ih
theorem Qfx(n:Nat)(h:n<2^30)(s:St):∃ x s',cw (.f Zh) [.nils,.int .i64 n] s=some (.ret x,s')/\AccR Q0 s s' x (([]:List Str).map AV.str):=by
 have e:C.ext Zh=some (extGrow Q0 (C.ti Q0)):=by kernel_rfl
 by_cases h0:n=0
 ·subst h0
  exact⟨.val .nils,s,Q1Z e (by simp[extGrow]),.nil _ _⟩
 ·refine⟨.own s.toks.length Q0 [],{ s with toks:=s.toks++[0] },Q1Z e ?_,(Grew.refl s).pushTok 0,.inr (.inr ⟨s.toks.length,rfl,Yd _,by simp⟩)⟩
  have z1:(C.ti Q0).size=1:=by kernel_rfl
  have z2:(C.ti Q0).bytes=16:=by kernel_rfl
  simp only[extGrow,z1,z2]
  rw[if_neg (by omega),if_pos ⟨by omega,by omega,by decide,by omega⟩]
theorem Q61(P:List (AV × List Str))(hP:∀ p ∈ P,StrsAV p.1 p.2)(hl:P.length<2^40)(v:AV)(hv:(Slot.val v).list? = some (P.map (·.1)))(s:St):∀ (suf pre:List (AV × List Str)) (n i:Nat),pre++suf=P->i=pre.length->n=sumL pre->sumL P<2^30->
  RetA (QC (.val v) (.val (.int .i64 n)) (.val v) (.val (.int .i64 P.length)) (.val (.int .i64 i)) s) Q0 s (((P.map (·.2)).flatten).map AV.str)
 |[],pre,n,i,hp,hi,hn,hb=>by
   subst hi
   obtain⟨x,s',e1,A⟩:=Qfx n (by rw[hn];rw[List.append_nil] at hp;subst hp;exact hb) s
   have:=Q62 P hP hl v hv s P [] [] x s' 0 A rfl rfl (by simpa using hb)
   rw[ZH];simp only[go_sem,Ql (by simpa using hp),e1,hv,Yh]
   simpa using this
 |p::suf,pre,n,i,hp,hi,hn,hb=>by
   subst hi
   have hpm:p ∈ P:=by rw[<-hp];simp
   have hc:=(hP p hpm).cells
   have hs:sumL (pre++[p])=sumL pre+p.2.length:=by simp[sumL]
   have hs2:sumL pre+p.2.length<=sumL P:=by rw[<-hp];simp[sumL]
   obtain⟨f1,f2,f3⟩:=Qh (f:=λp:AV × List Str=>p.1) (sz:=1) hv hp (by omega) (by rw[hc];rfl) (by decide)
   have e1:ldV (C.ti Qu) false s (.val (.cp p.1.cells))=some (.val p.1):=(hP p hpm).ld (by kernel_rfl) (by kernel_rfl) s
   have e2:(Slot.val p.1).list? = some (p.2.map AV.str):=hP p hpm
   have hw:IntKind.i64.wrap ((n:Int)+(p.2.length:Int))=((n+p.2.length:Nat):Int):=by rw[wrap64 (by omega) (by omega)];rfl
   have hz:decide (((n+p.2.length:Nat):Int)<0)=false:=by simp;omega
   have ih:=Q61 P hP hl v hv s suf (pre++[p]) (n+p.2.length) (pre.length+1) (by simpa using hp) (by simp) (by rw[hs,hn]) hb
   rw[ZH]
   simp only[go_sem,f1,f2,f3,e1,e2,hw,hz,Yh] at ih |-
   exact ih
theorem Q7a(P:List (AV × List Str))(hP:∀ p ∈ P,StrsAV p.1 p.2)(hl:P.length<2^40)(v:AV)(hv:(Slot.val v).list? = some (P.map (·.1)))(hb:sumL P<2^30)(s:St):RetA (cw (.f Q05) [v] s) Q0 s (((P.map (·.2)).flatten).map AV.str):=by
 have:=Q61 P hP hl v hv s P [] 0 0 rfl rfl rfl hb
 rw[show ((0:Nat):Int)=0 from rfl] at this
 rw[Qdp]
 obtain⟨x,s',e1,A⟩:=this
 have e2:cw (.f QG) [v] s=some (.ret x,s'):=by
  rw[Q29]
  simp only[go_sem,hv,Yh]
  exact e1
 simp only[go_sem,e2]
 exact⟨x,s',rfl,A⟩
theorem Qa6{a b c:AV}{la lb lc:List Str}(ha:StrsAV a la)(hb:StrsAV b lb)(hc:StrsAV c lc)(hl:la.length+lb.length+lc.length<2^30)(s:St):RetA (cw (.f Q05) [.sl [a,b,c]] s) Q0 s ((la++lb++lc).map AV.str):=by
 have:=Q7a [(a,la),(b,lb),(c,lc)] (by intro p hp;simp only[List.mem_cons,List.not_mem_nil,or_false] at hp;rcases hp with rfl|rfl|rfl<;>assumption) (by simp) (.sl [a,b,c]) rfl (by simp[sumL];omega) s
 simpa using this
theorem Qa5{a b:AV}{la lb:List Str}(ha:StrsAV a la)(hb:StrsAV b lb)(hl:la.length+lb.length<2^30)(s:St):RetA (cw (.f Q05) [.sl [a,b]] s) Q0 s ((la++lb).map AV.str):=by
 have:=Q7a [(a,la),(b,lb)] (by intro p hp;simp only[List.mem_cons,List.not_mem_nil,or_false] at hp;rcases hp with rfl|rfl<;>assumption) (by simp) (.sl [a,b]) rfl (by simp[sumL];omega) s
 simpa using this
theorem Q6x{a:AV}{l:List Str}(ha:StrsAV a l)(hl:l.length+2<2^30)(s:St):RetA (cw (.f Q45) [a] s) Q0 s (([40]::(l++[[41]])).map AV.str):=by
 obtain⟨x,s',e1,A⟩:=Qa6 (Q0J [[40]]) ha (Q0J [[41]]) (by simp;omega) s
 have c1:=ha.cells
 simp only[Yi,Yn] at e1
 rw[QeM]
 simp only[go_sem,Nat.reduceAdd,ZR,ha.bsl,e1]
 exact⟨x,s',rfl,by simpa using A⟩
def PartOK(of:AV)(L:List (List Str)):Prop:=∃ g caps,of = .fn g caps/\∀ (i:Nat) (l:List Str),L[i]? = some l->∀ s,RetS (cw (.f g) (.int .i64 i::caps) s) s l
theorem Q3O(sign:Str)(g:FuncId)(caps:List AV)(L:List (List Str))(hg:∀ (i:Nat) (l:List Str),L[i]? = some l->∀ s,RetS (cw (.f g) (.int .i64 i::caps) s) s l)(hx:(C.ext g).isSome=false)(hL:L.length<2^40)(s0:St):∀ (suf pre:List (List Str)) (acc:List Str) (x:Slot) (s:St) (i:Nat),AccR Q0 s0 s x (acc.map AV.str)->pre++suf=L->i=pre.length->acc.length+(suf.map (·.length)).sum+suf.length<2^30->
  RetA (Zx (.val (.str sign)) (.val (.fn g caps)) x (.val (.int .i64 L.length)) (.val (.int .i64 i)) s) Q0 s0 ((acc++joinT sign suf pre.isEmpty).map AV.str)
 |[],pre,acc,x,s,i,A,hp,hi,hb=>by
   subst hi
   rw[Q34];simp only[go_sem,Nat.reduceAdd,Ql (by simpa using hp),joinT,List.append_nil]
   exact RetA.mk A
 |l::suf,pre,acc,x,s,i,A,hp,hi,hb=>by
   subst hi
   simp only[Yi,List.sum_cons,Yg] at hb
   have hlt:pre.length<L.length:=by rw[<-hp];simp
   have f1:decide ((pre.length:Int)<(L.length:Int))=true:=by simpa using hlt
   have f3:IntKind.i64.wrap ((pre.length:Int)+1)=((pre.length+1:Nat):Int):=by rw[wrap64 (by omega) (by omega)];rfl
   have hgi:=hg pre.length l (by rw[<-hp];simp)
   rw[Q34]
   cases pre with
   |nil=>
     obtain⟨y,s1,e1,gB,hy⟩:=hgi s
     obtain⟨x',s2,e3,A'⟩:=AccR.appendF (t:=C.ti Q0) (B:=l) (A.move gB) (y:=y) hy.list (λ_=>rfl) (by decide) (by omega) (by decide +kernel)
     have ih:=Q3O sign g caps L hg hx hL s0 suf [l] (acc++l) x' s2 1 A' (by simpa using hp) rfl (by simp only[Ye];omega)
     have f1:decide ((0:Int)<(L.length:Int))=true:=by simpa using hlt
     have f3:IntKind.i64.wrap 1=1:=rfl
     have e1:cw (.f g) (.int .i64 0::caps) s=some (.ret y,s1):=e1
     have i0:((([]:List (List Str)).length:Nat):Int)=0:=rfl
     have i1:((1:Nat):Int)=1:=rfl
     rw[i0]
     rw[i1] at ih
     have z1:decide ((0:Int)>0)=false:=rfl
     simp only[go_sem,Int.reduceAdd,Int.reduceGT,Nat.reduceAdd,f1,f3,z1,e1,e3,hx,joinT,List.isEmpty_nil] at ih |-
     simpa using ih
   |cons q pre'=>
     have z1:decide ((((q::pre').length:Nat):Int)>0)=true:=by simp
     obtain⟨x1,s1,e0,A1⟩:=AccR.appendF (t:=C.ti Q0) (B:=[sign]) (y:=.full [.str sign]) A rfl (λ_=>rfl) (by decide) (by simp only[Yj];omega) (by decide +kernel)
     obtain⟨y,s2,e1,gB,hy⟩:=hgi s1
     obtain⟨x',s3,e3,A'⟩:=AccR.appendF (t:=C.ti Q0) (B:=l) (A1.move gB) (y:=y) hy.list (λ_=>rfl) (by decide) (by simp only[Ye,Yj];omega) (by decide +kernel)
     have ih:=Q3O sign g caps L hg hx hL s0 suf ((q::pre')++[l]) (acc++[sign]++l) x' s3 ((q::pre').length+1) A' (by simpa using hp) (by simp) (by simp only[Ye,Yj];omega)
     generalize (q::pre').length=k at f1 f3 z1 e1 ih |-
     simp only[go_sem,Nat.reduceAdd,f1,f3,z1,e0,e1,e3,hx] at ih |-
     simpa [joinT] using ih
theorem Q5X(sign:Str)(of:AV)(L:List (List Str))(h:PartOK of L)(hx:∀ g caps,of = .fn g caps->(C.ext g).isSome=false)(hb:(L.map (·.length)).sum+L.length<2^30)(s:St):RetA (cw (.f Q0t) [.str sign,.int .i64 L.length,of] s) Q0 s ((joinT sign L true).map AV.str):=by
 obtain⟨g,caps,rfl,hg⟩:=h
 have:=Q3O sign g caps L hg (hx g caps rfl) (by omega) s L [] [] (.val .nils) s 0 (.nil _ _) rfl rfl (by simpa using hb)
 rw[Q8W]
 simp only[go_sem] at this |-
 simpa using this
theorem Qag(n:Int)(h:-9223372036854775808<=n/\n<=9223372036854775807)(s:St):cw (.f Q3v) [.int .i64 n] s=some (.ret (.val (.str (Go.Lib.itoa n))),s):=by
 have e:C.ext Q2G=some (pureX extItoa):=by kernel_rfl
 have e1:cw (.f Q2G) [.int .i64 n] s=some (.ret (.val (.str (Go.Lib.itoa n))),s):=Q1Z e (by simp[pureX,extItoa,h])
 rw[Qdj]
 simp only[go_sem,e1]
theorem QfV(m:Int)(h0:0<=m)(h:m<128):convS (C.ti Q0y) (C.ti Q0) (.val (.int .i32 m))=some (.val (.str [UInt8.ofNat m.toNat])):=by
 have k1:(C.ti Q0y).k = .int .i32:=by kernel_rfl
 have k2:(C.ti Q0).k = .str:=by kernel_rfl
 simp only[convS,convStr,k1,k2,h0,h,and_self,if_true]
theorem QgV(n:Int)(h0:0<=n)(h:n<2^62):(Go.Lib.itoa n).length<2^40:=by
 have:=Go.Lib.itoa_length_le n (by omega) (by omega)
 omega
theorem Q6Q{t:TI}{a b:Str}(h:a.length+b.length<=9223372036854775807):binS t .add (.val (.str a)) (.val (.str b))=some (.val (.str (a++b))):=by
 simp only[binS,Slot.av]
 rw[if_pos h]
theorem Qbn(n:Int)(h0:0<=n)(h:n<2^63)(s:St):cw (.f Q2f) [.int .i64 n] s=some (.ret (.val (.str (39::letT n))),s):=by
 have a1:n.tmod 26=n % 26:=Int.tmod_eq_emod_of_nonneg h0
 have a2:n.tdiv 26=n / 26:=Int.tdiv_eq_ediv_of_nonneg h0
 have b1:IntKind.i64.wrap (97+n % 26)=97+n % 26:=wrap64 (by omega) (by omega)
 have b2:IntKind.i64.wrap (n / 26)=n / 26:=wrap64 (by omega) (by omega)
 have b3:IntKind.i32.wrap (97+n % 26)=97+n % 26:=by simp[IntKind.wrap,IntKind.bits,IntKind.signed];omega
 have e1:=QfV (97+n % 26) (by omega) (by omega)
 have e2:=Qag (n / 26) (by omega) s
 have e3:=QgV (n / 26) (by omega) (by omega)
 have k1:convS (C.ti Q1) (C.ti Q0y) (.val (.int .i64 (97+n % 26)))=some (.val (.int .i32 (97+n % 26))):=by
  have k1:(C.ti Q0y).k = .int .i32:=by kernel_rfl
  have k2:(C.ti Q1).k = .int .i64:=by kernel_rfl
  simp only[convS,k1,k2,b3]
 rw[Q7Z]
 cases hn:decide (n>25) with
 |false=>simp only[go_sem,Int.reduceEq,ne_eq,not_false_eq_true,a1,b1,k1,e1,hn,letT];rfl
 |true=>
   have c1:([39,UInt8.ofNat (97+n % 26).toNat]:Str).length+(Go.Lib.itoa (n / 26)).length<=9223372036854775807:=by simp only[Yg,Yp];omega
   simp only[go_sem,Int.reduceEq,ne_eq,not_false_eq_true,a1,a2,b1,b2,k1,e1,e2,hn,letT]
   rw[Q6Q (by simp)]
   simp only[go_sem]
   rw[Q6Q (by simpa using c1)]
   rfl
open Go Go.Am
set_option maxRecDepth 4000
def shpB(t:Ty):Bool:=bif decide (t.kind=1) then decide (0<=t.n)&&decide (t.n<2^63) else !decide (t.name=[45,62]) || decide (t.args.length=2)
def TypOK(t:Ty):Prop:=∀ (lv:Int) (s:St),RetS (cw (.f ZJ) [t.enc,.int .i64 lv] s) s (typT t lv)
theorem Q5V(T:Ty){i:Nat}{t:Ty}(hi:T.args[i]? = some t):ixS 4 (.val (encS T.nl (T.args.map Ty.enc))) (.val (.int .i64 (i:Int)))=some (.val (.cp t.enc.cells)):=
 Q2M (Qe _ _) (show (T.args.map Ty.enc)[i]? = some t.enc by simp[hi]) (Ty.cells_len t) (by decide)
theorem QeZ(T:Ty)(H:∀ t ∈ T.args,TypOK t)(i:Nat)(t:Ty)(hi:T.args[i]? = some t)(s:St):RetS (cw (.f Q1g) [.int .i64 i,.cp T.cells] s) s (typT t 2):=by
 obtain⟨x,s',e2,A⟩:=H t (List.mem_of_getElem? hi) 2 s
 rw[Qb9]
 simp only[go_sem,Nat.reduceAdd,Nat.reduceLeDiff,Ty.cells_eq T,Q5V T hi,e2]
 exact⟨x,s',rfl,A⟩
theorem Qf0(T:Ty)(H:∀ t ∈ T.args,TypOK t)(i:Nat)(t:Ty)(hi:T.args[i]? = some t)(s:St):RetS (cw (.f Q1h) [.int .i64 i,.cp T.cells] s) s (typT t 0):=by
 obtain⟨x,s',e2,A⟩:=H t (List.mem_of_getElem? hi) 0 s
 rw[Qba]
 simp only[go_sem,Nat.reduceAdd,Nat.reduceLeDiff,Ty.cells_eq T,Q5V T hi,e2]
 exact⟨x,s',rfl,A⟩
theorem Ql2(T:Ty)(H:∀ t ∈ T.args,TypOK t):PartOK (.fn Q1g [.cp T.cells]) (typTs T.args 2):=⟨_,_,rfl,λi l hl s=>by
 rw[Q40,List.getElem?_map,Option.map_eq_some_iff] at hl
 obtain⟨t,h1,rfl⟩:=hl
 exact QeZ T H i t h1 s⟩
theorem Ql3(T:Ty)(H:∀ t ∈ T.args,TypOK t):PartOK (.fn Q1h [.cp T.cells]) (typTs T.args 0):=⟨_,_,rfl,λi l hl s=>by
 rw[Q40,List.getElem?_map,Option.map_eq_some_iff] at hl
 obtain⟨t,h1,rfl⟩:=hl
 exact Qf0 T H i t h1 s⟩
theorem Q74{p:Ty->Bool}:∀ {l:List Ty},allTys p l=true->∀ u ∈ l,allTy p u=true
 |[],_,u,hu=>by cases hu
 |t::l,h,u,hu=>by
   simp only[allTys,Ya] at h
   rcases List.mem_cons.1 hu with rfl|hu
   ·exact h.1
   ·exact Q74 h.2 u hu
theorem Q7w{s:St}{x:Slot}{l:List Str}(A:SlotS x l)(hl:l.length+2<2^30)(lv lev:Int):RetS (Q1M (.val (.int .i64 lv)) (.val (.int .i64 lev)) x s) s (parT (decide (lev<lv)) l):=by
 rw[Q9P]
 cases hd:decide (lev<lv) with
 |false=>simp only[go_sem,hd,parT];exact⟨x,s,rfl,.refl s,A⟩
 |true=>
   obtain⟨v,hv,hs⟩:=A.av
   obtain⟨y,s',e1,B⟩:=Q6x hs hl s
   simp only[go_sem,hd,ZY hv,e1,parT]
   exact⟨y,s',rfl,B.grew,B.slot⟩
theorem Q5G:∀ (m:Nat) (t:Ty),t.size<=m->t.size<2^26->allTy shpB t=true->TypOK t
 |0,t,h,_,_=>by cases t;simp only[Ty.size] at h;omega
 |m+1,t,h,hb,hs=>by
   intro lv s
   have kids:∀ u ∈ t.args,TypOK u:=λu hu=>by
    obtain⟨k,n,nm,ags,nl⟩:=t
    have:=Ty.mem_sizes hu
    simp only[Ty.size,Ty.args,allTy,Ya] at h hb hs this
    refine Q5G m u (by omega) (by omega) ?_
    exact Q74 hs.2 u hu
   have hsz:Ty.sizes t.args+1=t.size:=by cases t;simp only[Ty.size,Ty.args]
   have hlen:=Ty.len_sizes t.args
   have hsh:shpB t=true:=by cases t;simp only[allTy,Ya] at hs;exact hs.1
   have hT:typT t lv=bif decide (t.kind=1) then [39::letT t.n]
    else bif decide (t.name=[45,62]) then parT (decide (0<lv)) ((typTs t.args 1).getD 0 []++[[45,62]]++(typTs t.args 0).getD 1 [])
    else bif decide (t.name=[42]) then parT (decide (1<lv)) (joinT [42] (typTs t.args 2) true)
    else bif decide (t.args.length=0) then [t.name]
    else bif decide (t.args.length=1) then (typTs t.args 2).getD 0 []++[t.name]
    else [40]::(joinT [44] (typTs t.args 0) true++[[41]])++[t.name]:=by
    cases t
    simp only[typT,Ty.kind,Ty.n,Ty.name,Ty.args]
    rfl
   have c:=Ty.cells_eq t
   have p1:=Ql2 t kids
   have p2:=Ql3 t kids
   rw[c] at p1 p2
   have l0:=Q28 t.args 0
   have l2:=Q28 t.args 2
   have q0:(typTs t.args 0).length=t.args.length:=by rw[Q40,Yh]
   have q2:(typTs t.args 2).length=t.args.length:=by rw[Q40,Yh]
   have x1:∀ g caps,AV.fn Q1g [.cp [.int .i64 t.kind,.int .i64 t.n,.str t.name,encS t.nl (t.args.map Ty.enc)]] = .fn g caps->(C.ext g).isSome=false:=λg caps h=>by cases h;kernel_rfl
   have x2:∀ g caps,AV.fn Q1h [.cp [.int .i64 t.kind,.int .i64 t.n,.str t.name,encS t.nl (t.args.map Ty.enc)]] = .fn g caps->(C.ext g).isSome=false:=λg caps h=>by cases h;kernel_rfl
   rw[hT]
   unfold shpB at hsh
   rw[Qdq]
   cases hk:decide (t.kind=1) with
   |true=>
     rw[hk] at hsh
     simp only[cond_true,Ya,decide_eq_true_eq] at hsh
     have e1:=Qbn t.n hsh.1 hsh.2 s
     simp only[go_sem,Nat.reduceAdd,Nat.reduceLeDiff,c,hk,e1,ZR]
     exact⟨_,s,rfl,.refl s,(Q0J [39::letT t.n]).slot⟩
   |false=>
     rw[hk] at hsh
     simp only[cond_false] at hsh
     cases hn:decide (t.name=[45,62]) with
     |true=>
       rw[hn] at hsh
       obtain⟨a,b,hab⟩:∃ a b,t.args=[a,b]:=by
        simp only[Bool.not_true,Bool.false_or,decide_eq_true_eq] at hsh
        match hq:t.args,hsh with
        |[a,b],_=>exact⟨a,b,rfl⟩
       have f0:=Q5V t (i:=0) (t:=a) (by rw[hab];rfl)
       have f1:=Q5V t (i:=1) (t:=b) (by rw[hab];rfl)
       obtain⟨y1,s1,e1,g1,h1⟩:=kids a (by rw[hab];simp) 1 s
       obtain⟨y2,s2,e2,g2,h2⟩:=kids b (by rw[hab];simp) 0 s1
       obtain⟨v1,av1,hv1⟩:=h1.av
       obtain⟨v2,av2,hv2⟩:=h2.av
       have la:=Q1s a 1
       have lb:=Q1s b 0
       have hz:a.size+b.size+1=t.size:=by rw[<-hsz,hab];simp only[Ty.sizes];omega
       obtain⟨y3,s3,e3,A3⟩:=Qa6 hv1 (Q0J [[45,62]]) hv2 (by simp only[Yj];omega) s2
       obtain⟨y4,s4,e4,g4,h4⟩:=Q7w (s:=s3) A3.slot (by simp only[Ye,Yj];omega) lv 0
       have bs1:bslS 1 [y1,.val (.sl [.str [45,62]]),y2]=some [v1,.sl [.str [45,62]],v2]:=by
        have hm:StrsAV (.sl [.str [45,62]]) [[45,62]]:=Q0J [[45,62]]
        rw[hv1.bslx av1,hm.bsl,hv2.bslx av2];rfl
       rw[show ((0:Nat):Int)=0 from rfl] at f0
       rw[show ((1:Nat):Int)=1 from rfl] at f1
       simp only[Yi,Yn] at e3
       simp only[go_sem,Nat.reduceAdd,Nat.reduceLeDiff,c,hk,hn,f0,f1,e1,e2,ZR,bs1,e3,e4]
       refine⟨y4,s4,rfl,((g1.trans g2).trans A3.grew).trans g4,?_⟩
       rw[hab]
       simpa [typTs] using h4
     |false=>
       cases hm:decide (t.name=[42]) with
       |true=>
         obtain⟨y1,s1,e1,A1⟩:=Q5X [42] _ (typTs t.args 2) p1 x1 (by omega) s
         have hj:=Q2X [42] (typTs t.args 2) true
         obtain⟨y2,s2,e2,g2,h2⟩:=Q7w (s:=s1) A1.slot (by omega) lv 1
         rw[q2] at e1
         simp only[go_sem,Nat.reduceAdd,Nat.reduceLeDiff,c,hk,hn,hm,e1,e2]
         exact⟨y2,s2,rfl,A1.grew.trans g2,h2⟩
       |false=>
         cases h0:decide (t.args.length=0) with
         |true=>
           have h0':decide ((t.args.length:Int)=0)=true:=by simpa using h0
           simp only[go_sem,Nat.reduceAdd,Nat.reduceLeDiff,c,hk,hn,hm,h0',ZR]
           exact⟨_,s,rfl,.refl s,(Q0J [t.name]).slot⟩
         |false=>
           have h0':decide ((t.args.length:Int)=0)=false:=by simpa using h0
           cases h1:decide (t.args.length=1) with
           |true=>
             have h1':decide ((t.args.length:Int)=1)=true:=by simp at h1 |-;omega
             obtain⟨a,ha⟩:∃ a,t.args=[a]:=by
              simp only[decide_eq_true_eq] at h1
              match hq:t.args,h1 with
              |[a],_=>exact⟨a,rfl⟩
             have f0:=Q5V t (i:=0) (t:=a) (by rw[ha];rfl)
             obtain⟨y1,s1,e1,g1,k1⟩:=kids a (by rw[ha];simp) 2 s
             obtain⟨v1,av1,hv1⟩:=k1.av
             have la:=Q1s a 2
             have hz:a.size+1=t.size:=by rw[<-hsz,ha];simp only[Ty.sizes,Nat.add_zero]
             obtain⟨y3,s3,e3,A3⟩:=Qa5 hv1 (Q0J [t.name]) (by simp only[Yj];omega) s1
             have bs1:bslS 1 [y1,.val (.sl [.str t.name])]=some [v1,.sl [.str t.name]]:=by
              rw[hv1.bslx av1];rfl
             rw[show ((0:Nat):Int)=0 from rfl] at f0
             simp only[Yi,Yn] at e3
             simp only[go_sem,Nat.reduceAdd,Nat.reduceLeDiff,c,hk,hn,hm,h0',h1',f0,e1,ZR,bs1,e3]
             refine⟨y3,s3,rfl,g1.trans A3.grew,?_⟩
             have:=A3.slot
             rw[ha]
             simpa [typTs] using this
           |false=>
             have h1':decide ((t.args.length:Int)=1)=false:=by simp at h1 |-;omega
             obtain⟨y1,s1,e1,A1⟩:=Q5X [44] _ (typTs t.args 0) p2 x2 (by omega) s
             obtain⟨v1,av1,hv1⟩:=A1.strs
             have hj:=Q2X [44] (typTs t.args 0) true
             obtain⟨y2,s2,e2,A2⟩:=Q6x hv1 (by omega) s1
             obtain⟨v2,av2,hv2⟩:=A2.strs
             obtain⟨y3,s3,e3,A3⟩:=Qa5 hv2 (Q0J [t.name]) (by simp only[Ye,Yg,Yp];omega) s2
             have bs1:bslS 1 [y2,.val (.sl [.str t.name])]=some [v2,.sl [.str t.name]]:=by
              rw[hv2.bslx av2];rfl
             rw[q0] at e1
             simp only[Yi,Yn] at e3
             simp only[go_sem,Nat.reduceAdd,Nat.reduceLeDiff,c,hk,hn,hm,h0',h1',e1,ZY av1,e2,ZR,bs1,e3]
             exact⟨y3,s3,rfl,(A1.grew.trans A2.grew).trans A3.grew,by simpa using A3.slot⟩
open Go Go.Am
theorem wrapU8{n:Int}(h:0<=n)(g:n<=255):IntKind.u8.wrap n=n:=by
 unfold IntKind.wrap
 simp[IntKind.bits,IntKind.signed]
 omega
theorem QgG(n:Int):convS (C.ti Qb) (C.ti Q1) (.val (.int .u8 n))=some (.val (.int .i64 (IntKind.i64.wrap n))):=by
 simp only[convS,Q1A,Qfe]
theorem Qem{c:UInt8}(h:digC c=true):(48:Int)<=c.toNat/\(c.toNat:Int)<=57:=by
 simp only[digC,digB,Ya,decide_eq_true_eq] at h
 omega
theorem Qdk(L:Str)(td:Bool)(hl:L.length<=10):∀ (suf pre:Str) (n:Int) (s:St) (i:Nat),pre++suf=L->i=pre.length->suf.all digC=true->0<=n->n<10 ^ pre.length->
  Q0W (.val (.str L)) (.val (.bool td)) (.val (.int .i64 n)) (.val (.int .i64 L.length)) (.val (.int .i64 (i:Int))) s =
   some (.ret (.val (.tup [.int .i64 (numV n suf),.bool (decide (numV n suf<1073741824) || decide (numV n suf=1073741824)&&td)])),s):=by
 intro suf
 induction suf with
 |nil=>
   intro pre n s i h hi hd h0 h1
   rw[List.append_nil] at h
   subst h hi
   rw[Q3S,show numV n []=n from rfl]
   simp only[go_sem,Int.lt_irrefl]
 |cons c suf ih=>
   intro pre n s i h hi hd h0 h1
   subst hi
   have hc:L[pre.length]? = some c:=by rw[<-h];simp
   have hlt:pre.length<L.length:=by rw[<-h];simp
   simp only[List.all_cons,Ya] at hd
   obtain⟨b1,b2⟩:=Qem hd.1
   have hp:(10:Int) ^ pre.length<=10 ^ 9:=by exact_mod_cast (Nat.pow_le_pow_right (n:=10) (by decide) (show pre.length<=9 by omega))
   have hp2:(10:Int) ^ (pre.length+1)=10*10 ^ pre.length:=by rw[Int.pow_succ,Int.mul_comm]
   have hb:decide ((pre.length:Int)<(L.length:Int))=true:=by simpa using hlt
   have:=ih (pre++[c]) (10*n+((c.toNat:Int) - 48)) s (pre.length+1) (by simp[h]) (by simp) hd.2 (by omega) (by rw[Ye,Yj,hp2];omega)
   rw[Q3S]
   simp only[go_sem,hb,Q0Q Qi hc]
   rw[wrapU8 (by omega) (by omega),QgG]
   simp only[go_sem,Nat.reduceAdd,Nat.reduceLeDiff]
   rw[wrap64 (n:=10*n) (by omega) (by omega),wrap64 (n:=(c.toNat:Int) - 48) (by omega) (by omega),wrap64 (n:=10*n+_) (by omega) (by omega),wrap64 (n:=(pre.length:Int)+1) (by omega) (by omega)]
   have e:(pre.length:Int)+1=((pre.length+1:Nat):Int):=by omega
   rw[e,this]
   rfl
theorem Q8z(t:Str)(td:Bool)(h0:t≠[])(hd:t.all digC=true)(hl:t.length<2^62)(s:St) :
  cw (.f Q2b) [.str t,.bool td] s=some (.ret (.val (.tup [.int .i64 (numA t td).1,.bool (numA t td).2])),s):=by
 rw[QaS]
 have hz:decide (((t.headD 0).toNat:Int)=48)=decide (t.headD 0=48):=by
  rw[decide_eq_decide]
  constructor
  ·intro h;exact UInt8.toNat_inj.1 (by show _=48;omega)
  ·intro h;rw[h];rfl
 cases h1:decide ((t.length:Int)>1)&&decide (t.headD 0=48) || decide ((t.length:Int)>10)
 ·have hn:numA t td=(numV 0 t,decide (numV 0 t<1073741824) || decide (numV 0 t=1073741824)&&td):=by unfold numA;rw[h1];rfl
  have hlen:t.length<=10:=by
   simp only[Bool.or_eq_false_iff,decide_eq_false_iff_not] at h1;omega
  have:=Qdk t td hlen t [] 0 s 0 rfl rfl hd (by decide) (by simp)
  rw[hn]
  simp only[Int.ofNat_zero] at this
  rw[<-this]
  simp only[Bool.or_eq_false_iff] at h1
  obtain⟨h2,h3⟩:=h1
  cases h4:decide ((t.length:Int)>1)
  ·simp only[go_sem,h4,h3]
  ·simp only[h4,Bool.true_and] at h2
   simp only[go_sem,h4,ZP Qi h0,hz,h2,h3]
 ·have hn:numA t td=(0,false):=by unfold numA;rw[h1];rfl
  rw[hn]
  cases h4:decide ((t.length:Int)>1)
  ·simp only[h4,Bool.false_and,Bool.false_or] at h1
   simp only[go_sem,h4,h1]
  ·simp only[h4,Bool.true_and] at h1
   cases h2:decide (t.headD 0=48)
   ·simp only[h2,Bool.false_or] at h1
    simp only[go_sem,h4,ZP Qi h0,hz,h2,h1]
   ·simp only[go_sem,h4,ZP Qi h0,hz,h2]
theorem Q9x(t:Str)(h0:t≠[])(s:St):cw (.f Q4s) [.str t] s=some (.ret (.val (.int .i64 (namedA t))),s):=by
 rw[Qc7,QdD]
 simp only[go_sem,Q1X t lwords (by decide)]
 unfold namedA
 cases hasL lwords t
 ·simp only[go_sem]
  cases h1:decide (t=[116,114,117,101])
  ·simp only[go_sem]
   cases h2:decide (t=[102,97,108,115,101])
   ·simp only[go_sem,ZP Qi h0]
   ·simp only[go_sem]
  ·simp only[go_sem]
 ·simp only[go_sem]
theorem Qex(s:Str)(n:Nat)(h:n<=s.length)(st:St):cw (.f Qf) [.sl (lsigns.map .str),.str (s.take n)] st=some (.ret (.val (.bool (hasL lsigns (s.take n)))),st):=Q1X _ _ (by decide) _
theorem Qaz(t:Str)(s:St):∀ n:Nat,n<=t.length->n<=2->Q1J (.val (.str t)) (.val (.int .i64 (n:Int))) s =
  some (.ret (.val (.str (bif decide (2<=n)&&hasL lsigns (t.take 2) then t.take 2 else bif decide (1<=n)&&hasL lsigns (t.take 1) then t.take 1 else []))),s)
 |0,_,_=>by rw[Q4O];simp only[go_sem,Nat.reduceLeDiff];try rfl
 |n+1,h,h2=>by
   rw[Q4O,Qds]
   have hb:decide (((n+1:Nat):Int)>0)=true:=by simp
   simp only[go_sem,Nat.reduceLeDiff,hb,Q35 Qi h,Qex t (n+1) h]
   have e:((n+1:Nat):Int) - 1=(n:Int):=by omega
   rw[e,wrap64 (by omega) (by omega),Qaz t s n (by omega) (by omega)]
   rcases Nat.lt_or_ge n 1 with hn|hn
   ·obtain rfl:n=0:=by omega
    simp only[go_sem,Nat.reduceAdd,Nat.reduceLeDiff]
    try (cases hasL lsigns (t.take 1)<;>rfl)
   ·obtain rfl:n=1:=by omega
    simp only[go_sem,Nat.reduceAdd,Nat.reduceLeDiff]
    try (cases hasL lsigns (t.take 2)<;>rfl)
theorem QaV(t:Str)(hl:t.length<2^62)(s:St):cw (.f Q3u) [.str t] s=some (.ret (.val (.str (signA t))),s):=by
 rw[Qdg]
 have hm:min2 (.val (.int .i64 2)) (.val (.int .i64 (t.length:Int)))=some (.val (.int .i64 ((min 2 t.length:Nat):Int))):=by
  simp only[min2]
  congr 4
  split<;>omega
 simp only[go_sem,hm]
 rw[Qaz t s (min 2 t.length) (by omega) (by omega)]
 unfold signA
 have h1:decide (2<=min 2 t.length)=decide (2<=t.length):=by rw[decide_eq_decide];omega
 have h2:decide (1<=min 2 t.length)=decide (1<=t.length):=by rw[decide_eq_decide];omega
 rw[h1,h2]
open Go Go.Am
set_option maxRecDepth 4000
section
variable (t:Str) (hl:t.length<2^60) (s:St)
include hl
theorem QhB:cw (.f Q0j) [.int .i64 0,.fn Q0i [],.cp [.str t]] s=some (.ret (.val (.str (t.takeWhile digC))),s):=
 Q6N Q0i digB Q2N [] t 0 rfl (by simpa using (by omega:t.length<2^62)) s
theorem QhA:cw (.f Q0j) [.int .i64 0,.fn ZL [],.cp [.str t]] s=some (.ret (.val (.str (t.takeWhile amoC))),s):=
 Q6N ZL amoB Q4N [] t 0 rfl (by simpa using (by omega:t.length<2^62)) s
theorem Qgj(h0:t≠[]):cw (.f Q0j) [.int .i64 1,.fn ZL [],.cp [.str t]] s=some (.ret (.val (.str (t.take 1++(t.drop 1).takeWhile amoC))),s):=by
 have h1:(t.take 1).length=1:=by cases t with|nil=>exact absurd rfl h0|cons a r=>rfl
 have:=Q6N ZL amoB Q4N (t.take 1) (t.drop 1) 1 h1.symm (by rw[List.take_append_drop];omega) s
 rw[List.take_append_drop] at this
 exact this
end
theorem Qhv(c:UInt8)(n:Nat)(h:n<256):decide ((c.toNat:Int)=(n:Int))=decide (c=UInt8.ofNat n):=by
 rw[decide_eq_decide]
 constructor
 ·intro h'
  apply UInt8.toNat_inj.1
  simp only[UInt8.toNat_ofNat']
  omega
 ·intro h'
  rw[h']
  simp only[UInt8.toNat_ofNat']
  omega
theorem Qc9(t:Str)(td:Bool)(hl:t.length<2^60)(s:St)(z:List Slot)(hz:z.length=4) :
  Q2t (.val (.cp [.str t])) z s=some (.ret (.val (.tup [(restA t).2.enc,.int .i64 (restA t).1])),s):=by
 rw[QaT]
 have hs:=QaV t (by omega) s
 obtain⟨a,b,c,d,rfl⟩:∃ a b c d,z=[a,b,c,d]:=by
  match z,hz with
  |[a,b,c,d],_=>exact⟨a,b,c,d,rfl⟩
 simp only[go_sem,Nat.reduceAdd,Nat.reduceLeDiff,hs]
 unfold restA
 cases decide (signA t=[])
 ·simp only[go_sem];rfl
 ·simp only[go_sem];rfl
theorem get1{t:Str}(h:1<t.length):t[1]? = some ((t.drop 1).headD 0):=by
 match t,h with
 |a::b::r,_=>rfl
theorem Qca(t:Str)(td:Bool)(h0:t≠[])(hl:t.length<2^60)(s:St) :
  cw (.f Q44) [.str t,.bool td] s=some (.ret (.val (.tup [(oneA t td).2.enc,.int .i64 (oneA t td).1])),s):=by
 rw[QeD]
 have hr:=Qc9 t td hl s [.val (.int .i64 0),.val (.int .i64 0),.val (.str []),.val (.int .i64 0)] rfl
 have hn:digC (t.headD 0)=true->t.takeWhile digC≠[]/\(t.takeWhile digC).all digC=true:=λh=>by
  cases t with
  |nil=>exact absurd rfl h0
  |cons c r=>
    have h:digC c=true:=h
    refine⟨by simp[List.takeWhile_cons,h],?_⟩
    exact List.all_takeWhile
 have hld:(t.takeWhile digC).length<=t.length:=Q1c _ _
 have hla:(t.takeWhile amoC).length<=t.length:=Q1c _ _
 unfold oneA
 simp only[go_sem,Nat.reduceAdd,Nat.reduceLeDiff,ZP Qi h0,Q2N,Q2O,QhB t hl,QhA t hl]
 rw[show digB ((t.headD 0).toNat:Int)=digC (t.headD 0) from rfl,show firB ((t.headD 0).toNat:Int)=firC (t.headD 0) from rfl]
 cases hd:digC (t.headD 0)
 ·simp only[go_sem]
  cases hf:firC (t.headD 0)
  ·simp only[go_sem]
   rw[show decide (((t.headD 0).toNat:Int)=39)=decide (t.headD 0=39) from Qhv _ 39 (by decide)]
   cases h3:decide (t.headD 0=39)
   ·simp only[go_sem,hr]
   ·simp only[go_sem]
    have e1:decide ((t.length:Int)>1)=decide (1<t.length):=by rw[decide_eq_decide];omega
    rw[e1]
    cases h4:decide (1<t.length)
    ·simp only[go_sem,hr]
    ·have h5:=get1 (of_decide_eq_true h4)
     have h6:=Q0Q (t:=C.ti Q0) (et:=C.ti T_0) (n:=1) Qi h5
     simp only[Int.cast_ofNat_Int] at h6
     have h8:(t.take 1++(t.drop 1).takeWhile amoC).length<=t.length:=by
      have:=Q1c amoC (t.drop 1)
      simp only[Ye,List.length_take,List.length_drop] at *
      have:=of_decide_eq_true h4
      omega
     have hu:=Qgj t hl s h0
     generalize t.take 1++(t.drop 1).takeWhile amoC=u at h8 hu |-
     simp only[go_sem,Nat.reduceAdd,Nat.reduceLeDiff,h6,Q2O,hu]
     rw[show firB (((t.drop 1).headD 0).toNat:Int)=firC ((t.drop 1).headD 0) from rfl]
     cases h7:firC ((t.drop 1).headD 0)
     ·simp only[go_sem,hr]
     ·simp only[go_sem]
      rw[wrap64 (by omega) (by omega)]
      unfold tyvA
      cases decide ((u.length:Int) - 1>32)
      ·simp only[go_sem];rfl
      ·simp only[go_sem];rfl
  ·simp only[go_sem]
   have h9:t.takeWhile amoC≠[]:=by
    cases t with
    |nil=>exact absurd rfl h0
    |cons c r=>
      have hf:firC c=true:=hf
      have:amoC c=true:=by unfold amoC amoB;unfold firC at hf;rw[hf];rfl
      simp[List.takeWhile_cons,this]
   cases h3:decide (t.takeWhile amoC=[95])
   ·simp only[go_sem]
    cases h4:decide (((t.takeWhile amoC).length:Int)>32)
    ·simp only[go_sem,Nat.reduceAdd,Nat.reduceLeDiff,Q9x _ h9];rfl
    ·simp only[go_sem];rfl
   ·simp only[go_sem,hr]
 ·obtain⟨h1,h2⟩:=hn hd
  simp only[go_sem,Nat.reduceAdd,Nat.reduceLeDiff,Q8z _ td h1 h2 (by omega)]
  cases (numA (t.takeWhile digC) td).2
  ·simp only[go_sem];rfl
  ·simp only[go_sem];rfl
end Go.Proofs.YtobelgghegmhhaaGreatDoor