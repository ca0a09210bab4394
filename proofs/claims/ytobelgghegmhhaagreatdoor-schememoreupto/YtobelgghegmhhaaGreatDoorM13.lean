/- A part of the proof: SRef10m, SRef10n, PShow2, PShow3, PShow4, SRef07t, SLaw10, RDec10, LSchemeMore. -/
import Derived.Test.YtobelgghegmhhaaGreatDoorM8
import Derived.Test.YtobelgghegmhhaaGreatDoorM9
import Derived.Test.YtobelgghegmhhaaGreatDoorM10
import Derived.Test.YtobelgghegmhhaaGreatDoorM11
import Derived.Test.YtobelgghegmhhaaGreatDoorM12
import Derived.Lib.Bytealg
import Derived.Lib.ItoaMem
import Derived.Lib.ItoaLen
set_option linter.unusedVariables false
set_option linter.unusedSimpArgs false
open Bool renaming and_eq_true→Ya
open List renaming mem_cons_of_mem→Yb,mem_cons_self→Yc,length_append→Ye,length_cons→Yg,length_map→Yh,map_cons→Yi,length_singleton→Yj,cons_append→Yk,mem_append_left→Ym,map_nil→Yn,nil_append→Yo,length_nil→Yp,mem_append_right→Yq,append_assoc→Yr
open Nat renaming le_refl→Yd
namespace Go.Proofs.YtobelgghegmhhaaGreatDoor
open Go Go.Am
set_option maxRecDepth 4000
theorem Holds.set{s:St}{loc:Nat}{l:List AV}(h:Holds s loc l){sz:Nat}(hs:∀ v ∈ l,v.cells.length=sz){i:Nat}(hi:i<l.length){v:AV}(hv:v.cells.length=sz) :
  stV s (.val (.vp loc (i*sz))) (v.cells.map .val)=some { s with locs:=s.locs.set loc (.var ((flatL (l.set i v)).map .val)) }:=by
 obtain⟨a,b,e,k⟩:=Q5d hs (List.getElem?_eq_getElem hi)
 have hw:=hs _ (List.getElem_mem hi)
 have e2:flatL (l.set i v)=a++(v.cells++b):=by
  have h1:l=l.take i++l[i]::l.drop (i+1):=by simp
  have h2:l.set i v=l.take i++v::l.drop (i+1):=by rw[List.set_eq_take_append_cons_drop,if_pos hi]
  have ka:(flatL (l.take i)).length=i*sz:=by
   rw[Q4a (sz:=sz) (λv hv=>hs v (List.mem_of_mem_take hv)),List.length_take,Nat.min_eq_left (by omega)]
  have h3:flatL l=flatL (l.take i)++(l[i].cells++flatL (l.drop (i+1))):=by
   conv=>lhs;rw[h1]
   rw[Q49,Q2r]
  rw[e] at h3
  have h4:=List.append_inj h3 (by rw[k,ka])
  have h5:=List.append_inj h4.2 rfl
  rw[h2,Q49,Q2r,h4.1,h5.2]
 unfold Holds at h
 rw[Q2B h (by simp only[Yh,e,Ye,k,hw,hv];omega),e2,e]
 congr 4
 simp only[List.map_append]
 rw[List.take_left' (by simpa using k),List.drop_append,List.drop_of_length_le (by simp only[Yh,k];omega)]
 simp only[Yh,k,hv]
 rw[Nat.add_sub_cancel_left,Yo,List.drop_left' (by simpa using hw)]
def mCells(a b:Sch)(X Y:AV):List AV:=a.cells++(b.cells++[X,Y])
structure Mem (s0 s:St) (L:Nat) (a b:Sch) (g:Int->Option Ty):Prop where
 grew:Grew s0 s
 base:s0.locs.length<=L
 small:∀ n u,g n=some u->u.size<2^28
 ob:∃ X Y,s.locs[L]? = some (.var ((mCells a b X Y).map .val))/\(0<a.vars->∃ (lI lT:Nat) (is:List Bool) (ty:List Ty),X = .vs lI Qd 1 0 a.vars.toNat/\Y = .vs lT Q2 4 0 a.vars.toNat/\Holds s lI (is.map .bool)/\Holds s lT (ty.map Ty.enc)/\L<lI/\L<lT/\lI≠lT/\is.length=a.vars.toNat/\ty.length=a.vars.toNat/\
  (∀ i:Nat,i<a.vars.toNat->is[i]? = some (g i).isSome)/\∀ (i:Nat) u,g i=some u->i<a.vars.toNat->ty[i]? = some u)
theorem Qh3{s:St}{L:Nat}{a b:Sch}{X Y:AV}(h:s.locs[L]? = some (.var ((mCells a b X Y).map .val))) :
  ldV (C.ti Q1) false s (.val (.vp L 0))=some (.val (.int .i64 a.vars))/\ldV (C.ti Q1) false s (.val (.vp L 5))=some (.val (.int .i64 b.vars)):=by
 have ca:=Ty.cells_eq a.ty
 have cb:=Ty.cells_eq b.ty
 constructor<;>(rw[QS h];simp only[mCells,Sch.cells,ca,cb];simp only[go_sem,Nat.reduceAdd,Nat.reduceLeDiff])
theorem Q9y{s:St}{L:Nat}{a b:Sch}{lI lT n m:Nat}(h:s.locs[L]? = some (.var ((mCells a b (.vs lI Qd 1 0 n) (.vs lT Q2 4 0 m)).map .val))) :
  ldV (C.ti ZA) false s (.val (.vp L 10))=some (.val (.vs lI Qd 1 0 n))/\ldV (C.ti Q8) false s (.val (.vp L 11))=some (.val (.vs lT Q2 4 0 m)):=by
 have ca:=Ty.cells_eq a.ty
 have cb:=Ty.cells_eq b.ty
 constructor<;>(rw[QS h];simp only[mCells,Sch.cells,ca,cb];simp only[go_sem,Nat.reduceAdd,Nat.reduceLeDiff])
def MeetPost(s0:St)(L:Nat)(a b:Sch)(r:Res)(o:Option (Int->Option Ty)):Prop:=
 match o with
 |some g=>∃ s',r=some (.ret (.val (.bool true)),s')/\Mem s0 s' L a b g
 |none=>∃ s',r=some (.ret (.val (.bool false)),s')/\Grew s0 s'
def VarsOK(t:Ty):Prop:=allTy (varB λn=>decide (0<=n)&&decide (n<=9223372036854775807)) t=true
def MeetOK(s0:St)(L:Nat)(a b:Sch)(x:Ty):Prop:=∀ y g s,VarsOK y->y.size<2^28->Mem s0 s L a b g->MeetPost s0 L a b (cw (.f Zg) [.vp L 0,x.enc,y.enc] s) (meetT a.vars b.vars x y g)
theorem Qak(s0:St)(L:Nat)(a b:Sch)(x y:Ty)(hx:x.args.length<2^28)(hl:y.args.length=x.args.length):∀ (suf suf' pre pre':List Ty) (g:Int->Option Ty) (s:St) (i:Nat),pre++suf=x.args->pre'++suf'=y.args->i=pre.length->pre'.length=pre.length->(∀ t ∈ suf,MeetOK s0 L a b t)->(∀ u ∈ suf',VarsOK u/\u.size<2^28)->Mem s0 s L a b g->
  MeetPost s0 L a b (Q0f (.val (.vp L 0)) (x.cells.map .val) (y.cells.map .val) (.val (.int .i64 x.args.length)) (.val (.int .i64 i)) s) (meetTs a.vars b.vars suf suf' g)
 |[],suf',pre,pre',g,s,i,h,h',hi,hp,_,_,hM=>by
   subst hi
   rw[Q33]
   simp only[go_sem,Ql (by simpa using h),meetTs]
   exact⟨s,rfl,hM⟩
 |t::suf,[],pre,pre',g,s,i,h,h',hi,hp,_,_,_=>by
   have h1:=congrArg List.length h
   have h2:=congrArg List.length h'
   simp only[Ye,Yp,Yg] at h1 h2
   omega
 |t::suf,u::suf',pre,pre',g,s,i,h,h',hi,hp,hO,hV,hM=>by
   subst hi
   have cx:=Ty.cells_eq x
   have cy:=Ty.cells_eq y
   obtain⟨f1,f2,f3⟩:=Qh (x:=.val (encS x.nl (x.args.map Ty.enc))) (Qe _ _) h (by omega) (Ty.cells_len t) (by decide)
   obtain⟨-,f5,-⟩:=Qh (x:=.val (encS y.nl (y.args.map Ty.enc))) (Qe _ _) h' (by omega) (Ty.cells_len u) (by decide)
   rw[hp] at f5
   have hu:=hV u Yc
   have e:=hO t Yc u g s hu.1 hu.2 hM
   rw[Q33]
   simp only[meetTs]
   have ct:=Ty.cells_eq t
   have cu:=Ty.cells_eq u
   cases hm:meetT a.vars b.vars t u g with
   |none=>
     rw[hm] at e
     obtain⟨s',e,G⟩:=e
     simp only[Ty.enc,cx,cy,ct,cu] at e f2 f5 |-
     simp only[go_sem,Nat.reduceAdd,Nat.reduceLeDiff,f1,f2,f3,f5,ct,cu,e]
     exact⟨s',rfl,G⟩
   |some g'=>
     rw[hm] at e
     obtain⟨s',e,M'⟩:=e
     have i:=Qak s0 L a b x y hx hl suf suf' (pre++[t]) (pre'++[u]) g' s' (pre.length+1) (by simpa using h) (by simpa using h') (by simp) (by simp[hp]) (λt ht=>hO t (Yb _ ht)) (λu hu=>hV u (Yb _ hu)) M'
     simp only[Ty.enc,cx,cy,ct,cu] at e f2 f5 i |-
     simp only[go_sem,Nat.reduceAdd,Nat.reduceLeDiff,f1,f2,f3,f5,ct,cu,e] at i |-
     exact i
theorem QdV(s0 s:St)(L:Nat)(a b:Sch)(x y:Ty)(hx0:0<=x.n)(hn:x.n<a.vars)(g:Int->Option Ty)(was:Ty)(hg:g x.n=some was)(hM:Mem s0 s L a b g) :
  Q0e (.val (.vp L 0)) (x.cells.map .val) (y.cells.map .val) s=some (.ret (.val (.bool (eqTy was y))),s):=by
 obtain⟨X,Y,ob,hh⟩:=hM.ob
 obtain⟨lI,lT,is,ty,rfl,rfl,hI,hT,l1,l2,l3,l4,l5,l6,l7⟩:=hh (by omega)
 obtain⟨k,hk⟩:∃ k:Nat,x.n=(k:Int):=⟨x.n.toNat,by omega⟩
 have hkn:k<a.vars.toNat:=by omega
 have f1:=(Q9y ob).2
 have f2:ixS 4 (.val (.vs lT Q2 4 0 a.vars.toNat)) (.val (.int .i64 x.n))=some (.val (.vp lT (k*4))):=by
  rw[hk,Q6e hkn (by decide),Nat.zero_add]
 have ht:ty[k]? = some was:=l7 k was (by rw[<-hk];exact hg) hkn
 have f3:=hT.ld (t:=C.ti Q2) (by intro v hv;obtain⟨t,_,rfl⟩:=List.mem_map.1 hv;rw[ZM];exact Ty.cells_len t) (i:=k) (v:=was.enc) (by rw[List.getElem?_map,ht];rfl)
 rw[ZM] at f3
 have e1:=Q4i was y s (by have:=hM.small _ _ hg;omega)
 have cx:=Ty.cells_eq x
 have cy:=Ty.cells_eq y
 have cw':=Ty.cells_eq was
 rw[Q6t]
 simp only[Ty.enc,cx,cy,cw',Q60] at e1 f3 |-
 simp only[go_sem,Nat.reduceAdd,Nat.reduceLeDiff,f1,f2,f3,e1]
theorem Q4j(s0:St)(L:Nat)(a b:Sch)(ha:0<=a.vars/\a.vars<=256)(hb:0<=b.vars/\b.vars<=256):∀ (k:Nat) (x:Ty),x.size<=k->x.size<2^28->VarsOK x->MeetOK s0 L a b x
 |0,x,hk,_,_=>by have:=Ty.size_pos x;omega
 |k+1,x,hk,hs,hv=>by
   intro y g s hvy hsy hM
   have hsz:Ty.sizes x.args+1=x.size:=by cases x;simp only[Ty.size,Ty.args]
   have hal:=Ty.len_sizes x.args
   obtain⟨X,Y,ob,hh⟩:=hM.ob
   obtain⟨v1,v2⟩:=Qh3 ob
   have cx:=Ty.cells_eq x
   have cy:=Ty.cells_eq y
   have hmk:meetT a.vars b.vars x y g =
     bif decide (x.kind=1) then
      (bif decide (x.n<a.vars) then (match g x.n with
        |some was=>bif eqTy was y then some g else none
        |none=>some (upd g x.n y))
      else bif !decide (y.kind=1) || (decide (y.n<b.vars) || !decide (y.n - b.vars=x.n - a.vars)) then none else some g)
     else bif !decide (y.kind=x.kind) || (!decide (y.name=x.name) || !decide (y.args.length=x.args.length)) then none else meetTs a.vars b.vars x.args y.args g:=by
    cases x;exact Qcf ..
   rw[hmk,Q8S]
   clear hmk
   cases hkx:decide (x.kind=1) with
   |true=>
     have hx:=PairOK.var hv hkx
     cases hn:decide (x.n<a.vars) with
     |true=>
       have hn':=of_decide_eq_true hn
       obtain⟨lI,lT,is,ty,rfl,rfl,hI,hT,l1,l2,l3,l4,l5,l6,l7⟩:=hh (by omega)
       obtain⟨m,hm⟩:∃ m:Nat,x.n=(m:Int):=⟨x.n.toNat,by omega⟩
       have hmn:m<a.vars.toNat:=by omega
       obtain⟨q1,q2⟩:=Q9y ob
       have f2:ixS 4 (.val (.vs lT Q2 4 0 a.vars.toNat)) (.val (.int .i64 x.n))=some (.val (.vp lT (m*4))):=by
        rw[hm,Q6e hmn (by decide),Nat.zero_add]
       have f3:ixS 1 (.val (.vs lI Qd 1 0 a.vars.toNat)) (.val (.int .i64 x.n))=some (.val (.vp lI (m*1))):=by
        rw[hm,Q6e hmn (by decide),Nat.zero_add]
       have hi:=l6 m hmn
       rw[<-hm] at hi
       have f4:=hI.ld (t:=C.ti Qd) (by intro v hv;obtain⟨t,_,rfl⟩:=List.mem_map.1 hv;rw[Q14];rfl) (i:=m) (v:=.bool (g x.n).isSome) (by rw[List.getElem?_map,hi];rfl)
       rw[Q14] at f4
       cases hgx:g x.n with
       |some was=>
         have j:=QdV s0 s L a b x y hx.1 hn' g was hgx hM
         rw[hgx] at f4
         simp only[cx,cy,Ty.enc,Q8m] at j f4 |-
         simp only[go_sem,Nat.reduceAdd,Nat.reduceLeDiff,hkx,v1,v2,hn,q1,q2,f2,f3,f4,Option.isSome_some] at j |-
         cases he:eqTy was y with
         |true=>rw[he] at j;exact⟨s,j,hM⟩
         |false=>rw[he] at j;exact⟨s,j,hM.grew⟩
       |none=>
         rw[hgx] at f4
         have g1:=hI.set (sz:=1) (by intro v hv;obtain⟨t,_,rfl⟩:=List.mem_map.1 hv;rfl) (i:=m) (by simpa [l4] using hmn) (v:=.bool true) rfl
         obtain⟨s1,hs1⟩:∃ z:St,z={ s with locs:=s.locs.set lI (.var ((flatL ((is.map AV.bool).set m (.bool true))).map .val)) }:=⟨_,rfl⟩
         rw[<-hs1] at g1
         have hT1:Holds s1 lT (ty.map Ty.enc):=by rw[hs1];exact hT.put (Ne.symm l3) _
         have g2:=hT1.set (sz:=4) (by intro v hv;obtain⟨t,_,rfl⟩:=List.mem_map.1 hv;exact Ty.cells_len t) (i:=m) (by simpa [l5] using hmn) (v:=y.enc) (Ty.cells_len y)
         obtain⟨s2,hs2⟩:∃ z:St,z={ s1 with locs:=s1.locs.set lT (.var ((flatL ((ty.map Ty.enc).set m y.enc)).map .val)) }:=⟨_,rfl⟩
         rw[<-hs2] at g2
         have ob1:=(show s1.locs[L]? = s.locs[L]? from by rw[hs1];exact List.getElem?_set_ne (by omega)).trans ob
         have ob2:=(show s2.locs[L]? = s1.locs[L]? from by rw[hs2];exact List.getElem?_set_ne (by omega)).trans ob1
         have hI2:Holds s2 lI ((is.set m true).map .bool):=by
          rw[List.map_set]
          unfold Holds
          rw[hs2]
          show (s1.locs.set lT _)[lI]? = _
          rw[List.getElem?_set_ne (Ne.symm l3),hs1]
          exact Q1L hI
         have hT2:Holds s2 lT ((ty.set m y).map Ty.enc):=by
          rw[List.map_set]
          unfold Holds
          rw[hs2]
          exact Q1L hT1
         have base:=hM.base
         have hM2:Mem s0 s2 L a b (upd g x.n y):=by
          refine⟨by rw[hs2,hs1];exact Q0G (Q0G hM.grew (by omega) _) (by omega) _,hM.base,λn u h=>?_,_,_,ob2,λ_=>⟨lI,lT,is.set m true,ty.set m y,rfl,rfl,hI2,hT2,l1,l2,l3,by simpa using l4,by simpa using l5,λi hi'=>?_,λi u h hi'=>?_⟩⟩
          ·unfold upd at h
           split at h
           ·cases h;exact hsy
           ·exact hM.small n u h
          ·by_cases him:i=m
           ·subst him;rw[hm,Q41,List.getElem?_set_self (by omega)];rfl
           ·rw[Q9b _ _ (by omega),List.getElem?_set_ne (Ne.symm him)];exact l6 i hi'
          ·by_cases him:i=m
           ·subst him;rw[hm,Q41] at h;cases h;rw[List.getElem?_set_self (by omega)]
           ·rw[Q9b _ _ (by omega)] at h;rw[List.getElem?_set_ne (Ne.symm him)];exact l7 i u h hi'
         have j:=QdV s0 s2 L a b x y hx.1 hn' (upd g x.n y) y (Q41 _ _ _) hM2
         have q3:=(Q9y ob1).2
         refine⟨s2,?_,hM2⟩
         rw[Qaa] at j
         simp only[cx,cy,Ty.enc,Q8m,Q60,Yi,Yn] at j f4 g1 g2 |-
         simp only[go_sem,Nat.reduceAdd,Nat.reduceLeDiff,hkx,v1,v2,hn,q1,q2,f2,f3,f4,Option.isSome_none,g1,q3,g2] at j |-
         exact j
     |false=>
       have hn':=of_decide_eq_false hn
       have w2:IntKind.i64.wrap (x.n - a.vars)=x.n - a.vars:=wrap64 (by omega) (by omega)
       cases hky:decide (y.kind=1) with
       |false=>
         simp only[cx,cy,Ty.enc]
         simp only[go_sem,Nat.reduceAdd,Nat.reduceLeDiff,hkx,v1,v2,hn,hky]
         exact⟨s,rfl,hM.grew⟩
       |true=>
         have hy:0<=y.n/\y.n<=9223372036854775807:=PairOK.var hvy hky
         cases hm:decide (y.n<b.vars) with
         |true=>
           have hm2:decide (y.n≥b.vars)=false:=decide_eq_false (by have:=of_decide_eq_true hm;omega)
           simp only[cx,cy,Ty.enc]
           simp only[go_sem,Nat.reduceAdd,Nat.reduceLeDiff,hkx,v1,v2,hn,hky,hm2]
           exact⟨s,rfl,hM.grew⟩
         |false=>
           have hm':=of_decide_eq_false hm
           have hm2:decide (y.n≥b.vars)=true:=decide_eq_true (by omega)
           have w3:IntKind.i64.wrap (y.n - b.vars)=y.n - b.vars:=wrap64 (by omega) (by omega)
           cases hd:decide (y.n - b.vars=x.n - a.vars) with
           |true=>
             simp only[cx,cy,Ty.enc]
             simp only[go_sem,Nat.reduceAdd,Nat.reduceLeDiff,hkx,v1,v2,hn,hky,hm2,w2,w3,hd]
             exact⟨s,rfl,hM⟩
           |false=>
             simp only[cx,cy,Ty.enc]
             simp only[go_sem,Nat.reduceAdd,Nat.reduceLeDiff,hkx,v1,v2,hn,hky,hm2,w2,w3,hd]
             exact⟨s,rfl,hM.grew⟩
   |false=>
     cases hky:decide (y.kind=x.kind) with
     |false=>
       simp only[cx,cy,Ty.enc]
       simp only[go_sem,Nat.reduceAdd,Nat.reduceLeDiff,hkx,v1,v2,hky]
       exact⟨s,rfl,hM.grew⟩
     |true=>
       cases hnm:decide (y.name=x.name) with
       |false=>
         simp only[cx,cy,Ty.enc]
         simp only[go_sem,Nat.reduceAdd,Nat.reduceLeDiff,hkx,v1,v2,hky,hnm]
         exact⟨s,rfl,hM.grew⟩
       |true=>
         have hil:∀ a b:Nat,decide ((a:Int)=(b:Int))=decide (a=b):=λa b=>by
          by_cases h:a=b
          ·rw[decide_eq_true h,decide_eq_true (by omega)]
          ·rw[decide_eq_false h,decide_eq_false (by omega)]
         have hle:=hil y.args.length x.args.length
         cases hl:decide (y.args.length=x.args.length) with
         |false=>
           rw[hl] at hle
           simp only[cx,cy,Ty.enc]
           simp only[go_sem,Nat.reduceAdd,Nat.reduceLeDiff,hkx,v1,v2,hky,hnm,Qe,Yh,hle]
           exact⟨s,rfl,hM.grew⟩
         |true=>
           rw[hl] at hle
           have hl':=of_decide_eq_true hl
           have hvx:∀ t ∈ x.args,VarsOK t:=by
            cases x;simp only[VarsOK,allTy,Ya] at hv;exact λt ht=>Q08 hv.2 t ht
           have hvy':∀ t ∈ y.args,VarsOK t:=by
            cases y;simp only[VarsOK,allTy,Ya] at hvy;exact λt ht=>Q08 hvy.2 t ht
           have hsy':∀ t ∈ y.args,t.size<2^28:=λt ht=>by
            have:=Ty.mem_sizes ht
            have h1:Ty.sizes y.args+1=y.size:=by cases y;simp only[Ty.size,Ty.args]
            omega
           have i:=Qak s0 L a b x y (by omega) hl' x.args y.args [] [] g s 0 rfl rfl rfl rfl (λt ht=>by
            have:=Ty.mem_sizes ht
            exact Q4j s0 L a b ha hb k t (by omega) (by omega) (hvx t ht)) (λu hu=>⟨hvy' u hu,hsy' u hu⟩) hM
           rw[show ((0:Nat):Int)=0 from rfl] at i
           simp only[cx,cy,Ty.enc] at i |-
           simp only[go_sem,Nat.reduceAdd,Nat.reduceLeDiff,hkx,v1,v2,hky,hnm,Qe,Yh,hle] at i |-
           exact i
open Go Go.Am
set_option maxRecDepth 4000
theorem QcZ{e:TypeId}{t:TI}{s:St}{y:Slot}{l:List AV}(hy:y.list? = some l)(hl:l≠[])(hs:∀ v ∈ l,v.cells.length=t.size)(h0:0<t.size)(b1:l.length*t.bytes<=140737488355328)(b2:l.length<=9223372036854775807) :
  appendV e t s (.val .nils) y=some (.val (.vs s.locs.length e t.size 0 l.length),s.addLoc (.var ((flatL l).map .val))):=by
 unfold appendV
 rw[hy]
 cases l with
 |nil=>exact absurd rfl hl
 |cons a l=>
   simp only[Q02 hs h0,cond_true]
   simp only[newV]
   rw[if_pos ⟨b1,b2⟩]
def Arr(s:St)(e sz:Nat)(X:AV)(L n:Nat)(z:AV):Prop:=(n=0/\X = .nils)\/∃ l,L<l/\X = .vs l e sz 0 n/\Holds s l (List.replicate n z)
theorem Arr.grow{s0 s:St}{e:Nat}{t:TI}{X:AV}{L n:Nat}{z:AV}(h:Arr s e t.size X L n z)(hL:L<s.locs.length)(G:Grew s0 s)(hb:s0.locs.length<=L)(hz:z.cells.length=t.size)(h0:0<t.size)(hn:n<2^20)(hby:t.bytes<=2^16){y:Slot}(hy:y.list? = some [z]) :
  ∃ s',appendV e t s (.val X) y=some (.val (.vs s.locs.length e t.size 0 (n+1)),s')/\Holds s' s.locs.length (List.replicate (n+1) z)/\s'.locs.length=s.locs.length+1/\Grew s0 s'/\(∀ j o,(∀ e' sz m,X≠.vs j e' sz 0 m)->s.locs[j]? = some o->s'.locs[j]? = some o):=by
 rcases h with ⟨rfl,rfl⟩|⟨l,hl,rfl,hH⟩
 ·refine⟨_,QcZ hy (by simp) (by intro v hv;rw[List.mem_singleton.1 hv];exact hz) h0 (by simp;omega) (by simp),Qfz s [z],by simp[St.addLoc],G.addLoc _,λj o _ hj=>?_⟩
  exact ((Grew.refl s).addLoc _).loc hj
 ·have e1:=Qee (m:=[z]) hH (by intro v hv;rw[List.eq_of_mem_replicate hv];exact hz) hy (by simp) (by intro v hv;rw[List.mem_singleton.1 hv];exact hz) h0 (e:=e) (by
   simp only[List.length_replicate,Yj]
   exact Nat.le_trans (Nat.mul_le_mul (by omega:n+1<=2^20) hby) (by decide)) (by simp only[List.length_replicate,Yj];omega)
  have e2:List.replicate n z++[z]=List.replicate (n+1) z:=by rw[List.replicate_succ']
  rw[List.length_replicate,Yj,e2] at e1
  refine⟨_,e1,Qey s l _,Qh0 s l _,Qfw G (by omega) _,λj o hX hj=>?_⟩
  have hj2:=(List.getElem?_eq_some_iff.1 hj).1
  have hne:l≠j:=λe'=>hX e t.size n (by rw[e'])
  unfold St.turn
  simp only[]
  rw[List.getElem?_append_left (by rw[List.length_set];exact hj2),List.getElem?_set_ne hne];exact hj
theorem Qh7(a b:Sch)(ha:0<=a.vars/\a.vars<=256)(s0:St)(L:Nat)(hb:s0.locs.length<=L)(k n:Nat)(hk:k+n=a.vars.toNat)(s:St)(G:Grew s0 s)(X Y:AV)(ob:s.locs[L]? = some (.var ((mCells a b X Y).map .val)))(hX:Arr s Qd 1 X L n (.bool false))(hY:Arr s Q2 4 Y L n zeroTy.enc)(hXY:∀ l e sz m e' sz' m',X = .vs l e sz 0 m->Y≠.vs l e' sz' 0 m') :
  ∃ s',ZC (a.cells.map .val) (b.cells.map .val) (.val (.vp L 0)) (.val (.int .i64 a.vars)) (.val (.int .i64 n)) s=ZC (a.cells.map .val) (b.cells.map .val) (.val (.vp L 0)) (.val (.int .i64 a.vars)) (.val (.int .i64 a.vars)) s'/\Mem s0 s' L a b (λ_=>none):=by
 induction k generalizing n s X Y with
 |zero=>
   have hn:n=a.vars.toNat:=by omega
   refine⟨s,by rw[show ((n:Nat):Int)=a.vars by omega],G,hb,λ_ _ h=>(by cases h),X,Y,ob,λh0=>?_⟩
   rcases hX with ⟨h1,_⟩|⟨lI,h1,rfl,hI⟩
   ·omega
   rcases hY with ⟨h2,_⟩|⟨lT,h2,rfl,hT⟩
   ·omega
   subst hn
   refine⟨lI,lT,List.replicate a.vars.toNat false,List.replicate a.vars.toNat zeroTy,rfl,rfl,by rw[List.map_replicate];exact hI,by rw[List.map_replicate];exact hT,h1,h2,λe=>hXY lI _ _ _ _ _ _ rfl (by rw[e]),by simp,by simp,λi hi=>by simp[hi],λi u h _=>(by cases h)⟩
 |succ k ih=>
   have f0:decide ((n:Int)<a.vars)=true:=decide_eq_true (by omega)
   have hlt:=(List.getElem?_eq_some_iff.1 ob).1
   have ca:=Ty.cells_eq a.ty
   have cb:=Ty.cells_eq b.ty
   have q1:ldV (C.ti ZA) false s (.val (.vp L 10))=some (.val X):=by
    rw[QS ob];simp only[mCells,Sch.cells,ca,cb];simp only[go_sem]
   obtain⟨s1,e1,H1,n1,G1,K1⟩:=Arr.grow (t:=C.ti Qd) (e:=Qd) (by rw[Q14];exact hX) hlt G hb (by rw[Q14];rfl) (by rw[Q14];decide) (by omega) (by rw[Qbw];decide) (y:=.full [.bool false]) rfl
   rw[Q14] at e1
   have hXL:∀ e' sz m,X≠.vs L e' sz 0 m:=λe' sz m h=>by
    rcases hX with ⟨_,rfl⟩|⟨l,h1,rfl,_⟩
    ·cases h
    ·cases h;omega
   have hYL:∀ e' sz m,Y≠.vs L e' sz 0 m:=λe' sz m h=>by
    rcases hY with ⟨_,rfl⟩|⟨l,h1,rfl,_⟩
    ·cases h
    ·cases h;omega
   have ob1:=K1 L _ hXL ob
   have hc1:(mCells a b X Y).length=12:=by simp[mCells,Sch.cells,ca,cb]
   obtain⟨s2,hs2⟩:∃ z:St,z={ s1 with locs:=s1.locs.set L (.var ((mCells a b (.vs s.locs.length Qd 1 0 (n+1)) Y).map .val)) }:=⟨_,rfl⟩
   have st1:stV s1 (.val (.vp L 10)) [.val (.vs s.locs.length Qd 1 0 (n+1))]=some s2:=by
    rw[Q2B ob1 (by simp[hc1]),hs2];simp only[mCells,Sch.cells,ca,cb];simp only[go_sem,Nat.reduceAdd]
   have ob2:s2.locs[L]? = some (.var ((mCells a b (.vs s.locs.length Qd 1 0 (n+1)) Y).map .val)):=by rw[hs2];exact Q1L ob1
   have H2:Holds s2 s.locs.length (List.replicate (n+1) (.bool false)):=by rw[hs2];exact H1.put (by omega) _
   have G2:Grew s0 s2:=by rw[hs2];exact Q0G G1 hb _
   have n2:s2.locs.length=s.locs.length+1:=by rw[hs2];simp[n1]
   have hY2:Arr s2 Q2 4 Y L n zeroTy.enc:=by
    rcases hY with ⟨h1,h2⟩|⟨l,h1,rfl,hH⟩
    ·exact .inl ⟨h1,h2⟩
    ·refine .inr ⟨l,h1,rfl,?_⟩
     have:Holds s1 l (List.replicate n zeroTy.enc):=K1 l _ (λe' sz m h=>hXY l _ _ _ _ _ _ h rfl) hH
     rw[hs2];exact this.put (by omega) _
   have q2:ldV (C.ti Q8) false s2 (.val (.vp L 11))=some (.val Y):=by
    rw[QS ob2];simp only[mCells,Sch.cells,ca,cb];simp only[go_sem,Nat.reduceAdd,Nat.reduceLeDiff]
   have q3:lenO (Slot.val Y).list? (.val Y)=some (.val (.int .i64 n)):=by
    rcases hY with ⟨rfl,rfl⟩|⟨l,_,rfl,_⟩<;>rfl
   have hzc:zeroTy.enc.cells.length=4:=rfl
   obtain⟨s3,e3,H3,n3,G3,K3⟩:=Arr.grow (t:=C.ti Q2) (e:=Q2) (L:=L) (by rw[ZM];exact hY2) (by omega) G2 hb (z:=zeroTy.enc) (by rw[ZM];rfl) (by rw[ZM];decide) (by omega) (by rw[Q8d];decide) (y:=.full [zeroTy.enc]) rfl
   rw[ZM] at e3
   have q4:ixS 4 (.val (.vs s2.locs.length Q2 4 0 (n+1))) (.val (.int .i64 n))=some (.val (.vp s2.locs.length (n*4))):=by
    rw[Q6e (by omega) (by decide),Nat.zero_add]
   have st3:stV s3 (.val (.vp s2.locs.length (n*4))) (zeroTy.enc.cells.map .val)=some s3:=H3.st (by intro v hv;rw[List.eq_of_mem_replicate hv];rfl) (by simp)
   have w3:nwOk .nw s3 (.val (.vp s2.locs.length (n*4)))=true:=by simp only[nwOk,n3];exact Nat.beq_refl _
   have ob3:=K3 L _ hYL ob2
   obtain⟨s4,hs4⟩:∃ z:St,z={ s3 with locs:=s3.locs.set L (.var ((mCells a b (.vs s.locs.length Qd 1 0 (n+1)) (.vs s2.locs.length Q2 4 0 (n+1))).map .val)) }:=⟨_,rfl⟩
   have st4:stV s3 (.val (.vp L 11)) [.val (.vs s2.locs.length Q2 4 0 (n+1))]=some s4:=by
    rw[Q2B ob3 (by simp[mCells,Sch.cells,ca,cb]),hs4];simp only[mCells,Sch.cells,ca,cb];simp only[go_sem,Nat.reduceAdd]
   have w4:nwOk .old s3 (.val (.vp L 11))=true:=by simp only[nwOk,n3];exact Nat.ble_eq_true_of_le (by omega)
   have H2':Holds s3 s.locs.length (List.replicate (n+1) (.bool false)):=K3 _ _ (λe' sz m h=>by
    rcases hY with ⟨_,rfl⟩|⟨l,h1,rfl,hH⟩
    ·cases h
    ·cases h
     have:=(List.getElem?_eq_some_iff.1 hH).1
     omega) H2
   obtain⟨s',e5,M'⟩:=ih (n+1) (by omega) s4 (by rw[hs4];exact Q0G G3 hb _) (.vs s.locs.length Qd 1 0 (n+1)) (.vs s2.locs.length Q2 4 0 (n+1)) (by rw[hs4];exact Q1L ob3) (.inr ⟨_,hlt,rfl,by rw[hs4];exact H2'.put (by omega) _⟩) (.inr ⟨_,by omega,rfl,by rw[hs4];exact H3.put (by omega) _⟩) (λl e sz m e' sz' m' h h'=>by injection h with h1;injection h' with h2;omega)
   refine⟨s',?_,M'⟩
   have w1:IntKind.i64.wrap ((n:Int)+1)=((n+1:Nat):Int):=by rw[wrap64 (by omega) (by omega)];omega
   rw[<-e5,Q3V]
   simp only[zeroTy,Ty.enc,Q60,Yi,Yn,Ty.cells_mk,show encS true [] = .nils from rfl] at e3 st3
   simp only[Sch.cells,ca,cb]
   have hM:∀ (rt:Root) (s:St) (v:Slot) (cs:List Slot) (k:St->Res),stM rt s v cs k=bif nwOk rt s v then (bindS (stV s v cs) λs=>k s) else none:=λ_ _ _ _ _=>rfl
   simp only[go_sem,Nat.reduceAdd,Nat.reduceLeDiff,f0,q1,e1,st1,q2,q3,e3,q4,hM,w3,st3,st4,w4,w1]
theorem Q2w(a b:Sch)(ha:SchOK a)(hb:SchOK b)(s:St):Ret (cw (.f Q0s) [a.enc,b.enc] s) s (.bool (moreP a.vars a.ty b.vars b.ty)):=by
 obtain⟨s1,e1,g1⟩:=Q3W a.vars a.ty s ha.size ha.names
 have ct:=Ty.cells_eq a.ty
 have cu:=Ty.cells_eq b.ty
 rw[Qb4]
 cases hr:rightSB a.vars a.ty with
 |false=>
   have hm:moreP a.vars a.ty b.vars b.ty=false:=by unfold moreP;rw[hr];rfl
   rw[hr] at e1
   simp only[Sch.enc,Sch.cells,ct,cu] at e1 |-
   simp only[go_sem,Nat.reduceAdd,Nat.reduceLeDiff,e1,hm]
   exact⟨s1,rfl,g1⟩
 |true=>
   obtain⟨s2,e2,g2⟩:=Q3W b.vars b.ty s1 hb.size hb.names
   rw[hr] at e1
   cases hr2:rightSB b.vars b.ty with
   |false=>
     have hm:moreP a.vars a.ty b.vars b.ty=false:=by unfold moreP;rw[hr,hr2];rfl
     rw[hr2] at e2
     simp only[Sch.enc,Sch.cells,ct,cu] at e1 e2 |-
     simp only[go_sem,Nat.reduceAdd,Nat.reduceLeDiff,e1,e2,hm]
     exact⟨s2,rfl,g1.trans g2⟩
   |true=>
     rw[hr2] at e2
     have r1:=Zk hr
     have r2:=Zk hr2
     let s3:=s2.addLoc (.var ((mCells a b .nils .nils).map .val))
     obtain⟨s4,e4,M4⟩:=Qh7 a b r1.2 s2 s2.locs.length (Yd _) a.vars.toNat 0 (by omega) s3 ((Grew.refl s2).addLoc _) .nils .nils (Q24 _ _) (.inl ⟨rfl,rfl⟩) (.inl ⟨rfl,rfl⟩) (λl e sz m e' sz' m' h=>by cases h)
     have e5:=Q4j s2 s2.locs.length a b r1.2 r2.2 a.ty.size a.ty (Yd _) ha.size (ha.var r1.1) b.ty (λ_=>none) s4 (hb.var r2.1) hb.size M4
     have hm:=QfI a.vars a.ty b.vars b.ty hr hr2
     rw[<-hm]
     have fin:∃ s',cw (.f Zg) [.vp s2.locs.length 0,a.ty.enc,b.ty.enc] s4=some (.ret (.val (.bool (meetT a.vars b.vars a.ty b.ty λ_=>none).isSome)),s')/\Grew s2 s':=by
      cases hmt:meetT a.vars b.vars a.ty b.ty λ_=>none with
      |none=>rw[hmt] at e5;exact e5
      |some g=>rw[hmt] at e5;obtain⟨s',e,M⟩:=e5;exact⟨s',e,M.grew⟩
     obtain⟨s',e6,g6⟩:=fin
     refine⟨s',?_,(g1.trans g2).trans g6⟩
     have f1:decide (a.vars<a.vars)=false:=decide_eq_false (by omega)
     have e7:ZC (a.cells.map .val) (b.cells.map .val) (.val (.vp s2.locs.length 0)) (.val (.int .i64 a.vars)) (.val (.int .i64 a.vars)) s4=some (.ret (.val (.bool (meetT a.vars b.vars a.ty b.ty λ_=>none).isSome)),s'):=by
      rw[Q3V]
      simp only[Sch.cells,ct,cu,Ty.enc] at e6 |-
      simp only[go_sem,Nat.reduceAdd,Nat.reduceLeDiff,f1,e6]
     rw[e7,show ((0:Nat):Int)=0 from rfl] at e4
     rw[<-e4]
     simp only[s3,mCells,Sch.enc,Sch.cells,ct,cu] at e1 e2 |-
     simp only[go_sem,Nat.reduceAdd,Nat.reduceLeDiff,e1,e2]
theorem Q8T(a b:Sch)(ha:SchOK a)(hb:SchOK b)(s:St):Ret (cw (.f Q3L) [a.enc,b.enc] s) s (.bool (moreP a.vars a.ty b.vars b.ty&&moreP b.vars b.ty a.vars a.ty)):=by
 obtain⟨s1,e1,g1⟩:=Q2w a b ha hb s
 obtain⟨s2,e2,g2⟩:=Q2w b a hb ha s1
 have ct:=Ty.cells_eq a.ty
 have cu:=Ty.cells_eq b.ty
 rw[Qb5]
 cases hm:moreP a.vars a.ty b.vars b.ty with
 |false=>
   rw[hm] at e1
   simp only[Sch.enc,Sch.cells,ct,cu] at e1 |-
   simp only[go_sem,Nat.reduceAdd,Nat.reduceLeDiff,e1]
   exact⟨s1,rfl,g1⟩
 |true=>
   rw[hm] at e1
   simp only[Sch.enc,Sch.cells,ct,cu] at e1 e2 |-
   simp only[go_sem,Nat.reduceAdd,Nat.reduceLeDiff,e1,e2]
   exact⟨s2,rfl,g1.trans g2⟩
end Go.Proofs.YtobelgghegmhhaaGreatDoor
namespace Go.Am
open Go
theorem Qgd{p:UInt8->Bool}:∀ {l:Str},l.all p=true->l.takeWhile p=l
 |[],_=>rfl
 |c::l,h=>by
   simp only[List.all_cons,Ya] at h
   rw[List.takeWhile_cons,h.1,if_pos rfl,Qgd h.2]
theorem Qfr{c:UInt8}(h:firC c=true):digC c=false/\blankC c=false/\decide (c=40)=false:=by
 unfold firC firB at h
 simp only[Bool.or_eq_true,Ya,decide_eq_true_eq] at h
 refine⟨?_,?_,?_⟩
 ·unfold digC digB
  rw[Bool.and_eq_false_iff,decide_eq_false_iff_not,decide_eq_false_iff_not]
  omega
 ·unfold blankC
  have:∀ x:UInt8,x.toNat<=32->decide (c=x)=false:=λx hx=>decide_eq_false (by rintro rfl;omega)
  rw[this 32 (by decide),this 9 (by decide),this 10 (by decide),this 13 (by decide)];rfl
 ·exact decide_eq_false (by rintro rfl;revert h;decide)
theorem QfX{nm:Str}(h0:nm≠[])(hf:firC (nm.headD 0)=true)(ha:nm.all amoC=true)(h95:nm≠[95])(hl:nm.length<=32):lxScan nm=([⟨namedA nm,0,nm,0⟩],0,0):=by
 obtain⟨c,r,rfl⟩:=List.exists_cons_of_ne_nil h0
 have hf:firC c=true:=hf
 obtain⟨f1,f2,f3⟩:=Qfr hf
 have ho:lxOpens (c::r)=false:=by
  unfold lxOpens
  cases r with
  |nil=>rfl
  |cons d r=>simp only[f3,Bool.false_and]
 have h1:oneA (c::r) (tildeL [])=(0,⟨namedA (c::r),0,c::r,0⟩):=by
  unfold oneA
  rw[Qgd ha]
  simp only[List.headD_cons,f1,hf,cond_false,cond_true,decide_eq_false h95,decide_eq_false (show ¬ ((c::r).length:Int)>32 by omega)]
 have hz:scanF r.length (0+(c::r).length) ((c::r).drop (c::r).length) ([]++[⟨namedA (c::r),0,c::r,0⟩])=([⟨namedA (c::r),0,c::r,0⟩],0,0):=by
  rw[List.drop_length]
  cases r.length<;>rfl
 unfold lxScan
 rw[decide_eq_false (by omega),cond_false]
 show scanF (r.length+1+1) 0 (c::r) []=_
 unfold scanF
 simp only[f2,ho,cond_false,h1,Yp,decide_true,cond_true]
 rw[decide_eq_false (by omega),cond_false]
 unfold scanF
 rw[List.drop_length]
 rfl
theorem QcJ{nm:Str}(h0:nm≠[])(hf:firC (nm.headD 0)=true)(ha:nm.all amoC=true)(h95:nm≠[95])(hl:nm.length<=32)(hn:namedA nm=2):tokB nm=true:=by
 unfold tokB
 rw[QfX h0 hf ha h95 hl]
 simp[hn]
theorem Qiq:∀ w ∈ [116,114,117,101]::[102,97,108,115,101]::[95]::lwords,lowB w=false:=by decide +kernel
theorem Qhj(n:Int)(h:unrestB n=false):amoB n=true:=by
 unfold unrestB smallB greatB at h
 unfold amoB firB digB
 by_cases h1:n≥97<;>by_cases h2:n<=122<;>by_cases h3:n=95<;>by_cases h4:n≥65<;>by_cases h5:n<=90<;>by_cases h6:n<48<;>by_cases h7:n>57<;>by_cases h8:n=39<;>simp[h1,h2,h3,h4,h5,h6,h7,h8] at h |-<;>omega
theorem Qiz{nm:Str}(h:lowB nm=true):tokB nm=true:=by
 have hw:∀ w ∈ [116,114,117,101]::[102,97,108,115,101]::[95]::lwords,nm≠w:=λw hm e=>by
  have:=Qiq w hm
  rw[<-e,h] at this;cases this
 have h':=h
 unfold lowB runB restAll at h
 simp only[Ya,Bool.not_eq_true',decide_eq_false_iff_not,decide_eq_true_eq] at h
 obtain⟨⟨⟨h0,hs⟩,hr,hl⟩,-⟩:=h
 obtain⟨c,r,rfl⟩:=List.exists_cons_of_ne_nil h0
 have hs:smallB (c.toNat:Int)=true:=hs
 have hf:firC c=true:=by
  unfold smallB at hs
  unfold firC firB
  simp only[Bool.or_eq_true] at hs |-
  exact hs.elim (λx=>.inl (.inl x)) .inr
 refine QcJ h0 hf ?_ (hw [95] (by simp)) hl ?_
 ·rw[List.all_cons,show amoC c=true by unfold amoC amoB;unfold firC at hf;rw[hf];rfl,Bool.true_and]
  rw[List.all_eq_true] at hr |-
  exact λd hd=>Qhj _ (by simpa using hr d hd)
 ·have e1:hasL lwords (c::r)=false:=by
   unfold hasL
   rw[List.any_eq_false]
   exact λw hm=>by simpa using hw w (by simp[hm])
  unfold namedA
  rw[e1,cond_false,decide_eq_false (hw [116,114,117,101] (by simp)),decide_eq_false (hw [102,97,108,115,101] (by simp))]
  have hd:(c::r).headD 0=c:=rfl
  rw[hd]
  unfold smallB at hs
  simp only[Bool.or_eq_true,Ya,decide_eq_true_eq] at hs
  rw[decide_eq_false (show ¬ ((c.toNat:Int)<=90) by omega),Bool.and_false]
  rfl
end Go.Am
namespace Go.Am
open Go
def joinS(sep:Str):List Str->Bool->Str
 |[],_=>[]
 |s::r,f=>(bif f then s else sep++s)++joinS sep r false
def parS(b:Bool)(s:Str):Str:=bif b then 40::(s++[41]) else s
mutual
def txt10(vars:Int):Ty->Str
 |.mk k n nm ags _=>
   bif decide (k=1) then (bif decide (n<vars) then 39::letT n else 95::letT (n - vars))
   else bif decide (ags.length=0) then nm
   else bif decide (nm=[45,62]) then (ats10 vars ags 1).getD 0 []++([32,45,62,32]++(ats10 vars ags 0).getD 1 [])
   else bif decide (nm=[42]) then joinS [32,42,32] (ats10 vars ags 2) true
   else bif decide (ags.length=1) then (ats10 vars ags 2).getD 0 []++(32::nm)
   else 40::(joinS [44,32] (ats10 vars ags 0) true++(41::32::nm))
def ats10(vars:Int):List Ty->Int->List Str
 |[],_=>[]
 |t::l,lv=>parS (decide (levelT t<lv)) (txt10 vars t)::ats10 vars l lv
end
def at10(vars:Int)(t:Ty)(lv:Int):Str:=parS (decide (levelT t<lv)) (txt10 vars t)
theorem Qa1(vars:Int)(lv:Int):∀ l:List Ty,ats10 vars l lv=l.map λt=>at10 vars t lv
 |[]=>rfl
 |t::l=>by simp only[ats10,Yi,Qa1 vars lv l,at10]
def show10(vars:Int)(t:Ty):Str:=bif rightSB vars t then txt10 vars t else []
structure NiceT (l:List Str):Prop where
 fst:∃ s r,l=s::r/\hasL glueR s=false
 lst:∃ q z,l=q++[z]/\hasL glueL z=false
theorem Qfv(z:Str)(b:List Str):∀ (q:List Str) (p:Option Str),textGo p (q++z::b)=textGo p (q++[z])++textGo (some z) b
 |[],p=>by simp[textGo]
 |s::q,p=>by simp only[Yk,textGo,Qfv z b q,Yr]
theorem NiceT.app{l:List Str}(h:NiceT l):∃ z,hasL glueL z=false/\∀ p b,textGo p (l++b)=textGo p l++textGo (some z) b:=by
 obtain⟨q,z,rfl,hz⟩:=h.lst
 exact⟨z,hz,λp b=>by rw[Yr,List.singleton_append,Qfv]⟩
theorem NiceT.some{l:List Str}(h:NiceT l)(q:Str):textGo (some q) l=bif hasL glueL q then textB l else 32::textB l:=by
 obtain⟨s,r,rfl,hs⟩:=h.fst
 simp only[textB,textGo,sepB,hs,Bool.not_false,Bool.and_true,cond_false]
 cases hasL glueL q<;>rfl
theorem NiceT.one{s:Str}(h1:hasL glueR s=false)(h2:hasL glueL s=false):NiceT [s]:=⟨⟨s,[],rfl,h1⟩,⟨[],s,rfl,h2⟩⟩
theorem NiceT.cat{a b c:List Str}(ha:NiceT a)(hc:NiceT c):NiceT (a++(b++c)):=by
 obtain⟨s,r,rfl,h1⟩:=ha.fst
 obtain⟨q,z,rfl,h2⟩:=hc.lst
 exact⟨⟨s,r++(b++(q++[z])),by simp,h1⟩,⟨(s::r)++(b++q),z,by simp,h2⟩⟩
theorem NiceT.par{l:List Str}(b:Bool)(h:NiceT l):NiceT (parT b l):=by
 cases b with
 |false=>exact h
 |true=>exact⟨⟨[40],l++[[41]],rfl,by decide⟩,⟨[40]::l,[41],by simp[parT],by decide⟩⟩
theorem Q82{l:List Str}(b:Bool)(h:NiceT l):textB (parT b l)=parS b (textB l):=by
 cases b with
 |false=>rfl
 |true=>
   obtain⟨z,hz,ha⟩:=h.app
   show textGo none ([40]::(l++[[41]]))=40::(textB l++[41])
   have h1:=h.some [40]
   rw[show hasL glueL [40]=true by decide,cond_true] at h1
   simp only[textGo,sepB,cond_false]
   rw[ha,h1]
   simp only[textGo,sepB]
   rw[show hasL glueR [41]=true by decide]
   simp
theorem Qht{a b:List Str}(m:Str)(ha:NiceT a)(hb:NiceT b)(h1:hasL glueR m=false)(h2:hasL glueL m=false):textB (a++([m]++b))=textB a++(32::(m++32::textB b)):=by
 obtain⟨z,hz,h⟩:=ha.app
 unfold textB at *
 rw[h]
 simp only[List.singleton_append,textGo,sepB,h1,hz,Bool.not_false,Bool.and_self,cond_true]
 rw[hb.some m,h2]
 rfl
theorem QcI{a:List Str}(m:Str)(ha:NiceT a)(h1:hasL glueR m=false):textB (a++[m])=textB a++(32::m):=by
 obtain⟨z,hz,h⟩:=ha.app
 unfold textB at *
 rw[h]
 simp only[textGo,sepB,h1,hz,Bool.not_false,Bool.and_self,cond_true,List.append_nil]
theorem Q50(sign sep:Str)(hg:hasL glueL sign=false)(hsep:∀ z,hasL glueL z=false->textGo (some z) [sign]++[32]=sep):∀ (L:List (List Str)) (z:Str),(∀ l ∈ L,NiceT l)->hasL glueL z=false->textGo (some z) (joinT sign L false)=joinS sep (L.map textB) false
 |[],z,_,_=>rfl
 |l::L,z,hL,hz=>by
   have hl:=hL l Yc
   obtain⟨w,hw,h⟩:=hl.app
   have ih:=Q50 sign sep hg hsep L w (λx hx=>hL x (Yb _ hx)) hw
   have e:=hsep z hz
   simp only[textGo,List.append_nil] at e
   simp only[joinT,cond_false,Yk,textGo,h,ih,Yi,joinS,hl.some sign,hg]
   rw[<-e]
   simp
theorem QaE(sign sep:Str)(hg:hasL glueL sign=false)(hsep:∀ z,hasL glueL z=false->textGo (some z) [sign]++[32]=sep)(L:List (List Str))(hL:∀ l ∈ L,NiceT l):textB (joinT sign L true)=joinS sep (L.map textB) true:=by
 cases L with
 |nil=>rfl
 |cons l L=>
   have hl:=hL l Yc
   obtain⟨w,hw,h⟩:=hl.app
   have ih:=Q50 sign sep hg hsep L w (λx hx=>hL x (Yb _ hx)) hw
   unfold textB at *
   simp only[joinT,cond_true,h,ih,Yi,joinS]
theorem Qhm:∀ z,hasL glueL z=false->textGo (some z) [[42]]++[32]=[32,42,32]:=by
 intro z hz
 simp only[textGo,sepB,hz]
 rw[show hasL glueR [42]=false by decide];rfl
theorem QfY:∀ z,hasL glueL z=false->textGo (some z) [[44]]++[32]=[44,32]:=by
 intro z hz
 simp only[textGo,sepB,hz]
 rw[show hasL glueR [44]=true by decide];rfl
theorem Qan(sign:Str):∀ (L:List (List Str)) (f:Bool),L≠[]->(∀ l ∈ L,NiceT l)->∃ q z,joinT sign L f=q++[z]/\hasL glueL z=false
 |[l],f,_,hL=>by
   obtain⟨q,z,rfl,hz⟩:=(hL l Yc).lst
   cases f with
   |true=>exact⟨q,z,by simp[joinT],hz⟩
   |false=>exact⟨sign::q,z,by simp[joinT],hz⟩
 |l::m::L,f,_,hL=>by
   obtain⟨q,z,e,hz⟩:=Qan sign (m::L) false (by simp) (λx hx=>hL x (Yb _ hx))
   exact⟨(bif f then l else sign::l)++q,z,by rw[joinT,e,Yr],hz⟩
theorem NiceT.join(sign:Str){L:List (List Str)}(h:L≠[])(hL:∀ l ∈ L,NiceT l):NiceT (joinT sign L true):=by
 refine⟨?_,Qan sign L true h hL⟩
 cases L with
 |nil=>exact absurd rfl h
 |cons l L=>
   obtain⟨s,r,rfl,hs⟩:=(hL l Yc).fst
   exact⟨s,r++joinT sign L false,by simp[joinT],hs⟩
theorem Qew:∀ w ∈ glueL++glueR,((givenB w).2.2 || lowB w)=false:=by decide +kernel
theorem QfK{nm:Str}(h:((givenB nm).2.2 || lowB nm)=true):hasL glueL nm=false/\hasL glueR nm=false:=by
 have hw:∀ w ∈ glueL++glueR,nm≠w:=λw hm e=>by
  have:=Qew w hm
  rw[<-e,h] at this;cases this
 unfold hasL
 rw[List.any_eq_false,List.any_eq_false]
 exact⟨λw hm=>by simpa using hw w (Ym _ hm),λw hm=>by simpa using hw w (Yq _ hm)⟩
theorem Q7C{k n:Int}{nm:Str}{l:List Ty}{b:Bool}(h:goodB (.mk k n nm l b)=true)(hk:decide (k=1)=false):k=2/\n=0/\((givenB nm).1<=l.length/\(l.length:Int)<=(givenB nm).2.1)/\((givenB nm).2.2 || lowB nm)=true:=by
 have h:goodC k n nm l.length (lowB nm)=true:=h
 unfold goodC at h
 rw[hk,cond_false] at h
 cases h2:decide (k=2) with
 |false=>rw[h2] at h;cases h
 |true=>
   rw[h2] at h
   simp only[cond_true,Ya,decide_eq_true_eq] at h
   exact⟨of_decide_eq_true h2,h.1.1.1,⟨h.1.1.2,h.1.2⟩,h.2⟩
theorem QgT:givenB [45,62]=(2,2,true):=by decide +kernel
theorem Qet:givenB [42]=(2,8,true):=by decide +kernel
theorem QgF{k n:Int}{nm:Str}{l:List Ty}{b:Bool}(h:goodB (.mk k n nm l b)=true)(hk:decide (k=1)=false):tellN nm l.length=true:=by
 obtain⟨-,-,⟨h1,h2⟩,h3⟩:=Q7C h hk
 unfold tellN
 unfold givenB at h1 h2 h3
 cases c1:decide (nm=[105,110,116]) with
 |true=>rw[c1] at h1 h2;simp only[Bool.true_or,cond_true] at h1 h2 |-;exact decide_eq_true (by omega)
 |false=>
   cases c2:decide (nm=[98,111,111,108]) with
   |true=>rw[c1,c2] at h1 h2;simp only[Bool.false_or,Bool.true_or,cond_true] at h1 h2 |-;exact decide_eq_true (by omega)
   |false=>
     cases c3:decide (nm=[117,110,105,116]) with
     |true=>rw[c1,c2,c3] at h1 h2;simp only[Bool.false_or,Bool.true_or,cond_true] at h1 h2 |-;exact decide_eq_true (by omega)
     |false=>
       cases c4:decide (nm=[101,120,110]) with
       |true=>rw[c1,c2,c3,c4] at h1 h2;simp only[Bool.false_or,cond_true] at h1 h2 |-;exact decide_eq_true (by omega)
       |false=>
         rw[c1,c2,c3,c4] at h1 h2 h3
         simp only[Bool.false_or,cond_false] at h1 h2 h3 |-
         cases c5:decide (nm=[114,101,102]) with
         |true=>rw[c5] at h1 h2;simp only[cond_true] at h1 h2 |-;exact decide_eq_true (by omega)
         |false=>
           rw[c5] at h1 h2 h3
           simp only[cond_false] at h1 h2 h3 |-
           cases c6:decide (nm=[45,62]) with
           |true=>rw[c6] at h1 h2;simp only[cond_true] at h1 h2 |-;exact decide_eq_true (by omega)
           |false=>
             rw[c6] at h1 h2 h3
             simp only[cond_false] at h1 h2 h3 |-
             cases c7:decide (nm=[42]) with
             |true=>rw[c7] at h1 h2;simp only[cond_true,Ya,decide_eq_true_eq] at h1 h2 |-;omega
             |false=>
               rw[c7] at h1 h2 h3
               simp only[cond_false,Bool.false_or] at h1 h2 h3 |-
               rw[Qiz h3,Bool.true_and]
               exact decide_eq_true (by omega)
theorem Qek:∀ u:Nat,(Go.Lib.decDigits u).all amoC=true:=by
 intro u
 induction u using Nat.strongRecOn with
 |_ u ih=>
   have hd:∀ m,m<10->amoC (UInt8.ofNat (48+m))=true:=by
    intro m hm
    have:m=0\/m=1\/m=2\/m=3\/m=4\/m=5\/m=6\/m=7\/m=8\/m=9:=by omega
    rcases this with rfl|rfl|rfl|rfl|rfl|rfl|rfl|rfl|rfl|rfl<;>decide
   rw[Go.Lib.decDigits]
   by_cases h:u<10
   ·rw[dif_pos h]
    simp only[List.all_cons,List.all_nil,Bool.and_true]
    exact hd u h
   ·rw[dif_neg h,List.all_append,ih (u / 10) (by omega)]
    simp only[List.all_cons,List.all_nil,Bool.and_true,Bool.true_and]
    exact hd _ (by omega)
def keptN(m:Int):Str:=95::(letT (m % 26)++bif decide (m / 26=0) then [] else Go.Lib.itoa (m / 26))
theorem Qc3:∀ r:Nat,r<26->amoC (UInt8.ofNat (97+r))=true:=by
 intro r hr
 have:∀ i:Fin 26,amoC (UInt8.ofNat (97+i.val))=true:=by decide
 exact this ⟨r,hr⟩
theorem Q3D{m:Int}(h:0<=m):letT (m % 26)=[UInt8.ofNat (97+(m % 26).toNat)]:=by
 unfold letT
 rw[decide_eq_false (by omega),cond_false]
 congr 2
 omega
theorem QgX{m:Int}(h:0<=m):keptN m=95::letT m:=by
 unfold keptN
 rw[Q3D h]
 unfold letT
 have h1:(97+m % 26).toNat=97+(m % 26).toNat:=by omega
 rw[h1]
 by_cases hm:m>25
 ·rw[decide_eq_true hm,decide_eq_false (by omega)];rfl
 ·rw[decide_eq_false hm,decide_eq_true (by omega)];rfl
theorem Qh9:∀ w ∈ lwords,w.headD 0≠95:=by decide
theorem Qc0{m:Int}(h:0<=m)(h':m<=9223372036854775807):tokB (keptN m)=true/\(keptN m).length<=32:=by
 have hl:(keptN m).length<=32:=by
  unfold keptN
  rw[Q3D h]
  have:=Go.Lib.itoa_length_le (m / 26) (by omega) (by omega)
  cases decide (m / 26=0)<;>simp<;>omega
 refine⟨QcJ (by simp[keptN]) rfl ?_ ?_ hl ?_,hl⟩
 ·unfold keptN
  rw[Q3D h]
  simp only[List.all_cons,List.all_append,List.all_nil,Bool.and_true,Qc3 _ (show (m % 26).toNat<26 by omega)]
  rw[show amoC 95=true by decide]
  cases decide (m / 26=0) with
  |true=>rfl
  |false=>
    obtain⟨u,hu⟩:=Int.eq_ofNat_of_zero_le (show 0<=m / 26 by omega)
    rw[hu,Go.Lib.itoa_nonneg]
    simp only[cond_false,Qek,Bool.and_self]
 ·unfold keptN
  rw[Q3D h]
  simp
 ·have e1:hasL lwords (keptN m)=false:=by
   unfold hasL
   rw[List.any_eq_false]
   intro w hm
   simp only[decide_eq_true_eq]
   intro e
   exact Qh9 w hm (by rw[<-e];rfl)
  unfold namedA
  rw[e1]
  unfold keptN
  simp
theorem Qai(m:Int):hasL glueL (keptN m)=false/\hasL glueR (keptN m)=false:=by
 unfold hasL keptN glueL glueR
 simp
theorem QcR(n:Int):hasL glueL (39::letT n)=false/\hasL glueR (39::letT n)=false:=by
 unfold hasL glueL glueR
 simp
end Go.Am
namespace Go.Am
open Go
def ShowsT(vars:Int)(t:Ty):Prop:=∀ lv:Int,lv<=2->NiceT (typT (rebT (showF vars) t) lv)/\textB (typT (rebT (showF vars) t) lv)=at10 vars t lv
def VarOK(t:Ty):Prop:=allTy (varB λn=>decide (0<=n)&&decide (n<=9223372036854775807)) t=true
theorem Q4r(vars lv:Int):∀ l:List Ty,typTs (rebTs (showF vars) l) lv=l.map λt=>typT (rebT (showF vars) t) lv
 |[]=>rfl
 |t::l=>by simp only[rebTs,typTs,Yi,Q4r vars lv l]
theorem Q2z{vars lv:Int}(hlv:lv<=2){l:List Ty}(h:∀ t ∈ l,ShowsT vars t):(∀ x ∈ typTs (rebTs (showF vars) l) lv,NiceT x)/\(typTs (rebTs (showF vars) l) lv).map textB=ats10 vars l lv:=by
 rw[Q4r,Qa1]
 refine⟨λx hx=>?_,?_⟩
 ·obtain⟨t,ht,rfl⟩:=List.mem_map.1 hx
  exact (h t ht lv hlv).1
 ·rw[List.map_map]
  exact List.map_congr_left λt ht=>(h t ht lv hlv).2
theorem Qat(f:Int->Ty)(l:List Ty):(rebTs f l).length=l.length:=by rw[Q4e,Yh]
theorem Qay(vars:Int)(hv:0<=vars):∀ (m:Nat) (t:Ty),t.size<=m->allTy goodB t=true->VarOK t->ShowsT vars t
 |0,t,h,_,_=>by have:=Ty.size_pos t;omega
 |m+1,.mk k n nm ags b,h,hg,hp=>λlv hlv=>by
   have hg0:=hg
   simp only[allTy,Ya] at hg
   unfold VarOK at hp
   simp only[allTy,Ya] at hp
   simp only[Ty.size] at h
   simp only[rebT]
   cases hk:decide (k=1) with
   |true=>
     obtain⟨h0,rfl,rfl⟩:=Q5f hg.1 hk
     have hn:=Q5x hp.1 hk
     simp only[Ya,decide_eq_true_eq] at hn
     obtain rfl:=of_decide_eq_true hk
     have hlev:levelT (.mk 1 n [] [] b)=2:=rfl
     have hat:at10 vars (.mk 1 n [] [] b) lv=bif decide (n<vars) then 39::letT n else 95::letT (n - vars):=by
      unfold at10 parS
      rw[hlev,decide_eq_false (by omega),cond_false]
      simp only[txt10,decide_true,cond_true]
     rw[hat,cond_true]
     unfold showF
     cases hd:decide (n<vars) with
     |true=>
       simp only[cond_true,tvar,typT,decide_true]
       exact⟨.one (QcR n).2 (QcR n).1,by simp[textB,textGo,sepB]⟩
     |false=>
       have hd':=of_decide_eq_false hd
       have hkn:(95::(letT ((n - vars) % 26)++bif decide ((n - vars) / 26=0) then [] else Go.Lib.itoa ((n - vars) / 26)))=keptN (n - vars):=rfl
       have hne1:decide (keptN (n - vars)=[45,62])=false:=by unfold keptN;simp
       have hne2:decide (keptN (n - vars)=[42])=false:=by unfold keptN;simp
       simp only[cond_false,hkn,ofTy,Yn,typT,hne1,hne2]
       rw[show decide ((2:Int)=1)=false from rfl,show decide (([]:List Ty).length=0)=true from rfl]
       simp only[cond_false,cond_true]
       exact⟨.one (Qai _).2 (Qai _).1,by rw[<-QgX (by omega)];simp[textB,textGo,sepB]⟩
   |false=>
     obtain⟨rfl,rfl,⟨hl1,hl2⟩,hnm⟩:=Q7C hg.1 hk
     have HV:∀ u ∈ ags,ShowsT vars u:=λu hu=>by
      have h2:=Ty.mem_sizes hu
      exact Qay vars hv m u (by omega) (Q08 hg.2 u hu) (Q08 hp.2 u hu)
     obtain⟨g1,g2⟩:=QfK hnm
     simp only[cond_false,typT,Qat,hk]
     have hat:at10 vars (.mk 2 0 nm ags b) lv=parS (decide (levelT (.mk 2 0 nm ags b)<lv)) (txt10 vars (.mk 2 0 nm ags b)):=rfl
     rw[hat]
     simp only[txt10,hk,cond_false]
     have hlev:levelT (.mk 2 0 nm ags b)=bif decide (nm=[45,62]) then 0 else bif decide (nm=[42]) then 1 else 2:=rfl
     rw[hlev]
     cases c1:decide (nm=[45,62]) with
     |true=>
       obtain rfl:=of_decide_eq_true c1
       rw[QgT] at hl1 hl2
       obtain⟨a1,a2⟩:=Q2z (vars:=vars) (lv:=1) (by decide) HV
       obtain⟨b1,b2⟩:=Q2z (vars:=vars) (lv:=0) (by decide) HV
       match ags,hl1,hl2 with
       |[x,y],_,_=>
         simp only[rebTs,typTs,Yi,Yn,ats10,List.cons.injEq,and_true] at a1 a2 b1 b2
         have ha:=a1 (typT (rebT (showF vars) x) 1) (by simp)
         have hb:=b1 (typT (rebT (showF vars) y) 0) (by simp)
         have hm:=Qht [45,62] ha hb (by decide) (by decide)
         have hN:NiceT (typT (rebT (showF vars) x) 1++([[45,62]]++typT (rebT (showF vars) y) 0)):=.cat ha hb
         simp only[rebTs,typTs,ats10,List.getD_cons_zero,List.getD_cons_succ,cond_true,cond_false,Yr]
         rw[show decide (([x,y]:List Ty).length=0)=false from rfl,cond_false]
         refine⟨.par _ hN,?_⟩
         rw[Q82 _ hN,hm,a2.1,b2.2]
         rfl
       |[],h,_=>simp at h
       |[_],h,_=>simp at h
       |_::_::_::_,_,h=>simp at h;omega
     |false=>
       cases c2:decide (nm=[42]) with
       |true=>
         obtain rfl:=of_decide_eq_true c2
         rw[Qet] at hl1
         have hne:ags≠[]:=by rintro rfl;simp at hl1
         obtain⟨a1,a2⟩:=Q2z (vars:=vars) (lv:=2) (by decide) HV
         have hne':typTs (rebTs (showF vars) ags) 2≠[]:=by rw[Q4r];simpa using hne
         have hN:=NiceT.join [42] hne' a1
         simp only[cond_true,cond_false]
         have hz:decide (ags.length=0)=false:=decide_eq_false (by simpa using hne)
         simp only[hz,cond_false]
         refine⟨.par _ hN,?_⟩
         rw[Q82 _ hN,QaE [42] [32,42,32] (by decide) Qhm _ a1,a2]
       |false=>
         simp only[cond_false]
         have hlv2:decide ((2:Int)<lv)=false:=decide_eq_false (by omega)
         cases c3:decide (ags.length=0) with
         |true=>
           simp only[cond_true,hlv2,parS,cond_false]
           exact⟨.one g2 g1,by simp[textB,textGo,sepB]⟩
         |false=>
           simp only[cond_false,hlv2,parS]
           cases c4:decide (ags.length=1) with
           |true=>
             obtain⟨a1,a2⟩:=Q2z (vars:=vars) (lv:=2) (by decide) HV
             match ags,of_decide_eq_true c4 with
             |[x],_=>
               simp only[rebTs,typTs,Yi,Yn,ats10,List.cons.injEq,and_true] at a1 a2
               have ha:=a1 (typT (rebT (showF vars) x) 2) (by simp)
               simp only[rebTs,typTs,ats10,List.getD_cons_zero,cond_true]
               refine⟨by simpa using NiceT.cat (b:=[]) ha (.one g2 g1),?_⟩
               rw[QcI nm ha g2,a2]
           |false=>
             obtain⟨a1,a2⟩:=Q2z (vars:=vars) (lv:=0) (by decide) HV
             have hne:ags≠[]:=by rintro rfl;simp at c3
             have hne':typTs (rebTs (showF vars) ags) 0≠[]:=by rw[Q4r];simpa using hne
             have hN:=NiceT.join [44] hne' a1
             have hP:NiceT ([40]::(joinT [44] (typTs (rebTs (showF vars) ags) 0) true++[[41]])):=hN.par true
             have hT:=Q82 true hN
             simp only[parT,cond_true] at hT
             simp only[cond_false]
             refine⟨by simpa using NiceT.cat (b:=[]) hP (.one g2 g1),?_⟩
             rw[QcI nm hP g2,hT,QaE [44] [44,32] (by decide) QfY _ a1,a2]
             simp[parS]
mutual
theorem QcK(vars:Int)(hv:0<=vars/\vars<=256):∀ t:Ty,allTy goodB t=true->VarOK t->allTy tellB (rebT (showF vars) t)=true
 |.mk k n nm ags b,hg,hp=>by
   simp only[allTy,Ya] at hg
   unfold VarOK at hp
   simp only[allTy,Ya] at hp
   simp only[rebT]
   cases hk:decide (k=1) with
   |true=>
     have hn:=Q5x hp.1 hk
     simp only[Ya,decide_eq_true_eq] at hn
     rw[cond_true]
     unfold showF
     cases hd:decide (n<vars) with
     |true=>
       have hd':=of_decide_eq_true hd
       have h1000:n<=1000:=by omega
       simp[tvar,allTy,allTys,tellB,Ty.kind,Ty.n,Ty.name,Ty.args,hn.1,h1000]
     |false=>
       have hd':=of_decide_eq_false hd
       have hkn:(95::(letT ((n - vars) % 26)++bif decide ((n - vars) / 26=0) then [] else Go.Lib.itoa ((n - vars) / 26)))=keptN (n - vars):=rfl
       have ht:=(Qc0 (m:=n - vars) (by omega) (by omega)).1
       have hne:∀ w:Str,w.headD 0≠95->decide (keptN (n - vars)=w)=false:=λw hw=>decide_eq_false (by rintro e;exact hw (by rw[<-e];rfl))
       rw[hkn]
       show (tellN (keptN (n - vars)) 0&&true)=true
       unfold tellN
       rw[hne [105,110,116] (by decide),hne [98,111,111,108] (by decide),hne [117,110,105,116] (by decide),hne [101,120,110] (by decide),hne [114,101,102] (by decide),hne [45,62] (by decide),hne [42] (by decide),ht]
       rfl
   |false=>
     obtain⟨rfl,rfl,-,-⟩:=Q7C hg.1 hk
     have ht:=QgF hg.1 hk
     simp only[cond_false,allTy,QaK vars hv ags hg.2 hp.2,Bool.and_true,tellB,Ty.kind,Ty.n,Ty.name,Ty.args,Qat,ht,hk]
     rfl
theorem QaK(vars:Int)(hv:0<=vars/\vars<=256):∀ l:List Ty,allTys goodB l=true->allTys (varB λn=>decide (0<=n)&&decide (n<=9223372036854775807)) l=true->allTys tellB (rebTs (showF vars) l)=true
 |[],_,_=>rfl
 |t::l,hg,hp=>by
   simp only[allTys,Ya] at hg hp
   simp only[rebTs,allTys,QcK vars hv t hg.1 hp.1,QaK vars hv l hg.2 hp.2,Bool.and_self]
end
theorem Qg1(vars n:Int):(showF vars n).size=1:=by
 unfold showF
 cases decide (n<vars)<;>rfl
theorem Qhn(vars:Int)(t:Ty)(hp:rightSB vars t=true->VarOK t):schemeT vars t=show10 vars t:=by
 unfold schemeT show10
 cases hr:rightSB vars t with
 |false=>rfl
 |true=>
   have hp:=hp hr
   obtain⟨h1,h2⟩:=Zk hr
   have hg:=ZD h1
   have hs:=Qb6 h1
   have hz:=Q6r (showF vars) (Qg1 vars) t
   have ht:toldB (rebT (showF vars) t)=true:=by
    unfold toldB
    rw[QcK vars h2 t hg hp,decide_eq_true (by omega)];rfl
   have hx:=(Qay vars h2.1 t.size t (Yd _) hg hp 0 (by decide)).2
   simp only[cond_true,typeT,ht,hx]
   have hle:∀ u:Ty,decide (levelT u<0)=false:=λu=>by
    unfold levelT
    cases decide (u.kind=2)&&decide (u.name=[45,62])<;>cases decide (u.kind=2)&&decide (u.name=[42])<;>rfl
   unfold at10 parS
   rw[hle];rfl
end Go.Am
namespace Go.Am
open Go
mutual
def fewT:Ty->Int->Int->Int
 |.mk _ _ nm l _,left,deep=>bif decide (left - 1 - (nm.length / 100:Nat)<0) || decide (deep>130) then -1 else fewTs l (left - 1 - (nm.length / 100:Nat)) (deep+1)
def fewTs:List Ty->Int->Int->Int
 |[],left,_=>left
 |t::l,left,deep=>bif decide (fewT t left deep<0) then -1 else fewTs l (fewT t left deep) deep
end
mutual
theorem QdO:∀ (t:Ty) (left deep:Int),fewT t left deep<=left\/fewT t left deep = -1
 |.mk k n nm l b,left,deep=>by
   simp only[fewT]
   cases (decide (left - 1 - (nm.length / 100:Nat)<0) || decide (deep>130)) with
   |true=>exact .inr rfl
   |false=>
     rcases QbO l (left - 1 - (nm.length / 100:Nat)) (deep+1) with h|h
     ·exact .inl (by simp only[cond_false];omega)
     ·exact .inr h
theorem QbO:∀ (l:List Ty) (left deep:Int),fewTs l left deep<=left\/fewTs l left deep = -1
 |[],left,_=>.inl (Int.le_refl _)
 |t::l,left,deep=>by
   simp only[fewTs]
   cases h:decide (fewT t left deep<0) with
   |true=>exact .inr rfl
   |false=>
     have h1:=of_decide_eq_false h
     rcases QdO t left deep with h2|h2
     ·rcases QbO l (fewT t left deep) deep with h3|h3
      ·exact .inl (by simp only[cond_false];omega)
      ·exact .inr h3
     ·omega
end
end Go.Am
namespace Go.Proofs.YtobelgghegmhhaaGreatDoor
open Go Go.Am
set_option maxRecDepth 4000
def FewOK(t:Ty):Prop:=∀ left deep s,-1<=left->left<2^40->0<=deep->deep<=200->cw (.f Q0T) [t.enc,.int .i64 left,.int .i64 deep] s=some (.ret (.val (.int .i64 (fewT t left deep))),s)
theorem Q8u(t:Ty)(hl:t.args.length<2^40)(deep:Int)(hd:0<=deep/\deep<=130)(s:St):∀ (suf pre:List Ty) (left:Int) (i:Nat),pre++suf=t.args->i=pre.length->0<=left->left<2^40->(∀ u ∈ suf,FewOK u)->
  Q0C (.val (.int .i64 left)) (.val (.int .i64 deep)) (t.cells.map .val) (.val (.int .i64 t.args.length)) (.val (.int .i64 i)) s=some (.ret (.val (.int .i64 (fewTs suf left (deep+1)))),s)
 |[],pre,left,i,h,hi,h0,h1,H=>by
   subst hi
   rw[Q3l];simp only[go_sem,Int.reduceNeg,Ql (by simpa using h),fewTs]
 |u::suf,pre,left,i,h,hi,h0,h1,H=>by
   subst hi
   have c:=Ty.cells_eq t
   obtain⟨f1,f2,f3⟩:=Qh (x:=.val (encS t.nl (t.args.map Ty.enc))) (Qe _ _) h (by omega) (Ty.cells_len u) (by decide)
   have w1:IntKind.i64.wrap (deep+1)=deep+1:=wrap64 (by omega) (by omega)
   have e1:=H u Yc left (deep+1) s (by omega) h1 (by omega) (by omega)
   rw[Q3l]
   simp only[go_sem,Int.reduceNeg,Nat.reduceAdd,Nat.reduceLeDiff,c,f1,f2,f3,w1,e1,fewTs]
   cases hn:decide (fewT u left (deep+1)<0) with
   |true=>simp only[go_sem,Int.reduceNeg,hn]
   |false=>
     have hn':=of_decide_eq_false hn
     have hle:fewT u left (deep+1)<=left:=by rcases QdO u left (deep+1) with h|h<;>omega
     have ih:=Q8u t hl deep hd s suf (pre++[u]) (fewT u left (deep+1)) (pre.length+1) (by simpa using h) (by simp) (by omega) (by omega) (λw hw=>H w (Yb _ hw))
     simp only[go_sem,Int.reduceNeg,c,hn] at ih |-
     exact ih
theorem Q8v:∀ (k:Nat) (t:Ty),t.size<=k->t.size<2^40->NamesTy t->FewOK t
 |0,.mk _ _ _ _ _,h,_,_=>by simp only[Ty.size] at h;omega
 |k+1,t,h,h',hn=>λleft deep s h0 h1 h2 h3=>by
   have hsz:Ty.sizes t.args+1=t.size:=by cases t;simp only[Ty.size,Ty.args]
   have hl:=Ty.len_sizes t.args
   have hnm:t.name.length<2^40:=by cases t;exact hn.name
   have HV:∀ u ∈ t.args,FewOK u:=λu hu=>by
    cases t with
    |mk kd n nm l nl=>
      have h2:=Ty.mem_sizes hu
      simp only[Ty.args] at hsz hu h2
      exact Q8v k u (by omega) (by omega) (hn.arg hu)
   have c:=Ty.cells_eq t
   have a1:(t.name.length:Int).tdiv 100=((t.name.length / 100:Nat):Int):=by
    rw[Int.tdiv_eq_ediv_of_nonneg (by omega)];omega
   have w1:IntKind.i64.wrap (left - 1)=left - 1:=wrap64 (by omega) (by omega)
   have w0:IntKind.i64.wrap (((t.name.length / 100:Nat):Int))=((t.name.length / 100:Nat):Int):=wrap64 (by omega) (by omega)
   have w2:IntKind.i64.wrap (left - 1 - ((t.name.length / 100:Nat):Int))=left - 1 - ((t.name.length / 100:Nat):Int):=wrap64 (by omega) (by omega)
   have hT:fewT t left deep=bif decide (left - 1 - (t.name.length / 100:Nat)<0) || decide (deep>130) then -1 else fewTs t.args (left - 1 - (t.name.length / 100:Nat)) (deep+1):=by cases t;rfl
   rw[hT,Q9D]
   simp only[go_sem,Int.reduceEq,Int.reduceNeg,Nat.reduceAdd,Nat.reduceLeDiff,ne_eq,not_false_eq_true,c,a1,w0,w1,w2]
   cases hA:decide (left - 1 - ((t.name.length / 100:Nat):Int)<0) with
   |true=>simp only[go_sem,Int.reduceNeg,hA]
   |false=>
     cases hB:decide (deep>130) with
     |true=>simp only[go_sem,Int.reduceNeg,hA,hB]
     |false=>
       have hA':=of_decide_eq_false hA
       have hB':=of_decide_eq_false hB
       have e1:=Q8u t (by omega) deep ⟨h2,by omega⟩ s t.args [] (left - 1 - ((t.name.length / 100:Nat):Int)) 0 rfl rfl (by omega) (by omega) HV
       rw[show ((0:Nat):Int)=0 from rfl] at e1
       simp only[go_sem,Int.reduceNeg,c,hA,hB] at e1 |-
       exact e1
theorem Q8a(t:Ty)(most:Int)(hm:0<=most/\most<2^40)(s:St)(h:t.size<2^40)(hn:NamesTy t):cw (.f Q1T) [t.enc,.int .i64 most] s=some (.ret (.val (.bool (decide (fewT t most 0≥0)))),s):=by
 have e1:=Q8v t.size t (Yd _) h hn most 0 s (by omega) hm.2 (by omega) (by omega)
 have c:=Ty.cells_eq t
 rw[Q9C]
 simp only[go_sem,Nat.reduceAdd,Nat.reduceLeDiff,c,Ty.enc] at e1 |-
 simp only[go_sem,e1]
end Go.Proofs.YtobelgghegmhhaaGreatDoor
namespace Go.Am
open Go
theorem QfL{t:Ty}:NamesTy t↔∀ u ∈ preTy t,u.name.length<2^40:=by
 unfold NamesTy
 rw[Q2W]
 constructor
 ·intro h u hu
  exact h _ (List.mem_map.2 ⟨u,hu,rfl⟩)
 ·intro h n hn
  obtain⟨u,hu,rfl⟩:=List.mem_map.1 hn
  exact h u hu
theorem Q7M{k n:Int}{s:Str}{l:List Ty}{b:Bool}(h:s.length<2^40)(g:∀ t ∈ l,NamesTy t):NamesTy (.mk k n s l b):=by
 intro nd hn
 simp only[nodesTy,List.mem_cons] at hn
 rcases hn with rfl|hn
 ·exact h
 ·have:∀ (l:List Ty),(∀ t ∈ l,NamesTy t)->∀ nd ∈ nodesTys 0 l,nd.ok:=by
   intro l
   induction l with
   |nil=>intro _ nd h;simp[nodesTys] at h
   |cons t l ih=>
     intro h nd hn
     simp only[nodesTys,List.mem_append] at hn
     rcases hn with hn|hn
     ·exact h t Yc nd hn
     ·exact ih (λt ht=>h t (Yb _ ht)) nd hn
  exact this l g nd hn
mutual
theorem Qam{f:Int->Ty}{p:Int->Bool}(h:∀ n,p n=true->NamesTy (f n)):∀ t:Ty,NamesTy t->allTy (varB p) t=true->NamesTy (rebT f t)
 |.mk k n s l b,hn,hp=>by
   simp only[allTy,Ya] at hp
   simp only[rebT]
   cases hk:decide (k=1) with
   |true=>exact h n (Q5x hp.1 hk)
   |false=>
     rw[cond_false]
     exact Q7M hn.name (Q8F h l (λt ht=>hn.arg ht) hp.2)
theorem Q8F{f:Int->Ty}{p:Int->Bool}(h:∀ n,p n=true->NamesTy (f n)):∀ l:List Ty,(∀ t ∈ l,NamesTy t)->allTys (varB p) l=true->∀ t ∈ rebTs f l,NamesTy t
 |[],_,_,t,ht=>by simp[rebTs] at ht
 |u::l,hn,hp,t,ht=>by
   simp only[allTys,Ya] at hp
   simp only[rebTs,List.mem_cons] at ht
   rcases ht with rfl|ht
   ·exact Qam h u (hn u Yc) hp.1
   ·exact Q8F h l (λt ht=>hn t (Yb _ ht)) hp.2 t ht
end
theorem QeG(n:Int):NamesTy (tvar n):=Q7M (by decide) (by simp)
theorem Qdi{vars n:Int}(hv:0<=vars/\vars<=256)(hn:0<=n/\n<=9223372036854775807):NamesTy (showF vars n):=by
 unfold showF
 cases hd:decide (n<vars) with
 |true=>exact QeG n
 |false=>
   have hd':=of_decide_eq_false hd
   have:=(Qc0 (m:=n - vars) (by omega) (by omega)).2
   unfold keptN at this
   exact Q7M (by omega) (by simp)
def fewL(x:Sch)(l:List Ty):Bool:=l.all (λt=>decide (fewT t 300 0≥0))&&(decide ((l.length:Int)<300)&&decide (fewT x.ty 400 0≥0))
def fnK(a b:Ty):Ty:=.mk 2 0 [45,62] [a,b] false
def kOf:Ty:=fnK (tvar 3) (fnK (tvar 5) (tvar 3))
def kShow:Ty:=rebT (numF [3,5]) kOf
def kA:Sch:=⟨2,fnK (tvar 0) (tvar 1)⟩
def kB:Sch:=⟨1,fnK (tvar 0) (tvar 0)⟩
def kInt10:Ty:=.mk 2 0 [105,110,116] [] true
theorem QfB:rightTyB kOf=true:=by decide +kernel
theorem Qkm:ofP kOf [5]=(1,kShow):=by
 unfold ofP
 rw[QfB]
 rfl
theorem QeA:schemeT 1 kShow=[39,97,32,45,62,32,95,97,32,45,62,32,39,97]:=by
 rw[Qhn 1 kShow (λ_=>by unfold VarOK;decide +kernel)]
 decide +kernel
theorem kMore1:moreP 2 kA.ty 1 kB.ty=true:=by decide +kernel
theorem kMore2:moreP 1 kB.ty 2 kA.ty=false:=by decide +kernel
theorem kInst1:(instT 1 kB.ty [kInt10]).2=0:=by decide +kernel
theorem kInst2:eqTy (instT 1 kB.ty [kInt10]).1 (fnK kInt10 kInt10)=true:=by decide +kernel
def schB(x:Sch):Bool:=decide (x.ty.size<2^28)&&(((preTy x.ty).all λu=>decide (u.name.length<2^40))&&allTy numB x.ty)
theorem Q4U{x:Sch}(h:schB x=true):SchOK x:=by
 simp only[schB,Ya,decide_eq_true_eq,List.all_eq_true] at h
 exact⟨h.1,QfL.2 h.2.1,h.2.2⟩
end Go.Am
namespace Go.Proofs.YtobelgghegmhhaaGreatDoor
open Go Go.Am
set_option maxRecDepth 4000
theorem Qiv(x:Sch)(h:SchOK x)(s:St):Ret (cw (.f Q1W) [x.enc] s) s (.str (schemeT x.vars x.ty)):=by
 obtain⟨vars,t⟩:=x
 cases hr:rightSB vars t with
 |false=>
   obtain⟨s1,e1,g1⟩:=ZG vars t s (by have:=h.size;simp only at this;omega) h.names
   have c:=Ty.cells_eq t
   change cw _ _ _=some (.ret (.val (.bool (rightSB vars t))),s1) at e1
   rw[Q4V]
   unfold schemeT
   rw[hr] at e1 |-
   simp only[go_sem,Nat.reduceAdd,Nat.reduceLeDiff,Sch.enc,Sch.cells,c] at e1 |-
   simp only[go_sem,e1]
   exact⟨s1,rfl,g1⟩
 |true=>
   have r:=Zk hr
   have hv:=h.var r.1
   exact Q7X vars t s h.size h.names (Q00 t h.size) (Qam (p:=λn=>decide (0<=n)&&decide (n<=9223372036854775807)) (λn hn=>Qdi r.2 (by simpa using hn)) t h.names hv) hv
theorem QgQ{l:List AV}{off sz:Nat}{m:List AV}(h:sz=1)(k:off+1<=l.length)(r:List (Nat × Nat × Slot)):fillS l ((off,sz,.full m)::r)=fillS (l.take off++([.sl m]++l.drop (off+1))) r:=by
 subst h
 exact Qeq (x:=.full m) (v:=.sl m) rfl rfl rfl k r
theorem Q2s(n:Int)(s:St):cw (.f Q04) [.int .i64 n] s=some (.ret (.val (tvar n).enc),s):=by
 rw[QeC]
 simp only[go_sem,Nat.reduceAdd,Nat.reduceLeDiff,tvar,Ty.enc]
theorem Q0V(a b:Ty)(s:St):cw (.f Q0K) [a.enc,b.enc] s=some (.ret (.val (fnK a b).enc),s):=by
 have ca:=Ty.cells_eq a
 have cb:=Ty.cells_eq b
 rw[Qde]
 simp only[go_sem,Nat.reduceAdd,Nat.reduceLeDiff,fnK,Ty.enc,ca,cb,QgQ]
theorem Q4L(x:Sch)(l:List Ty)(y:Slot)(hy:y.list? = some (l.map Ty.enc))(hl:l.length<2^40)(hs:∀ t ∈ l,t.size<2^40/\NamesTy t)(hx:x.ty.size<2^40/\NamesTy x.ty)(s:St):∀ (suf pre:List Ty) (i:Nat),pre++suf=l->i=pre.length->
  Q1n y (x.cells.map .val) (.val (.int .i64 l.length)) (.val (.int .i64 i)) s=some (.ret (.val (.bool (suf.all (λt=>decide (fewT t 300 0≥0))&&(decide ((l.length:Int)<300)&&decide (fewT x.ty 400 0≥0))))),s)
 |[],pre,i,h,hi=>by
   subst hi
   have c:=Ty.cells_eq x.ty
   have e1:=Q8a x.ty 400 (by decide) s hx.1 hx.2
   rw[Q4b]
   simp only[Ty.enc,c] at e1
   cases hd:decide ((l.length:Int)<300) with
   |true=>simp only[go_sem,Nat.reduceAdd,Nat.reduceLeDiff,Sch.cells,c,Ql (by simpa using h),hy,Yh,hd,e1,List.all_nil]
   |false=>simp only[go_sem,Nat.reduceAdd,Nat.reduceLeDiff,Sch.cells,c,Ql (by simpa using h),hy,Yh,hd,List.all_nil]
 |t::suf,pre,i,h,hi=>by
   subst hi
   obtain⟨f1,f2,f3⟩:=Qh hy h (by omega) (Ty.cells_len t) (by decide)
   have ht:=hs t (by rw[<-h];simp)
   have e1:=Q8a t 300 (by decide) s ht.1 ht.2
   rw[Q4b,List.all_cons]
   cases hd:decide (fewT t 300 0≥0) with
   |false=>
     rw[hd] at e1
     simp only[go_sem,Nat.reduceLeDiff,f1,f2,f3,e1]
   |true=>
     rw[hd] at e1
     have ih:=Q4L x l y hy hl hs hx s suf (pre++[t]) (pre.length+1) (by simpa using h) (by simp)
     simp only[go_sem,Nat.reduceLeDiff,f1,f2,f3,e1] at ih |-
     exact ih
theorem Q4M(x:Sch)(l:List Ty)(v:AV)(hv:(Slot.val v).list? = some (l.map Ty.enc))(hl:l.length<2^40)(hs:∀ t ∈ l,t.size<2^40/\NamesTy t)(hx:SchOK x)(s:St):cw (.f Q1G) [x.enc,v] s=some (.ret (.val (.bool (fewL x l))),s):=by
 have e1:=Q4L x l (.val v) hv hl hs ⟨by have:=hx.size;omega,hx.names⟩ s l [] 0 rfl rfl
 rw[show ((0:Nat):Int)=0 from rfl] at e1
 have c:=Ty.cells_eq x.ty
 rw[Qc1]
 simp only[go_sem,Nat.reduceAdd,Sch.enc,Sch.cells,c,hv,Yh] at e1 |-
 exact e1
theorem Q3R(s:St):Ret (cw (.f Q1R) [] s) s (.bool true):=by
 have v3:=λs=>Q2s 3 s
 have v5:=λs=>Q2s 5 s
 have v0:=λs=>Q2s 0 s
 have v1:=λs=>Q2s 1 s
 have f1:=λs=>Q0V (tvar 5) (tvar 3) s
 have f2:=λs=>Q0V (tvar 3) (fnK (tvar 5) (tvar 3)) s
 have f3:=λs=>Q0V (tvar 0) (tvar 1) s
 have f4:=λs=>Q0V (tvar 0) (tvar 0) s
 have f5:=λs=>Q0V kInt10 kInt10 s
 have okOf:SchOK ⟨0,kOf⟩:=Q4U (by decide +kernel)
 have okShow:SchOK ⟨1,kShow⟩:=Q4U (by decide +kernel)
 have okA:SchOK kA:=Q4U (by decide +kernel)
 have okB:SchOK kB:=Q4U (by decide +kernel)
 have okI:SchOK ⟨0,kInt10⟩:=Q4U (by decide +kernel)
 obtain⟨s1,e1,g1⟩:=Q9K kOf [5] (.sl [.int .i64 5]) rfl (by decide) s okOf.size okOf.names
 rw[Qkm] at e1
 obtain⟨s2,e2,g2⟩:=Q7T 1 kB.ty [kInt10] false s1 okB.size okB.names (Q00 _ okB.size) (by decide) (by
  intro u hu
  rw[List.mem_singleton.1 hu]
  exact⟨by decide +kernel,okI.names,Q00 _ okI.size⟩) (by decide +kernel)
 obtain⟨s3,e3,g3⟩:=Qiv ⟨1,kShow⟩ okShow s2
 obtain⟨s4,e4,g4⟩:=ZZ kA kB okA okB s3
 obtain⟨s5,e5,g5⟩:=ZZ kB kA okB okA s4
 have e6:=Q4i (instT 1 kB.ty [kInt10]).1 (fnK kInt10 kInt10) s5 (by decide +kernel)
 rw[kInst2] at e6
 rw[kInst1] at e2
 rw[show schemeT (Sch.mk 1 kShow).vars (Sch.mk 1 kShow).ty=_ from QeA] at e3
 rw[show moreP kA.vars kA.ty kB.vars kB.ty=true from kMore1] at e4
 rw[show moreP kB.vars kB.ty kA.vars kA.ty=false from kMore2] at e5
 have cI:=Ty.cells_eq (instT 1 kB.ty [kInt10]).1
 have cS:=Ty.cells_eq kShow
 generalize hI:(instT 1 kB.ty [kInt10]).1=I at *
 generalize hS:kShow=S at *
 simp only[kOf,kA,kB,kInt10,fnK,tvar,Sch.enc,Sch.cells,Ty.enc,Ty.cells_mk,Yi,Yn,Q8s,QgN,cI,cS] at v3 v5 v0 v1 f1 f2 f3 f4 f5 e1 e2 e3 e4 e5 e6
 refine⟨s5,?_,(((g1.trans g2).trans g3).trans g4).trans g5⟩
 rw[Q9u]
 simp only[go_sem,Nat.reduceAdd,Nat.reduceLeDiff,v3,v5,v0,v1,f1,f2,f3,f4,f5,e1,e2,e3,e4,e5,e6]
open Go Go.Am
set_option maxRecDepth 4000
section
variable {H:Type}
def GTyN(b:Nat)(t:Ty):Prop:=GTy b t/\allTy numB t=true
def GTysN(b:Nat)(l:List Ty):Prop:=GTys b l/\allTys numB l=true
theorem GTysN.nil:GTysN 0 []:=⟨GTys.nil,rfl⟩
theorem GTysN.cons(m k:Nat)(t:Ty)(L:List Ty)(h:GTyN m t)(g:GTysN k L):GTysN (m+k) (t::L):=
 ⟨GTys.cons m k t L h.1 g.1,by simp only[allTys,h.2,g.2,Bool.and_self]⟩
theorem QdK:∀ (n:Nat) (d:DataW H) l,conv C.ti n Q2 d=some l->Rows.uptoBulk d<2^30->∃ t:Ty,l=t.cells/\GTyN (Rows.uptoBulk d) t
 |0,d,l,h,_=>by simp[conv] at h
 |1,d,l,h,_=>by
   obtain⟨parts,ls,rfl,hf,rfl⟩:=Q4u Qfc h
   rcases parts with _|⟨d1,_|⟨d2,_|⟨d3,_|⟨d4,_|_⟩⟩⟩⟩<;>rcases ls with _|⟨l1,_|⟨l2,_|⟨l3,_|⟨l4,_|_⟩⟩⟩⟩<;>simp only[Fields,and_false] at hf
   simp[conv] at hf
 |n+2,d,l,h,hb=>by
   obtain⟨parts,ls,rfl,hf,rfl⟩:=Q4u Qfc h
   rcases parts with _|⟨d1,_|⟨d2,_|⟨d3,_|⟨d4,_|_⟩⟩⟩⟩<;>rcases ls with _|⟨l1,_|⟨l2,_|⟨l3,_|⟨l4,_|_⟩⟩⟩⟩<;>simp only[Fields,and_false] at hf
   obtain⟨c1,c2,c3,c4,-⟩:=hf
   simp only[Rows.uptoBulk,Rows.uptoBulkAll] at hb |-
   obtain⟨k,rfl,rfl,w1⟩:=Q7D Qe9 c1
   obtain⟨m,rfl,rfl,w2⟩:=Q7D Q1A c2
   obtain⟨s,rfl,rfl⟩:=QgI Qi c3
   simp only[Rows.uptoBulk] at hb |-
   obtain⟨L,b,k',rfl,hL,hk⟩:=Qg4 Qgv Qbv GTysN.nil GTysN.cons (λd l h hb=>QdK n d l h hb) d4 l4 c4 (by omega)
   refine⟨.mk k m s L b,by rw[Ty.cells_mk];rfl,⟨by have:=hL.1.1;simp only[Ty.size];omega,λa nd hn=>?_⟩,?_⟩
   ·simp only[nodesTy,List.mem_cons] at hn
    rcases hn with rfl|hn
    ·simp only[TNode.ok,Ty.name];omega
    ·exact hL.1.2 a nd hn
   ·have hm:=wf64 w2
    show (numI m&&allTys numB L)=true
    rw[hL.2,Qck.2 hm];rfl
def GSch(b:Nat)(x:Sch):Prop:=GTyN b x.ty/\-9223372036854775808<=x.vars/\x.vars<=9223372036854775807
theorem Qhl:(C.ti Q6).k = .struct [(0,Q1),(1,Q2)]:=by kernel_rfl
theorem GTyN.weaken{b b':Nat}{t:Ty}(h:GTyN b t)(hb:b<=b'):GTyN b' t:=⟨⟨Nat.le_trans h.1.1 hb,h.1.2⟩,h.2⟩
theorem Q8o(n:Nat)(d:DataW H)(l:List AV)(h:conv C.ti n Q6 d=some l)(hb:Rows.uptoBulk d<2^30):∃ x:Sch,l=x.cells/\GSch (Rows.uptoBulk d) x:=by
 cases n with
 |zero=>simp[conv] at h
 |succ n=>
   obtain⟨parts,ls,rfl,hf,rfl⟩:=Q4u Qhl h
   rcases parts with _|⟨e1,_|⟨e2,_|_⟩⟩<;>rcases ls with _|⟨m1,_|⟨m2,_|_⟩⟩<;>simp only[Fields,and_false] at hf
   obtain⟨c7,c8,-⟩:=hf
   simp only[Rows.uptoBulk,Rows.uptoBulkAll] at hb |-
   obtain⟨vars,rfl,rfl,w7⟩:=Q7D Q1A c7
   simp only[Rows.uptoBulk] at hb |-
   obtain⟨t,rfl,ht⟩:=QdK n e2 m2 c8 (by omega)
   have hw:=wf64 w7
   exact⟨⟨vars,t⟩,by simp[Sch.cells],ht.weaken (by omega),hw.1,hw.2⟩
end
open Go Go.Am
set_option maxRecDepth 4000
theorem Q4K(a b:Sch)(ha:SchOK a)(hb:SchOK b)(s:St):Ret (cw (.f Q1f) [a.enc,b.enc] s) s (.bool true):=by
 have e1:=Q4M a [] .nils rfl (by decide) (by simp) ha s
 have e2:=Q4M b [] .nils rfl (by decide) (by simp) hb s
 obtain⟨s0,e0,g0⟩:=Q3R s
 have ca:=Ty.cells_eq a.ty
 have cb:=Ty.cells_eq b.ty
 rw[Q5K]
 cases h1:fewL a [] with
 |false=>
   rw[h1] at e1
   simp only[Sch.enc,Sch.cells,ca,cb] at e1 |-
   simp only[go_sem,Nat.reduceAdd,Nat.reduceLeDiff,e1,e0]
   exact⟨s0,rfl,g0⟩
 |true=>
   rw[h1] at e1
   cases h2:fewL b [] with
   |false=>
     rw[h2] at e2
     simp only[Sch.enc,Sch.cells,ca,cb] at e1 e2 |-
     simp only[go_sem,Nat.reduceAdd,Nat.reduceLeDiff,e1,e2,e0]
     exact⟨s0,rfl,g0⟩
   |true=>
     rw[h2] at e2
     clear e0 g0
     obtain⟨s3,e3,g3⟩:=ZZ a b ha hb s
     obtain⟨s4,e4,g4⟩:=Q2w a b ha hb s3
     obtain⟨s5,e5,g5⟩:=Q7V a b ha hb s4
     obtain⟨s6,e6,g6⟩:=Q8T a b ha hb s5
     obtain⟨s7,e7,g7⟩:=Q3R s6
     generalize (moreP a.vars a.ty b.vars b.ty&&moreP b.vars b.ty a.vars a.ty)=q at *
     generalize moreP a.vars a.ty b.vars b.ty=p at *
     have hp:(p == p)=true:=by simp
     have hq:(q == q)=true:=by simp
     refine⟨s7,?_,((((g3.trans g4).trans g5).trans g6).trans g7)⟩
     simp only[Sch.enc,Sch.cells,ca,cb] at e1 e2 e3 e4 e5 e6 |-
     simp only[go_sem,Nat.reduceAdd,Nat.reduceLeDiff,e1,e2,e3,e4,e5,e6,e7,hp,hq]
theorem GSch.okM{k:Nat}{x:Sch}(g:GSch k x)(h:k<2^28):SchOK x:=⟨by have:=g.1.1.1;omega,g.1.1.2 0,g.1.2⟩
theorem Q5h{k0 k1:Nat}(a:Sch)(ga:GSch k0 a)(b:Sch)(gb:GSch k1 b)(hb:k0+(k1+0)<=1048576):Ret (cw (.f Q1f) [a.enc,b.enc] st0) st0 (.bool true):=
 Q4K a b (ga.okM (by omega)) (gb.okM (by omega)) st0
end Go.Proofs.YtobelgghegmhhaaGreatDoor