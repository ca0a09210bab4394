/- A part of the proof: SExp1, PExp3, PExp4, SExp2, PExp5, SExp3. -/
import Derived.Test.YtgfhplcmcdimiaaGreatDoorM10
import Derived.Test.YtgfhplcmcdimiaaGreatDoorM11
set_option linter.unusedVariables false
set_option linter.unusedSimpArgs false
namespace Go.Am
open Go
mutual
theorem Q2f:∀ (p:Pat) (lv:Int),(patT p lv).length+1≤6*p.size
 |.mk k a nm n kids b,lv=>by
   have h0:=Q7z kids 0
   have h2:=Q7z kids 2
   have g0:=Q8C (patTs kids 0) 0
   have g2:=Q8C (patTs kids 2) 0
   have j0:=QN [44] (patTs kids 0) true
   have d:(digT n).length≤2:=by unfold digT;cases decide (n<0) <;> simp
   have p1:=Q1s (decide (1<lv)) ([nm]++(patTs kids 2).getD 0 [])
   have p0:=Q1s (decide (0<lv)) ([nm,[97,115]]++(patTs kids 0).getD 0 [])
   simp only[List.length_append,List.length_cons,List.length_nil] at p0 p1
   simp only[patT,Pat.size]
   cases decide (k=2) with
   |true=>simp only[cond_true,List.length_singleton];omega
   |false=>
     cases decide (k=3) with
     |true=>simp only[cond_true,cond_false];omega
     |false=>
       cases decide (k=4) with
       |true=>
         cases decide (kids.length>0) with
         |true=>simp only[cond_true,cond_false];omega
         |false=>simp only[cond_true,cond_false,List.length_singleton];omega
       |false=>
         cases decide (k=5) with
         |true=>simp only[cond_true,cond_false,List.length_cons,List.length_append,List.length_nil];omega
         |false=>
           cases decide (k=6) with
           |true=>simp only[cond_true,cond_false];omega
           |false=>simp only[cond_false,List.length_singleton];omega
theorem Q7z:∀ (l:List Pat) (lv:Int),((patTs l lv).map (·.length)).sum+(patTs l lv).length≤6*Pat.sizes l
 |[],lv=>by simp[patTs,Pat.sizes]
 |p::l,lv=>by
   have h1:=Q2f p lv
   have h2:=Q7z l lv
   simp only[patTs,List.map_cons,List.sum_cons,List.length_cons,Pat.sizes]
   omega
end
end Go.Am
namespace Go.Proofs.YtgfhplcmcdimiaaGreatDoor
open Go Go.Am
set_option linter.unusedVariables false
set_option maxRecDepth 4000
theorem catL(P:List (AV × List Str))(hP:∀ p ∈ P,StrsAV p.1 p.2)(hl:P.length<2^40)(hb:sumL P<2^30)(s:St):RetS (cw (.f Qm) [.sl (P.map (·.1))] s) s ((P.map (·.2)).flatten):=
 RetA.toS (Q7S P hP hl (.sl (P.map (·.1))) rfl hb s)
theorem cat2{a b:AV}{la lb:List Str}(ha:StrsAV a la)(hb:StrsAV b lb)(hl:la.length+lb.length<2^30)(s:St):RetS (cw (.f Qm) [.sl [a,b]] s) s (la++lb):=by
 have:=catL [(a,la),(b,lb)] (by intro p hp;simp only[List.mem_cons,List.not_mem_nil,or_false] at hp;rcases hp with rfl | rfl <;> assumption) (by simp) (by simp[sumL];omega) s
 simpa using this
theorem cat3{a b c:AV}{la lb lc:List Str}(ha:StrsAV a la)(hb:StrsAV b lb)(hc:StrsAV c lc)(hl:la.length+lb.length+lc.length<2^30)(s:St):RetS (cw (.f Qm) [.sl [a,b,c]] s) s (la++(lb++lc)):=by
 have:=catL [(a,la),(b,lb),(c,lc)] (by intro p hp;simp only[List.mem_cons,List.not_mem_nil,or_false] at hp;rcases hp with rfl | rfl | rfl <;> assumption) (by simp) (by simp[sumL];omega) s
 simpa using this
theorem cat4{a b c d:AV}{la lb lc ld:List Str}(ha:StrsAV a la)(hb:StrsAV b lb)(hc:StrsAV c lc)(hd:StrsAV d ld)(hl:la.length+lb.length+lc.length+ld.length<2^30)(s:St):RetS (cw (.f Qm) [.sl [a,b,c,d]] s) s (la++(lb++(lc++ld))):=by
 have:=catL [(a,la),(b,lb),(c,lc),(d,ld)] (by intro p hp;simp only[List.mem_cons,List.not_mem_nil,or_false] at hp;rcases hp with rfl | rfl | rfl | rfl <;> assumption) (by simp) (by simp[sumL];omega) s
 simpa using this
theorem Q9I{a:AV}{l:List Str}(ha:StrsAV a l)(hl:l.length+2<2^30)(s:St):RetS (cw (.f Zm) [a] s) s ([40]::(l++[[41]])):=RetA.toS (Q7i ha hl s)
theorem Q7h(n:Int)(h:-2147483648≤n∧n≤2147483647)(s:St):RetS (cw (.f Q3R) [.int .i64 n] s) s (digT n):=by
 rw[Qdw]
 unfold digT
 cases hd:decide (n<0) with
 |true=>
   have hw:IntKind.i64.wrap (0 - n) = -n:=by rw[wrap64 (by omega) (by omega)];omega
   have e1:=Q9K (-n) (by omega) s
   simp only[go_sem,Nat.reduceAdd,hd,QmE,hw,e1,Qh]
   exact⟨_,s,rfl,.refl s,(Qf [[126],Go.Lib.itoa (-n)]).slot⟩
 |false=>
   have e1:=Q9K n (by omega) s
   simp only[go_sem,Nat.reduceAdd,hd,e1,Qh]
   exact⟨_,s,rfl,.refl s,(Qf [Go.Lib.itoa n]).slot⟩
theorem Q47{s:St}{x:Slot}{l:List Str}(A:SlotS x l)(hl:l.length+2<2^30)(lv lev:Int):RetS (Zh (.val (.int .i64 lv)) (.val (.int .i64 lev)) x s) s (parT (decide (lev<lv)) l):=by
 rw[Qby]
 cases hd:decide (lev<lv) with
 |false=>simp only[go_sem,hd,parT];exact⟨x,s,rfl,.refl s,A⟩
 |true=>
   obtain⟨v,hv,hs⟩:=A.av
   obtain⟨y,s',e1,g,B⟩:=Q9I hs hl s
   simp only[go_sem,hd,QS hv,e1,parT]
   exact⟨y,s',rfl,g,B⟩
theorem Qd4{n:Int}(h:isIntB n=true):-2147483648≤n∧n≤2147483647:=by
 unfold isIntB at h
 simp only[Bool.and_eq_true,decide_eq_true_eq] at h
 omega
def UnderOK(p:Pat):Prop:=∀ (lv:Int) (s:St),0≤lv→lv≤2→RetS (cw (.f Q1D) [p.enc,.int .i64 lv] s) s (patT p lv)
theorem Q3E{p:Pat}(H:UnderOK p)(s:St):RetS (cw (.f Q29) [p.enc] s) s (patT p 0):=by
 obtain⟨x,s',e,g,h⟩:=H 0 s (by decide) (by decide)
 have c:=Pat.cells_eq p
 rw[Qhq]
 simp only[Pat.enc,c] at e ⊢
 simp only[go_sem,Nat.reduceAdd,Nat.reduceLeDiff,e]
 exact⟨x,s',rfl,g,h⟩
theorem Q88(p:Pat){i:Nat}{q:Pat}(hi:p.kids[i]? = some q):ixS 5 (.val (encS p.kb (p.kids.map Pat.enc))) (.val (.int .i64 (i:Int)))=some (.val (.cp q.cells)):=
 Q2A (Q4 _ _) (show (p.kids.map Pat.enc)[i]? = some q.enc by simp[hi]) (Pat.cells_len q) (by decide)
theorem QgP(p:Pat)(H:∀ q ∈ p.kids,UnderOK q)(i:Nat)(q:Pat)(hi:p.kids[i]? = some q)(s:St):RetS (cw (.f Q1E) [.int .i64 i,.cp p.cells] s) s (patT q 0):=by
 obtain⟨x,s',e,g,h⟩:=Q3E (H q (List.mem_of_getElem? hi)) s
 rw[Qcx]
 simp only[go_sem,Nat.reduceAdd,Nat.reduceLeDiff,Pat.cells_eq p,Q88 p hi,e]
 exact⟨x,s',rfl,g,h⟩
theorem QiE(p:Pat)(H:∀ q ∈ p.kids,UnderOK q):PartOK (.fn Q1E [.cp p.cells]) (patTs p.kids 0):=⟨_,_,rfl,λi l hl s=>by
 rw[Q4f,List.getElem?_map,Option.map_eq_some_iff] at hl
 obtain⟨q,h1,rfl⟩:=hl
 exact QgP p H i q h1 s⟩
theorem Qmy(p:Pat)(lv:Int):patT p lv =
  bif decide (p.kind=2) then [p.name]
  else bif decide (p.kind=3) then digT p.n
  else bif decide (p.kind=4) then (bif decide (p.kids.length>0) then parT (decide (1<lv)) ([p.name]++(patTs p.kids 2).getD 0 []) else [p.name])
  else bif decide (p.kind=5) then [40]::(joinT [44] (patTs p.kids 0) true++[[41]])
  else bif decide (p.kind=6) then parT (decide (0<lv)) ([p.name,[97,115]]++(patTs p.kids 0).getD 0 [])
  else [[95]]:=by cases p;simp only[patT];rfl
theorem pats_wrong:∀ {l:List Pat},(∀ nd ∈ nodesPats l,nd.wrong.1=0)→∀ u ∈ l,∀ nd ∈ nodesPat u,nd.wrong.1=0
 |x::l,h,u,hu,nd,hn=>by
   simp only[nodesPats] at h
   rcases List.mem_cons.1 hu with rfl | hu
   ·exact h nd (List.mem_append_left _ hn)
   ·exact pats_wrong (λnd hn=>h nd (List.mem_append_right _ hn)) u hu nd hn
theorem Q2L:∀ (m:Nat) (p:Pat),p.size≤m→p.size<2^26→(∀ n ∈ nodesPat p,n.wrong.1=0)→UnderOK p
 |0,p,h,_,_=>by cases p;simp only[Pat.size] at h;omega
 |m+1,p,h,hb,hr=>λlv s l0 l2=>by
   have hsz:Pat.sizes p.kids+1=p.size:=by cases p;simp only[Pat.size,Pat.kids]
   have hlen:=Pat.len_sizes p.kids
   have hr2:wrongPatB p=0∧∀ nd ∈ nodesPats p.kids,nd.wrong.1=0:=by
    cases p with
    |mk k a nm n kids b=>
      simp only[nodesPat,List.forall_mem_cons] at hr
      exact hr
   have I:=Qc5 hr2.1
   have HV:∀ q ∈ p.kids,UnderOK q:=λq hq=>by
    have:=Pat.mem_sizes hq
    exact Q2L m q (by omega) (by omega) (pats_wrong hr2.2 q hq)
   have c:=Pat.cells_eq p
   have tl:=Q7z p.kids 0
   have q0:(patTs p.kids 0).length=p.kids.length:=by rw[Q4f,List.length_map]
   have p1:=QiE p HV
   have x1:∀ g caps,AV.fn Q1E [.cp p.cells] = .fn g caps→(C.ext g).isSome=false:=λg caps h=>by cases h;kernel_rfl
   rw[Qmy,Qf8]
   cases h2:decide (p.kind=2) with
   |true=>
     obtain⟨y,s1,e1,g1,B⟩:=Q47 (s:=s) (Qf [p.name]).slot (by simp) lv 2
     rw[decide_eq_false (show ¬ (2:Int)<lv by omega)] at B
     simp only[List.map_cons,List.map_nil] at e1
     simp only[go_sem,Nat.reduceAdd,Nat.reduceLeDiff,c,h2,Qh,e1]
     exact⟨y,s1,rfl,g1,B⟩
   |false=>
     cases h3:decide (p.kind=3) with
     |true=>
       obtain⟨x,s0,e0,g0,A⟩:=Q7h p.n (Qd4 (I.int (of_decide_eq_true h3))) s
       obtain⟨y,s1,e1,g1,B⟩:=Q47 (s:=s0) A (by unfold digT;cases decide (p.n<0) <;> simp) lv 2
       rw[decide_eq_false (show ¬ (2:Int)<lv by omega)] at B
       simp only[go_sem,Nat.reduceAdd,Nat.reduceLeDiff,c,h2,h3,Qh,e0,e1]
       exact⟨y,s1,rfl,g0.trans g1,B⟩
     |false=>
       cases h4:decide (p.kind=4) with
       |true=>
         cases hk:decide (p.kids.length>0) with
         |false=>
           have hk':decide ((p.kids.length:Int)>0)=false:=decide_eq_false (by have:=of_decide_eq_false hk;omega)
           obtain⟨y,s1,e1,g1,B⟩:=Q47 (s:=s) (Qf [p.name]).slot (by simp) lv 2
           rw[decide_eq_false (show ¬ (2:Int)<lv by omega)] at B
           simp only[List.map_cons,List.map_nil] at e1
           simp only[go_sem,Nat.reduceAdd,Nat.reduceLeDiff,c,h2,h3,h4,Qh,Q4,List.length_map,hk',e1]
           exact⟨y,s1,rfl,g1,B⟩
         |true=>
           have hk':decide ((p.kids.length:Int)>0)=true:=decide_eq_true (by have:=of_decide_eq_true hk;omega)
           obtain⟨q,hq⟩:∃ q,p.kids=[q]:=by
            have h1:=(I.con (of_decide_eq_true h4)).2
            have h3:=of_decide_eq_true hk
            match hx:p.kids,h1,h3 with
            |[x],_,_=>exact⟨x,rfl⟩
            |_::_::_,h,_=>simp at h;omega
           have f0:=Q88 p (i:=0) (q:=q) (by rw[hq];rfl)
           rw[show ((0:Nat):Int)=0 from rfl] at f0
           obtain⟨x,s0,e0,g0,A⟩:=HV q (by rw[hq];simp) 2 s (by decide) (by decide)
           obtain⟨v,av,hv⟩:=A.av
           have lq:=Q2f q 2
           have zq:q.size+1=p.size:=by rw[←hsz,hq];simp only[Pat.sizes,Nat.add_zero]
           obtain⟨y,s1,e1,g1,B⟩:=cat2 (Qf [p.name]) hv (by simp only[List.length_singleton];omega) s0
           obtain⟨z,s2,e2,g2,D⟩:=Q47 (s:=s1) B (by simp only[List.length_append,List.length_singleton];omega) lv 1
           simp only[List.map_cons,List.map_nil] at e1
           simp only[go_sem,Nat.reduceAdd,Nat.reduceLeDiff,c,h2,h3,h4,Qh,Q4,List.length_map,hk',f0,e0,hv.bslx av,e1,e2]
           refine⟨z,s2,rfl,(g0.trans g1).trans g2,?_⟩
           rw[hq]
           exact D
       |false=>
         cases h5:decide (p.kind=5) with
         |true=>
           obtain⟨x,s0,e0,g0,A⟩:=RetA.toS (Q0b [44] _ (patTs p.kids 0) p1 x1 (by omega) s)
           obtain⟨v,av,hv⟩:=A.av
           have hj:=QN [44] (patTs p.kids 0) true
           obtain⟨y,s1,e1,g1,B⟩:=Q9I hv (by omega) s0
           obtain⟨z,s2,e2,g2,D⟩:=Q47 (s:=s1) B (by simp only[List.length_append,List.length_cons,List.length_nil];omega) lv 2
           rw[decide_eq_false (show ¬ (2:Int)<lv by omega)] at D
           rw[q0] at e0
           simp only[c] at e0
           simp only[go_sem,Nat.reduceAdd,Nat.reduceLeDiff,c,h2,h3,h4,h5,Qh,Q4,List.length_map,e0,QS av,e1,e2]
           exact⟨z,s2,rfl,(g0.trans g1).trans g2,D⟩
         |false=>
           cases h6:decide (p.kind=6) with
           |true=>
             obtain⟨q,hq⟩:∃ q,p.kids=[q]:=by
              have h1:=(I.as_ (of_decide_eq_true h6)).2
              exact one_of' (by omega)
             have f0:=Q88 p (i:=0) (q:=q) (by rw[hq];rfl)
             rw[show ((0:Nat):Int)=0 from rfl] at f0
             obtain⟨x,s0,e0,g0,A⟩:=Q3E (HV q (by rw[hq];simp)) s
             obtain⟨v,av,hv⟩:=A.av
             have lq:=Q2f q 0
             have zq:q.size+1=p.size:=by rw[←hsz,hq];simp only[Pat.sizes,Nat.add_zero]
             obtain⟨y,s1,e1,g1,B⟩:=cat2 (Qf [p.name,[97,115]]) hv (by simp only[List.length_cons,List.length_nil];omega) s0
             obtain⟨z,s2,e2,g2,D⟩:=Q47 (s:=s1) B (by simp only[List.length_append,List.length_cons,List.length_nil];omega) lv 0
             simp only[List.map_cons,List.map_nil] at e1
             simp only[go_sem,Nat.reduceAdd,Nat.reduceLeDiff,c,h2,h3,h4,h5,h6,Qh,f0,e0,hv.bslx av,e1,e2]
             refine⟨z,s2,rfl,(g0.trans g1).trans g2,?_⟩
             rw[hq]
             exact D
           |false=>
             obtain⟨y,s1,e1,g1,B⟩:=Q47 (s:=s) (Qf [[95]]).slot (by simp) lv 2
             rw[decide_eq_false (show ¬ (2:Int)<lv by omega)] at B
             simp only[List.map_cons,List.map_nil] at e1
             simp only[go_sem,Nat.reduceAdd,Nat.reduceLeDiff,c,h2,h3,h4,h5,h6,Qh,e1]
             exact⟨y,s1,rfl,g1,B⟩
where
 one_of' {α:Type} {l:List α} (h:l.length=1):∃ x,l=[x]:=by
  match l,h with
  |[x],_=>exact⟨x,rfl⟩
end Go.Proofs.YtgfhplcmcdimiaaGreatDoor
namespace Go.Am
open Go
set_option linter.unusedVariables false
theorem NiceT.append{a b:List Str}(ha:NiceT a)(hb:NiceT b):NiceT (a++b):=by simpa using NiceT.cat (b:=[]) ha hb
theorem Qk{a b:List Str}(ha:NiceT a)(hb:NiceT b):textB (a++b)=textB a++(32::textB b):=by
 obtain⟨z,hz,h⟩:=ha.app
 unfold textB at *
 rw[h,hb.some z,hz]
 rfl
theorem Qo(m:Str):textB [m]=m:=by simp[textB,textGo,sepB]
theorem QeB{m:Str}{b:List Str}(hm:hasL glueL m=true)(hb:NiceT b):textB ([m]++b)=m++textB b:=by
 have h:=hb.some m
 rw[hm,cond_true] at h
 show textGo none (m::b)=_
 rw[textGo,h]
 rfl
theorem NiceT.glue{m:Str}{b:List Str}(hm:hasL glueR m=false)(hb:NiceT b):NiceT ([m]++b):=by
 obtain⟨q,z,rfl,hz⟩:=hb.lst
 exact⟨⟨m,q++[z],rfl,hm⟩,⟨m::q,z,rfl,hz⟩⟩
theorem Q8P:∀ w ∈ glueL++glueR,lowB w=false∧conB w=false∧capB w=false∧w.all amoC=false:=by decide +kernel
theorem Qah{nm:Str}(h:∀ w ∈ glueL++glueR,nm≠w):NiceT [nm]:=by
 refine .one ?_ ?_
 ·unfold hasL
  rw[List.any_eq_false]
  exact λw hm=>by simpa using h w (List.mem_append_right _ hm)
 ·unfold hasL
  rw[List.any_eq_false]
  exact λw hm=>by simpa using h w (List.mem_append_left _ hm)
theorem Q5s{nm:Str}(h:lowB nm=true):NiceT [nm]:=Qah λw hw e=>by
 have:=(Q8P w hw).1
 rw[←e,h] at this;cases this
theorem Q8O{nm:Str}(h:conB nm=true):NiceT [nm]:=Qah λw hw e=>by
 have:=(Q8P w hw).2.1
 rw[←e,h] at this;cases this
theorem Q8N{nm:Str}(h:capB nm=true):NiceT [nm]:=Qah λw hw e=>by
 have:=(Q8P w hw).2.2.1
 rw[←e,h] at this;cases this
theorem Qei{n:Int}(h:0≤n):NiceT [Go.Lib.itoa n]:=Qah λw hw e=>by
 obtain⟨u,rfl⟩:=Int.eq_ofNat_of_zero_le h
 have:=(Q8P w hw).2.2.2
 rw[←e,Go.Lib.itoa_nonneg,Qii] at this;cases this
theorem Qg6(n:Int):NiceT (digT n)∧textB (digT n)=digS n:=by
 unfold digT digS
 cases h:decide (n<0) with
 |true=>
   have:=of_decide_eq_true h
   have hi:=Qei (n:=-n) (by omega)
   refine⟨hi.glue (m:=[126]) (by decide),?_⟩
   have:=QeB (m:=[126]) (by decide) hi
   rw[Qo] at this
   exact this
 |false=>
   have:=of_decide_eq_false h
   exact⟨Qei (by omega),Qo _⟩
theorem QkW(i:Nat):NiceT [varT i]:=.one (Q90 _).2 (Q90 _).1
def PatLaw(p:Pat):Prop:=∀ lv:Int,lv≤2→NiceT (patT p lv)∧textB (patT p lv)=parS (decide (patLv p<lv)) (patS p)
theorem Q9Y{sign sep:Str}(hg:hasL glueL sign=false)(hsep:∀ z,hasL glueL z=false→textGo (some z) [sign]++[32]=sep){L:List (List Str)}(h0:L≠[])(hL:∀ l ∈ L,NiceT l):NiceT ([40]::(joinT sign L true++[[41]]))∧textB ([40]::(joinT sign L true++[[41]]))=40::(joinS sep (L.map textB) true++[41]):=by
 have hN:=NiceT.join sign h0 hL
 refine⟨hN.par true,?_⟩
 have:=Q0V true hN
 simp only[parT,parS,cond_true] at this
 rw[this,Q35 sign sep hg hsep L hL]
theorem Qal:∀ (m:Nat) (p:Pat),p.size≤m→(∀ n ∈ nodesPat p,n.wrong.1=0)→PatLaw p
 |0,.mk _ _ _ _ _ _,h,_=>by simp only[Pat.size] at h;omega
 |m+1,.mk k a nm n kids b,h,hr=>λlv hlv=>by
   simp only[Pat.size] at h
   simp only[nodesPat,List.forall_mem_cons] at hr
   have I:PatIs k n nm kids.length:=Qc5 hr.1
   have kn:∀ u ∈ kids,∀ nd ∈ nodesPat u,nd.wrong.1=0:=by
    have:∀ l:List Pat,(∀ nd ∈ nodesPats l,nd.wrong.1=0)→∀ u ∈ l,∀ nd ∈ nodesPat u,nd.wrong.1=0:=by
     intro l
     induction l with
     |nil=>intro _ u hu;cases hu
     |cons x l ih=>
       intro h u hu nd hn
       simp only[nodesPats] at h
       rcases List.mem_cons.1 hu with rfl | hu
       ·exact h nd (List.mem_append_left _ hn)
       ·exact ih (λnd hn=>h nd (List.mem_append_right _ hn)) u hu nd hn
    exact this kids hr.2
   have HV:∀ u ∈ kids,PatLaw u:=λu hu=>by
    have:=Pat.mem_sizes hu
    exact Qal m u (by omega) (kn u hu)
   have hlev:patLv (.mk k a nm n kids b)=bif decide (k=6) then 0 else bif decide (k=4)&&decide (kids.length>0) then 1 else 2:=rfl
   have h2:decide ((2:Int)<lv)=false:=decide_eq_false (by omega)
   have hk:k=1∨k=2∨k=3∨k=4∨k=5∨k=6:=by have:=I.kind;omega
   rw[hlev]
   rcases hk with rfl | rfl | rfl | rfl | rfl | rfl
   ·simp only[patT,patS,Int.reduceEq,decide_false,decide_true,cond_false,cond_true,Bool.false_and,h2,parS]
    exact⟨.one (by decide) (by decide),Qo _⟩
   ·have hz:decide (kids.length>0)=false:=decide_eq_false (by have:=I.bare (.inr (.inl rfl));omega)
    simp only[patT,patS,Int.reduceEq,decide_false,decide_true,cond_false,cond_true,Bool.false_and,h2,parS,hz]
    exact⟨Q5s (I.var rfl),Qo _⟩
   ·simp only[patT,patS,Int.reduceEq,decide_false,decide_true,cond_false,cond_true,Bool.false_and,h2,parS]
    exact Qg6 n
   ·have hc:=(I.con rfl).1
    cases hz:decide (kids.length>0) with
    |false=>
      simp only[patT,patS,Int.reduceEq,decide_false,decide_true,cond_false,cond_true,Bool.true_and,h2,parS,hz]
      exact⟨Q8O hc,Qo _⟩
    |true=>
      obtain⟨x,rfl⟩:∃ x,kids=[x]:=by
       have h1:=(I.con rfl).2
       have h3:=of_decide_eq_true hz
       match kids,h1,h3 with
       |[x],_,_=>exact⟨x,rfl⟩
       |_::_::_,h,_=>simp at h;omega
      obtain⟨a1,a2⟩:=HV x (by simp) 2 (by decide)
      have hN:=(Q8O hc).append a1
      have ht:=Qk (Q8O hc) a1
      rw[Qo,a2] at ht
      simp only[patT,patS,patTs,patSs,Int.reduceEq,decide_false,decide_true,cond_false,cond_true,Bool.true_and,hz,List.getD_cons_zero]
      exact⟨hN.par _,by rw[Q0V _ hN,ht]⟩
   ·have hne:kids≠[]:=by rintro rfl;have:=(I.tup rfl).1;simp at this
    have hL:∀ l ∈ patTs kids 0,NiceT l:=λl hl=>by
     rw[Q4f] at hl
     obtain⟨u,hu,rfl⟩:=List.mem_map.1 hl
     exact (HV u hu 0 (by decide)).1
    have hm:(patTs kids 0).map textB=patSs kids 0:=by
     rw[Q4f,Q5P,List.map_map]
     exact List.map_congr_left λu hu=>(HV u hu 0 (by decide)).2
    obtain⟨t1,t2⟩:=Q9Y (sign:=[44]) (by decide) Q7F (L:=patTs kids 0) (by rw[Q4f];simpa using hne) hL
    simp only[patT,patS,Int.reduceEq,decide_false,decide_true,cond_false,cond_true,Bool.false_and,h2,parS]
    exact⟨t1,by rw[t2,hm]⟩
   ·obtain⟨x,rfl⟩:∃ x,kids=[x]:=by
     have h1:=(I.as_ rfl).2
     match kids,h1 with
     |[x],_=>exact⟨x,rfl⟩
     |[],h=>simp at h
     |_::_::_,h=>simp at h;omega
    obtain⟨a1,a2⟩:=HV x (by simp) 0 (by decide)
    have hp0:parS (decide (patLv x<0)) (patS x)=patS x:=by
     have:decide (patLv x<0)=false:=by
      unfold patLv
      cases decide (x.kind=6) <;> cases decide (x.kind=4)&&decide (x.kids.length>0) <;> rfl
     rw[this];rfl
    have nw:NiceT [[97,115]]:=.one (by decide) (by decide)
    have nn:=Q5s (I.as_ rfl).1
    have hN:=nn.append (nw.append a1)
    have ht:=Qk nn (nw.append a1)
    rw[Qk nw a1,Qo,Qo,a2] at ht
    simp only[patT,patS,patTs,patSs,Int.reduceEq,decide_false,decide_true,cond_false,cond_true,List.getD_cons_zero]
    refine⟨hN.par _,?_⟩
    have e:([nm,[97,115]]++patT x 0:List Str)=[nm]++([[97,115]]++patT x 0):=rfl
    rw[e,Q0V _ hN,ht]
    rfl
end Go.Am
namespace Go.Am
open Go Go.Proofs.YtgfhplcmcdimiaaGreatDoor
set_option linter.unusedVariables false
def ExpLaw(e:Exp):Prop:=NiceT (expT e)∧textB (expT e)=expS e
def DecLaw(d:Dec):Prop:=NiceT (decT d)∧textB (decT d)=decS d
theorem Q0A:∀ l:List Exp,expTs l=l.map λe=>(expT e,levE e)
 |[]=>by rw[expTs];rfl
 |e::l=>by rw[expTs,Q0A l];rfl
theorem Q0c:∀ l:List Exp,expSs l=l.map λe=>(expS e,levE e)
 |[]=>by rw[expSs];rfl
 |e::l=>by rw[expSs,Q0c l];rfl
theorem Q09:∀ l:List Case,caseTs l=l.map λc=>(patT c.pat 0,expT c.exp,openE c.exp)
 |[]=>by rw[caseTs];rfl
 |.mk p e::l=>by rw[caseTs,Q09 l,caseT1];rfl
theorem Q08:∀ l:List Case,caseSs l=l.map λc=>(patS c.pat,expS c.exp,openE c.exp)
 |[]=>by rw[caseSs];rfl
 |.mk p e::l=>by rw[caseSs,Q08 l,caseS1];rfl
theorem Q5K:∀ l:List Dec,decTs l=l.map decT
 |[]=>by rw[decTs];rfl
 |d::l=>by rw[decTs,Q5K l];rfl
theorem Q2T:∀ l:List Dec,decSs l=l.map decS
 |[]=>by rw[decSs];rfl
 |d::l=>by rw[decSs,Q2T l];rfl
def funT(f:Fun):List Str:=[f.name]++(patT f.case.pat 2++([[61]]++expT f.case.exp))
def funS(f:Fun):Str:=f.name++(32::(parS (decide (patLv f.case.pat<2)) (patS f.case.pat)++([32,61,32]++expS f.case.exp)))
theorem Q5M:∀ l:List Fun,funTs l=l.map funT
 |[]=>by rw[funTs];rfl
 |.mk nm a (.mk p e)::l=>by rw[funTs,Q5M l,funT1,funC];rfl
theorem Q5L:∀ l:List Fun,funSs l=l.map funS
 |[]=>by rw[funSs];rfl
 |.mk nm a (.mk p e)::l=>by rw[funSs,Q5L l,funS1,funCS];rfl
theorem Q0L{kids:List Exp}(H:∀ e ∈ kids,ExpLaw e){i:Nat}(hi:i<kids.length)(lv:Int):NiceT (atT (expTs kids) i lv)∧textB (atT (expTs kids) i lv)=atS (expSs kids) i lv:=by
 have h1:(expTs kids).getD i ([],9)=(expT kids[i],levE kids[i]):=by rw[Q0A];simp[List.getD_eq_getElem?_getD,hi]
 have h2:(expSs kids).getD i ([],9)=(expS kids[i],levE kids[i]):=by rw[Q0c];simp[List.getD_eq_getElem?_getD,hi]
 obtain⟨a,b⟩:=H kids[i] (List.getElem_mem hi)
 unfold atT atS
 rw[h1,h2]
 exact⟨a.par _,by rw[Q0V _ a,b]⟩
theorem Q6R{kids:List Exp}(H:∀ e ∈ kids,ExpLaw e){i:Nat}(hi:i<kids.length):NiceT ((expTs kids).getD i ([],9)).1∧textB ((expTs kids).getD i ([],9)).1=((expSs kids).getD i ([],9)).1:=by
 have h1:(expTs kids).getD i ([],9)=(expT kids[i],levE kids[i]):=by rw[Q0A];simp[List.getD_eq_getElem?_getD,hi]
 have h2:(expSs kids).getD i ([],9)=(expS kids[i],levE kids[i]):=by rw[Q0c];simp[List.getD_eq_getElem?_getD,hi]
 rw[h1,h2]
 exact H kids[i] (List.getElem_mem hi)
theorem QfY{kids:List Exp}(H:∀ e ∈ kids,ExpLaw e)(h0:kids≠[]):(expTs kids).map (·.1)≠[]∧(∀ l ∈ (expTs kids).map (·.1),NiceT l)∧((expTs kids).map (·.1)).map textB=(expSs kids).map (·.1):=by
 rw[Q0A,Q0c,List.map_map,List.map_map,List.map_map]
 refine⟨by simpa using h0,λl hl=>?_,List.map_congr_left λe he=>(H e he).2⟩
 obtain⟨e,he,rfl⟩:=List.mem_map.1 hl
 exact (H e he).1
structure CaseLaw (x:List Str × List Str × Bool) (y:Str × Str × Bool):Prop where
 p:NiceT x.1∧textB x.1=y.1
 e:NiceT x.2.1∧textB x.2.1=y.2.1
 o:x.2.2=y.2.2
theorem nw(m:Str)(h1:hasL glueR m=false:=by decide)(h2:hasL glueL m=false:=by decide):NiceT [m]:=.one h1 h2
theorem QdO:∀ (X:List (List Str × List Str × Bool)) (Y:List (Str × Str × Bool)) (f:Bool),X.length=Y.length→(∀ i (h:i<X.length) (h':i<Y.length),CaseLaw X[i] Y[i])→(∀ l ∈ caseT X f,NiceT l)∧(caseT X f).map textB=caseS Y f
 |[],[],f,_,_=>by simp[caseT,caseS]
 |(p,e,o)::X,(p',e',o')::Y,f,hl,H=>by
   obtain⟨⟨h1,h2⟩,⟨h3,h4⟩,h5⟩:CaseLaw (p,e,o) (p',e',o'):=H 0 (by simp) (by simp)
   simp only at h1 h2 h3 h4 h5
   obtain⟨r1,r2⟩:=QdO X Y false (by simpa using hl) (λi h h'=>H (i+1) (by simpa using h) (by simpa using h'))
   have hE:X.isEmpty=Y.isEmpty:=by
    have hl':X.length=Y.length:=by simpa using hl
    cases X <;> cases Y <;> simp_all
   have hN:=h1.append ((nw [61,62]).append (h3.par (!X.isEmpty&&o)))
   simp only[caseT,caseS,List.map_cons,r2]
   refine⟨List.forall_mem_cons.2 ⟨hN,r1⟩,?_⟩
   congr 1
   rw[Qk h1 ((nw [61,62]).append (h3.par _)),Qk (nw [61,62]) (h3.par _),Q0V _ h3,Qo]
   rw[h2,h4,h5,hE]
   rfl
 |[],_::_,_,h,_=>by simp at h
 |_::_,[],_,h,_=>by simp at h
theorem Q8y{cs:List Case}(h0:cs≠[])(H:∀ c ∈ cs,PatLaw c.pat∧ExpLaw c.exp):NiceT (joinT [124] (caseT (caseTs cs) true) true)∧textB (joinT [124] (caseT (caseTs cs) true) true)=joinS [32,124,32] (caseS (caseSs cs) true) true:=by
 obtain⟨h1,h2⟩:=QdO (caseTs cs) (caseSs cs) true (by rw[Q09,Q08,List.length_map,List.length_map]) (λi h h'=>by
  rw[Q09,List.length_map] at h
  obtain⟨hp,he⟩:=H cs[i] (List.getElem_mem h)
  obtain⟨p1,p2⟩:=hp 0 (by decide)
  have hp0:parS (decide (patLv cs[i].pat<0)) (patS cs[i].pat)=patS cs[i].pat:=by
   have:decide (patLv cs[i].pat<0)=false:=by
    unfold patLv
    cases decide (cs[i].pat.kind=6) <;> cases decide (cs[i].pat.kind=4)&&decide (cs[i].pat.kids.length>0) <;> rfl
   rw[this];rfl
  rw[hp0] at p2
  simp only[Q09,Q08,List.getElem_map]
  exact⟨⟨p1,p2⟩,he,rfl⟩)
 have hne:caseT (caseTs cs) true≠[]:=by
  rw[Q09]
  cases cs with
  |nil=>exact absurd rfl h0
  |cons c l=>simp[caseT]
 refine⟨.join _ hne h1,?_⟩
 rw[Q35 [124] [32,124,32] (by decide) (λz hz=>by
  simp only[textGo,sepB,hz]
  rw[show hasL glueR [124]=false by decide];rfl) _ h1,h2]
theorem QfA:∀ (ds:List Dec),(∀ d ∈ ds,DecLaw d)→∀ c:List Str,NiceT c→NiceT ((decTs ds).flatten++c)∧textB ((decTs ds).flatten++c)=((decSs ds).map (· ++ [32])).flatten++textB c
 |[],_,c,hc=>by simpa [Q5K,Q2T] using hc
 |d::ds,H,c,hc=>by
   obtain⟨h1,h2⟩:=H d List.mem_cons_self
   obtain⟨r1,r2⟩:=QfA ds (λx hx=>H x (List.mem_cons_of_mem _ hx)) c hc
   rw[Q5K] at r1
   rw[Q5K,Q2T] at r2 ⊢
   simp only[List.map_cons,List.flatten_cons,List.append_assoc]
   refine⟨h1.append r1,?_⟩
   rw[Qk h1 r1,r2,h2]
   simp
theorem Qmu{n:Int}(h:1≤n∧n≤9):NiceT [opN n]:=by
 have:n=1∨n=2∨n=3∨n=4∨n=5∨n=6∨n=7∨n=8∨n=9:=by omega
 rcases this with rfl | rfl | rfl | rfl | rfl | rfl | rfl | rfl | rfl <;> exact .one (by decide) (by decide)
def bigV:Int:=9223372036854775808
mutual
theorem Qi1:∀ (t:Ty) (lv:Int),VarOK t→typT (rebT (showF bigV) t) lv=typT t lv
 |.mk k n nm ags b,lv,hp=>by
   unfold VarOK at hp
   simp only[allTy,Bool.and_eq_true] at hp
   simp only[rebT]
   cases hk:decide (k=1) with
   |true=>
     have hn:=Q7p hp.1 hk
     simp only[Bool.and_eq_true,decide_eq_true_eq] at hn
     have:showF bigV n=tvar n:=by
      unfold showF
      rw[decide_eq_true (show n<bigV by unfold bigV;omega)];rfl
     simp only[cond_true,this,tvar,typT,hk,decide_true]
   |false=>
     have h0:=Q8Y ags 0 hp.2
     have h1:=Q8Y ags 1 hp.2
     have h2:=Q8Y ags 2 hp.2
     simp only[cond_false,typT,hk,h0,h1,h2,Qeq]
theorem Q8Y:∀ (l:List Ty) (lv:Int),allTys (varB λn=>decide (0≤n)&&decide (n≤9223372036854775807)) l=true→typTs (rebTs (showF bigV) l) lv=typTs l lv
 |[],_,_=>rfl
 |t::l,lv,hp=>by
   simp only[allTys,Bool.and_eq_true] at hp
   simp only[rebTs,typTs,Qi1 t lv hp.1,Q8Y l lv hp.2]
end
theorem QdE{t:Ty}(hg:allTy goodB t=true)(hp:VarOK t):NiceT (typT t 0)∧textB (typT t 0)=txt10 bigV t:=by
 have h:=Qev bigV (by decide) t.size t (Nat.le_refl _) hg hp 0 (by decide)
 rw[Qi1 t 0 hp] at h
 refine⟨h.1,?_⟩
 rw[h.2]
 have hle:decide (levelT t<0)=false:=by
  unfold levelT
  cases decide (t.kind=2)&&decide (t.name=[45,62]) <;> cases decide (t.kind=2)&&decide (t.name=[42]) <;> rfl
 unfold at10 parS
 rw[hle];rfl
theorem Qlk{t:Ty}(hg:allTy goodB t=true)(hp:VarOK t):NiceT (typT t 0):=(QdE hg hp).1
theorem Qm4(c:Con)(hr:∀ n ∈ nodesCon c,n.wrong.1=0)(hp:VarOK c.arg):NiceT (conT c)∧textB (conT c)=conS c:=by
 have hw:wrongConB c=0:=hr (.con c) (by unfold nodesCon;exact List.mem_cons_self)
 have hcap:capB c.name=true:=by
  unfold wrongConB at hw
  grind
 unfold conT conS
 cases hh:c.has with
 |false=>exact⟨Q8N hcap,Qo _⟩
 |true=>
   have hg:allTy goodB c.arg=true:=Q5r c.at_ c.arg λn hn=>hr n (by unfold nodesCon;rw[hh];exact List.mem_cons_of_mem _ hn)
   have nt:=Qlk hg hp
   simp only[cond_true]
   have e:([c.name,[111,102]]++typT c.arg 0:List Str)=[c.name]++([[111,102]]++typT c.arg 0):=rfl
   rw[e]
   refine⟨(Q8N hcap).append ((nw [111,102]).append nt),?_⟩
   rw[Qk (Q8N hcap) ((nw [111,102]).append nt),Qk (nw [111,102]) nt,Qo,Qo]
   rfl
theorem Ql0(n:Int)(h:0≤n)(c:List Str)(hc:NiceT c):NiceT (parmT n++c)∧textB (parmT n++c)=parmS n++textB c:=by
 unfold parmT parmS
 by_cases h0:n=0
 ·subst h0
  exact⟨by simpa using hc,by simp⟩
 ·rw[decide_eq_true (show n>0 by omega),decide_eq_false h0,cond_true,cond_false]
  have hL:∀ l ∈ (List.range n.toNat).map λi=>[varT i],NiceT l:=λl hl=>by
   obtain⟨i,-,rfl⟩:=List.mem_map.1 hl
   exact QkW i
  have hne:((List.range n.toNat).map λi=>[varT i])≠[]:=by simp;omega
  have hN:=NiceT.join [44] hne hL
  have hm:((List.range n.toNat).map λi=>[varT i]).map textB=(List.range n.toNat).map varT:=by
   rw[List.map_map]
   exact List.map_congr_left λi _=>Qo _
  refine⟨(hN.par _).append hc,?_⟩
  rw[Qk (hN.par _) hc,Q0V _ hN,Q35 [44] [44,32] (by decide) Q7F _ hL,hm]
  simp
def NumCons(l:List Con):Prop:=∀ c ∈ l,c.has=true→VarOK c.arg
theorem Qd7(e:Exp):levE e=bif decide (e.kind=12) || decide (e.kind=5) || decide (e.kind=8) || decide (e.kind=9) then 0
 else bif decide (e.kind=18) then 1 else bif decide (e.kind=11) then 2 else bif decide (e.kind=15) then 3 else bif decide (e.kind=14) then 4
 else bif decide (e.kind=6) || decide (e.kind=16) || decide (e.kind=17) || decide (e.kind=19) then 8
 else bif decide (e.kind=13) then (bif decide (e.n≥6) then 5 else bif decide (e.n≤2) then 6 else 7)
 else bif decide (e.kind=3)&&decide (e.kids.length>0) then 8 else 9:=rfl
theorem QhW(a b:Bool)(s:Str)(h:a=true→b=false):parS a (parS b s)=parS (b || a) s:=by
 cases a <;> cases b <;> first | rfl | (have:=h rfl;cases this)
theorem QcJ{α:Type}{l:List α}(h:l.length=2):∃ x y,l=[x,y]:=by
 match l,h with
 |[x,y],_=>exact⟨x,y,rfl⟩
theorem Qgf{α:Type}{l:List α}(h:l.length=1):∃ x,l=[x]:=by
 match l,h with
 |[x],_=>exact⟨x,rfl⟩
theorem QkC(k a:Int)(nm:Str)(n:Int)(kids:List Exp)(kb:Bool)(cs:List Case)(cb:Bool)(ds:List Dec)(db:Bool)(I:ExpIs k n nm kids.length cs.length ds.length)
  (HK:∀ e ∈ kids,ExpLaw e) (HC:∀ c ∈ cs,PatLaw c.pat∧ExpLaw c.exp) (HD:∀ d ∈ ds,DecLaw d):ExpLaw (.mk k a nm n kids kb cs cb ds db):=by
 have hk:k=1∨k=2∨k=3∨k=4∨k=5∨k=6∨k=7∨k=8∨k=9∨k=10∨k=11∨k=12∨k=13∨k=14∨k=15∨k=16∨k=17∨k=18∨k=19∨k=20:=by have:=I.kind;omega
 unfold ExpLaw
 rw[expT,expS]
 rcases hk with rfl | rfl | rfl | rfl | rfl | rfl | rfl | rfl | rfl | rfl | rfl | rfl | rfl | rfl | rfl | rfl | rfl | rfl | rfl | rfl <;> simp only[Int.reduceEq,decide_true,decide_false,cond_true,cond_false]
 ·exact Qg6 n
 ·exact⟨Q5s (I.var rfl),Qo _⟩
 ·have hc:=Q8O (I.con rfl).1
  by_cases hz:kids.length=0
  ·rw[decide_eq_true hz,decide_eq_false (show ¬ kids.length>0 by omega)]
   exact⟨hc,Qo _⟩
  ·rw[decide_eq_false hz,decide_eq_true (show kids.length>0 by omega)]
   obtain⟨h1,h2⟩:=Q0L HK (i:=0) (by omega) 9
   simp only[cond_true,cond_false]
   exact⟨hc.append h1,by rw[Qk hc h1,Qo,h2]⟩
 ·obtain⟨h0,h1,h2⟩:=QfY HK (by rintro rfl;have:=(I.tup rfl).1;simp at this)
  obtain⟨t1,t2⟩:=Q9Y (sign:=[44]) (by decide) Q7F h0 h1
  exact⟨t1,by rw[t2,h2]⟩
 ·have hne:cs≠[]:=by rintro rfl;exact I.fn rfl rfl
  obtain⟨h1,h2⟩:=Q8y hne HC
  exact⟨(nw [102,110]).append h1,by rw[Qk (nw [102,110]) h1,Qo,h2];rfl⟩
 ·obtain⟨x,y,rfl⟩:=QcJ (l:=kids) (by have:=I.two (.inl rfl);omega)
  obtain⟨h1,h2⟩:=Q0L HK (i:=0) (by simp) 8
  obtain⟨h3,h4⟩:=Q0L HK (i:=1) (by simp) 9
  have hb:bareE x=true→decide ((((expSs [x,y]).getD 0 ([],9)).2)<8)=false:=by
   intro hb
   unfold bareE at hb
   simp only[Bool.and_eq_true,decide_eq_true_eq] at hb
   rw[Q0c]
   simp only[List.map_cons,List.getD_cons_zero]
   unfold levE
   simp[hb.1,hb.2.1]
  refine⟨(h1.par _).append h3,?_⟩
  rw[Qk (h1.par _) h3,Q0V _ h1,h2,h4]
  unfold atS
  rw[show ([x,y]:List Exp).headD (.mk 0 0 [] 0 [] true [] true [] true)=x from rfl,QhW _ _ _ hb]
 ·obtain⟨x,rfl⟩:=Qgf (l:=kids) (by have:=(I.letd rfl).1;omega)
  obtain⟨h1,h2⟩:=Q6R HK (i:=0) (by simp)
  have n1:=h1.append (nw [101,110,100])
  have n2:=(nw [105,110]).append n1
  obtain⟨r1,r2⟩:=QfA ds HD _ n2
  refine⟨(nw [108,101,116]).append r1,?_⟩
  rw[Qk (nw [108,101,116]) r1,r2,Qk (nw [105,110]) n1,Qk h1 (nw [101,110,100]),h2,Qo,Qo,Qo]
  simp
 ·have hl:kids.length=3:=by have:=I.if_ rfl;omega
  obtain⟨a1,a2⟩:=Q6R HK (i:=0) (by omega)
  obtain⟨b1,b2⟩:=Q6R HK (i:=1) (by omega)
  obtain⟨c1,c2⟩:=Q6R HK (i:=2) (by omega)
  have n1:=(nw [101,108,115,101]).append c1
  have n2:=b1.append n1
  have n3:=(nw [116,104,101,110]).append n2
  have n4:=a1.append n3
  refine⟨(nw [105,102]).append n4,?_⟩
  rw[Qk (nw [105,102]) n4,Qk a1 n3,Qk (nw [116,104,101,110]) n2,Qk b1 n1,Qk (nw [101,108,115,101]) c1,a2,b2,c2,Qo,Qo,Qo]
  simp
 ·have hne:cs≠[]:=by rintro rfl;exact (I.case_ rfl).2 rfl
  obtain⟨h1,h2⟩:=Q8y hne HC
  obtain⟨a1,a2⟩:=Q6R HK (i:=0) (by have:=(I.case_ rfl).1;omega)
  have n1:=(nw [111,102]).append h1
  have n2:=a1.append n1
  refine⟨(nw [99,97,115,101]).append n2,?_⟩
  rw[Qk (nw [99,97,115,101]) n2,Qk a1 n1,Qk (nw [111,102]) h1,a2,h2,Qo,Qo]
  simp
 ·obtain⟨h0,h1,h2⟩:=QfY HK (by rintro rfl;have:=I.seq rfl;simp at this)
  obtain⟨t1,t2⟩:=Q9Y (sign:=[59]) (sep:=[59,32]) (by decide) (λz hz=>by
   simp only[textGo,sepB,hz]
   rw[show hasL glueR [59]=true by decide];rfl) h0 h1
  exact⟨t1,by rw[t2,h2]⟩
 ·have hne:cs≠[]:=by rintro rfl;exact (I.try_ rfl).2 rfl
  obtain⟨h1,h2⟩:=Q8y hne HC
  obtain⟨a1,a2⟩:=Q0L HK (i:=0) (by have:=(I.try_ rfl).1;omega) 3
  have n1:=(nw [104,97,110,100,108,101]).append h1
  refine⟨a1.append n1,?_⟩
  rw[Qk a1 n1,Qk (nw [104,97,110,100,108,101]) h1,a2,h2,Qo]
  simp
 ·obtain⟨a1,a2⟩:=Q6R HK (i:=0) (by have:=I.one (.inl rfl);omega)
  exact⟨(nw [114,97,105,115,101]).append a1,by rw[Qk (nw [114,97,105,115,101]) a1,Qo,a2];rfl⟩
 ·obtain⟨hl,hn⟩:=I.op rfl
  have no:=Qmu hn
  have fin:∀ l r,(NiceT (atT (expTs kids) 0 l++([opN n]++atT (expTs kids) 1 r))∧textB (atT (expTs kids) 0 l++([opN n]++atT (expTs kids) 1 r))=atS (expSs kids) 0 l++(32::(opN n++(32::atS (expSs kids) 1 r)))):=λl r=>by
   obtain⟨a1,a2⟩:=Q0L HK (i:=0) (by omega) l
   obtain⟨b1,b2⟩:=Q0L HK (i:=1) (by omega) r
   refine⟨a1.append (no.append b1),?_⟩
   rw[Qk a1 (no.append b1),Qk no b1,a2,b2,Qo]
  cases decide (n≥6) with
  |true=>exact fin 6 6
  |false=>
    cases decide (n≤2) with
    |true=>exact fin 6 7
    |false=>exact fin 7 8
 ·have hl:kids.length=2:=by have:=I.two (.inr (.inl rfl));omega
  obtain⟨a1,a2⟩:=Q0L HK (i:=0) (by omega) 5
  obtain⟨b1,b2⟩:=Q0L HK (i:=1) (by omega) 4
  have n1:=(nw [97,110,100,97,108,115,111]).append b1
  refine⟨a1.append n1,?_⟩
  rw[Qk a1 n1,Qk (nw [97,110,100,97,108,115,111]) b1,a2,b2,Qo]
  simp
 ·have hl:kids.length=2:=by have:=I.two (.inr (.inr (.inl rfl)));omega
  obtain⟨a1,a2⟩:=Q0L HK (i:=0) (by omega) 4
  obtain⟨b1,b2⟩:=Q0L HK (i:=1) (by omega) 3
  have n1:=(nw [111,114,101,108,115,101]).append b1
  refine⟨a1.append n1,?_⟩
  rw[Qk a1 n1,Qk (nw [111,114,101,108,115,101]) b1,a2,b2,Qo]
  simp
 ·obtain⟨a1,a2⟩:=Q0L HK (i:=0) (by have:=I.one (.inr (.inl rfl));omega) 9
  exact⟨(nw [114,101,102]).append a1,by rw[Qk (nw [114,101,102]) a1,Qo,a2];rfl⟩
 ·obtain⟨a1,a2⟩:=Q0L HK (i:=0) (by have:=I.one (.inr (.inr (.inl rfl)));omega) 9
  exact⟨a1.glue (by decide),by rw[QeB (by decide) a1,a2]⟩
 ·obtain⟨x,y,rfl⟩:=QcJ (l:=kids) (by have:=I.two (.inr (.inr (.inr rfl)));omega)
  obtain⟨h1,h2⟩:=Q0L HK (i:=0) (by simp) 2
  obtain⟨h3,h4⟩:=Q0L HK (i:=1) (by simp) 1
  have hb:decide (x.kind=11)=true→decide ((((expSs [x,y]).getD 0 ([],9)).2)<2)=false:=by
   intro hb
   have hb:=of_decide_eq_true hb
   rw[Q0c]
   simp only[List.map_cons,List.getD_cons_zero]
   unfold levE
   simp[hb]
  have n1:=(nw [58,61]).append h3
  refine⟨(h1.par _).append n1,?_⟩
  rw[Qk (h1.par _) n1,Qk (nw [58,61]) h3,Q0V _ h1,h2,h4,Qo]
  unfold atS
  rw[show ([x,y]:List Exp).headD (.mk 0 0 [] 0 [] true [] true [] true)=x from rfl,QhW _ _ _ hb]
  simp
 ·obtain⟨a1,a2⟩:=Q0L HK (i:=0) (by have:=I.one (.inr (.inr (.inr rfl)));omega) 9
  exact⟨(nw [112,114,105,110,116]).append a1,by rw[Qk (nw [112,114,105,110,116]) a1,Qo,a2];rfl⟩
 ·exact⟨⟨⟨[114,101,97,100],[[40],[41]],rfl,by decide⟩,⟨[[114,101,97,100],[40]],[41],rfl,by decide⟩⟩,by decide⟩
theorem Qkv(k a:Int)(nm:Str)(p:Int)(cons:List Con)(nb:Bool)(cs:List Case)(cb:Bool)(fs:List Fun)(fb:Bool)(inn:Bool)(I:DecIs k nm p cons.length cs.length fs.length inn)
  (HC:∀ c ∈ cs,PatLaw c.pat∧ExpLaw c.exp) (HF:∀ f ∈ fs,lowB f.name=true∧PatLaw f.case.pat∧ExpLaw f.case.exp) (HN:∀ c ∈ cons,NiceT (conT c)∧textB (conT c)=conS c):DecLaw (.mk k a nm p cons nb cs cb fs fb):=by
 unfold DecLaw
 rw[decT,decS]
 have hcons:(cons.map conT).map textB=cons.map conS:=by
  rw[List.map_map]
  exact List.map_congr_left λc hc=>(HN c hc).2
 have hconsN:∀ l ∈ cons.map conT,NiceT l:=λl hl=>by
  obtain⟨c,hc,rfl⟩:=List.mem_map.1 hl
  exact (HN c hc).1
 rcases I.kind with rfl | rfl | rfl | rfl <;> simp only[Int.reduceEq,decide_true,decide_false,cond_true,cond_false]
 ·obtain⟨c,rfl⟩:=Qgf (l:=cs) (by have:=(I.val rfl).1;omega)
  obtain⟨pt,ex,rfl⟩:∃ p e,c=Case.mk p e:=by cases c with | mk p e=>exact⟨p,e,rfl⟩
  obtain⟨hp,h3,h4⟩:PatLaw pt∧ExpLaw ex:=HC _ List.mem_cons_self
  obtain⟨h1,h2⟩:=hp 0 (by decide)
  have hp0:parS (decide (patLv pt<0)) (patS pt)=patS pt:=by
   have:decide (patLv pt<0)=false:=by
    unfold patLv
    cases decide (pt.kind=6) <;> cases decide (pt.kind=4)&&decide (pt.kids.length>0) <;> rfl
   rw[this];rfl
  rw[hp0] at h2
  simp only[Q09,Q08,List.map_cons,List.map_nil,List.headD_cons,Case.pat,Case.exp]
  have n1:=(nw [61]).append h3
  refine⟨(nw [118,97,108]).append (h1.append n1),?_⟩
  rw[Qk (nw [118,97,108]) (h1.append n1),Qk h1 n1,Qk (nw [61]) h3,h2,h4,Qo,Qo]
  simp
 ·have hne:fs≠[]:=by rintro rfl;have:=(I.fn rfl).2.2;simp at this
  have hL:∀ f ∈ fs,NiceT (funT f)∧textB (funT f)=funS f:=λf hf=>by
   obtain⟨h0,hp,h3,h4⟩:=HF f hf
   obtain⟨h1,h2⟩:=hp 2 (by decide)
   have n0:=Q5s h0
   have n1:=(nw [61]).append h3
   unfold funT funS
   refine⟨n0.append (h1.append n1),?_⟩
   rw[Qk n0 (h1.append n1),Qk h1 n1,Qk (nw [61]) h3,h2,h4,Qo,Qo]
   simp
  rw[Q5M,Q5L]
  have h1:∀ l ∈ fs.map funT,NiceT l:=λl hl=>by
   obtain⟨f,hf,rfl⟩:=List.mem_map.1 hl
   exact (hL f hf).1
  have h2:(fs.map funT).map textB=fs.map funS:=by
   rw[List.map_map]
   exact List.map_congr_left λf hf=>(hL f hf).2
  have n1:=NiceT.join [97,110,100] (L:=fs.map funT) (by simpa using hne) h1
  refine⟨(nw [102,117,110]).append n1,?_⟩
  rw[Qk (nw [102,117,110]) n1,Q35 [97,110,100] [32,97,110,100,32] (by decide) (λz hz=>by
   simp only[textGo,sepB,hz]
   rw[show hasL glueR [97,110,100]=false by decide];rfl) _ h1,h2,Qo]
  rfl
 ·obtain⟨-,-,hp0,-,hlow,hnl,-⟩:=I.data rfl
  have hne:cons.map conT≠[]:=by simp;rintro rfl;simp at hnl
  have n1:=NiceT.join [124] hne hconsN
  have n2:=(nw [61]).append n1
  have n3:=(Q5s hlow).append n2
  obtain⟨r1,r2⟩:=Ql0 p hp0 _ n3
  have e:(parmT p++([nm,[61]]++joinT [124] (cons.map conT) true):List Str)=parmT p++([nm]++([[61]]++joinT [124] (cons.map conT) true)):=by simp
  rw[e]
  refine⟨(nw [100,97,116,97,116,121,112,101]).append r1,?_⟩
  rw[Qk (nw [100,97,116,97,116,121,112,101]) r1,r2,Qk (Q5s hlow) n2,Qk (nw [61]) n1,Q35 [124] [32,124,32] (by decide) (λz hz=>by
   simp only[textGo,sepB,hz]
   rw[show hasL glueR [124]=false by decide];rfl) _ hconsN,hcons,Qo,Qo,Qo]
  simp
 ·obtain⟨c,rfl⟩:=Qgf (l:=cons) (by have:=(I.exn rfl).2.2;omega)
  obtain⟨h1,h2⟩:=HN c List.mem_cons_self
  simp only[List.map_cons,List.map_nil,List.headD_cons]
  exact⟨(nw [101,120,99,101,112,116,105,111,110]).append h1,by rw[Qk (nw [101,120,99,101,112,116,105,111,110]) h1,Qo,h2];rfl⟩
theorem Q1N:∀ {l:List Con} {c:Con},c ∈ l→∀ n ∈ nodesCon c,n ∈ nodesCons l
 |x::l,c,h,n,hn=>by
   simp only[nodesCons,List.mem_append]
   rcases List.mem_cons.1 h with rfl | h
   ·exact .inl hn
   ·exact .inr (Q1N h n hn)
theorem Qd1{fs:List Fun}(h:RN (nodesFuns fs)):∀ f ∈ fs,lowB f.name=true:=by
 intro f hf
 have:∀ l:List Fun,RN (nodesFuns l)→f ∈ l→lowB f.name=true:=by
  intro l
  induction l with
  |nil=>intro _ h;cases h
  |cons x l ih=>
    intro h hf
    simp only[nodesFuns] at h
    rcases List.mem_cons.1 hf with rfl | hf
    ·have:=h.l
     cases hq:f with
     |mk nm a c=>
       rw[hq] at this
       simp only[nodesFun] at this
       have h1:=this (.fn (.mk nm a c)) List.mem_cons_self
       simp only[TNode.wrong,Fun.name] at h1
       cases hb:lowB nm with
       |true=>exact hb
       |false=>rw[hb] at h1;cases h1
    ·exact ih h.r hf
 exact this fs h hf
theorem QcU:∀ m:Nat,(∀ e:Exp,e.size≤m→RN (nodesExp e)→ExpLaw e)∧(∀ d:Dec,∀ i:Bool,d.size≤m→RN (nodesDec i d)→(i=true∨NumCons d.cons)→DecLaw d)
 |0=>⟨λe h=>by cases e;simp only[Exp.size] at h;omega,λd i h=>by cases d;simp only[Dec.size] at h;omega⟩
 |m+1=>by
   obtain⟨HE,HD⟩:=QcU m
   have HC:∀ cs:List Case,Case.sizes cs≤m→RN (nodesCases cs)→∀ c ∈ cs,PatLaw c.pat∧ExpLaw c.exp:=λcs hs hr c hc=>by
    have h1:=Case.mem_sizes hc
    have h2:=RN.cases hr c hc
    cases c with
    |mk p e=>
      simp only[Case.size] at h1
      simp only[nodesCase] at h2
      exact⟨Qal p.size p (Nat.le_refl _) h2.l,HE e (by omega) h2.r⟩
   refine⟨λe h hr=>?_,λd i h hr hn=>?_⟩
   ·cases e with
    |mk k a nm n kids kb cs cb ds db=>
      simp only[Exp.size] at h
      simp only[nodesExp] at hr
      have I:ExpIs k n nm kids.length cs.length ds.length:=Q9D (hr _ List.mem_cons_self)
      have hr':=hr.t
      refine QkC k a nm n kids kb cs cb ds db I (λe he=>?_) (HC cs (by omega) hr'.r.r) (λd hd=>?_)
      ·have:=Exp.mem_sizes he
       exact HE e (by omega) (RN.exps hr'.r.l e he)
      ·have:=Dec.mem_sizes hd
       exact HD d true (by omega) (RN.decs hr'.l d hd) (.inl rfl)
   ·cases d with
    |mk k a nm p cons nb cs cb fs fb=>
      simp only[Dec.size] at h
      simp only[nodesDec] at hr
      have I:DecIs k nm p cons.length cs.length fs.length i:=Q9y (hr _ List.mem_cons_self)
      have hr':=hr.t
      refine Qkv k a nm p cons nb cs cb fs fb i I (HC cs (by omega) hr'.l) (λf hf=>?_) (λc hc=>?_)
      ·have h1:=Fun.mem_sizes hf
       have h2:=RN.funs hr'.r.l f hf
       refine⟨Qd1 hr'.r.l f hf,?_⟩
       cases f with
       |mk nm' a' c'=>
         cases c' with
         |mk p' e'=>
           simp only[Fun.size,Case.size] at h1
           simp only[Fun.case,nodesCase] at h2
           exact⟨Qal p'.size p' (Nat.le_refl _) h2.l,HE e' (by omega) h2.r⟩
      ·have h1:∀ n ∈ nodesCon c,n.wrong.1=0:=λn hn=>hr'.r.r n (Q1N hc n hn)
       rcases hn with rfl | hn
       ·have hz:cons=[]:=by
         rcases I.inn rfl with h2 | h2
         ·exact len0 (I.val h2).2.2
         ·exact len0 (I.fn h2).2.1
        rw[hz] at hc;cases hc
       ·cases hh:c.has with
        |true=>exact Qm4 c h1 (hn c hc hh)
        |false=>
          have hw:wrongConB c=0:=h1 (.con c) (by unfold nodesCon;exact List.mem_cons_self)
          have hcap:capB c.name=true:=by
           unfold wrongConB at hw
           grind
          unfold conT conS
          rw[hh]
          exact⟨Q8N hcap,Qo _⟩
end Go.Am
namespace Go.Am
open Go
theorem Qgg(e:Exp):openE e =
  bif decide (e.kind=5) || decide (e.kind=9) || decide (e.kind=11) then true
  else bif decide (e.kind=12) || decide (e.kind=8) then (openEs e.kids).getLastD false
  else bif decide (e.kind=18) then decide ((e.kids.map levE).getD 1 0>0)&&(openEs e.kids).getD 1 false
  else false:=by cases e;rw[openE];rfl
theorem Q4G:∀ l:List Exp,openEs l=l.map openE
 |[]=>by rw[openEs];rfl
 |e::l=>by rw[openEs,Q4G l];rfl
end Go.Am
namespace Go.Proofs.YtgfhplcmcdimiaaGreatDoor
open Go Go.Am
set_option linter.unusedVariables false
set_option maxRecDepth 4000
theorem QjE(k:Nat)(h:k<21)(s:St):ixA 21 1 (.val (.cp glob1)) (.val (.int .i64 (k:Int)))=some (.val (.cp (glob1.drop (k*1))))∧ldV (C.ti Q2) false s (.val (.cp (glob1.drop (k*1))))=some (.val (.int .i64 ([9,9,9,9,9,0,8,9,0,0,9,2,0,5,4,3,8,8,1,8,9].getD k 0))):=by
 match k,h with
 |0,_ | 1,_ | 2,_ | 3,_ | 4,_ | 5,_ | 6,_ | 7,_ | 8,_ | 9,_ | 10,_ | 11,_ | 12,_ | 13,_ | 14,_ | 15,_ | 16,_ | 17,_ | 18,_ | 19,_ | 20,_=>exact⟨by kernel_rfl,by kernel_rfl⟩
 |n+21,h=>omega
theorem QhO{l:List Exp}{n:Nat}(h:l.length=n+1):∃ q,l[n]? = some q∧(l.map openE).getLastD false=openE q:=by
 obtain⟨q,hq⟩:∃ q,l[n]? = some q:=⟨l[n],by simp[h]⟩
 refine⟨q,hq,?_⟩
 rw[List.getLastD_eq_getLast?,List.getLast?_eq_getElem?,List.length_map,h,Nat.add_sub_cancel,List.getElem?_map,hq]
 rfl
theorem Q4O(e:Exp)(hk:1≤e.kind∧e.kind≤20)(s:St):cw (.f Q2O) [e.enc] s=some (.ret (.val (.int .i64 (levE e))),s):=by
 have c:=Exp.cells_eq e
 obtain⟨k,hkn⟩:=Int.eq_ofNat_of_zero_le (show 0≤e.kind by omega)
 have hk21:k<21:=by omega
 obtain⟨f1,f2⟩:=QjE k hk21 s
 generalize Slot.val (.cp (glob1.drop (k*1)))=v at f1 f2
 rw[←hkn] at f1
 rw[Qf5,Qd7]
 have hk':e.kind=1∨e.kind=2∨e.kind=3∨e.kind=4∨e.kind=5∨e.kind=6∨e.kind=7∨e.kind=8∨e.kind=9∨e.kind=10∨e.kind=11∨e.kind=12∨e.kind=13∨e.kind=14∨e.kind=15∨e.kind=16∨e.kind=17∨e.kind=18∨e.kind=19∨e.kind=20:=by omega
 have hlen:decide ((e.kids.length:Int)>0)=decide (e.kids.length>0):=by
  by_cases h:e.kids.length>0
  ·rw[decide_eq_true h,decide_eq_true (by omega)]
  ·rw[decide_eq_false h,decide_eq_false (by omega)]
 by_cases h3:e.kind=3
 ·cases hz:decide (e.kids.length>0) with
  |true=>
    rw[hz] at hlen
    simp only[go_sem,Int.reduceEq,Nat.reduceAdd,c,h3,Q4,List.length_map,hlen,decide_true,decide_false,Int.reduceEq,cond_true,cond_false,Bool.false_or,Bool.true_and]
  |false=>
    rw[hz] at hlen
    obtain rfl:k=3:=by omega
    rw[h3] at f1
    simp only[go_sem,Int.reduceEq,Nat.reduceAdd,c,h3,Q4,List.length_map,hlen,decide_true,decide_false,Int.reduceEq,cond_true,cond_false,Bool.false_or,Bool.true_and,f1,f2]
    rfl
 ·by_cases h13:e.kind=13
  ·obtain rfl:k=13:=by omega
   rw[h13] at f1
   cases h2:decide (e.n≤2) with
   |true=>
     have h6:decide (e.n≥6)=false:=decide_eq_false (by have:=of_decide_eq_true h2;omega)
     simp only[go_sem,Int.reduceEq,Nat.reduceAdd,c,h13,h2,h6,decide_true,decide_false,Int.reduceEq,cond_true,cond_false,Bool.false_or,Bool.true_and]
   |false=>
     cases h5:decide (e.n≤5) with
     |true=>
       have h6:decide (e.n≥6)=false:=decide_eq_false (by have:=of_decide_eq_true h5;omega)
       simp only[go_sem,Int.reduceEq,Nat.reduceAdd,c,h13,h2,h5,h6,decide_true,decide_false,Int.reduceEq,cond_true,cond_false,Bool.false_or,Bool.true_and]
     |false=>
       have h6:decide (e.n≥6)=true:=decide_eq_true (by have:=of_decide_eq_false h5;omega)
       simp only[go_sem,Int.reduceEq,Nat.reduceAdd,c,h13,h2,h5,h6,decide_true,decide_false,Int.reduceEq,cond_true,cond_false,Bool.false_or,Bool.true_and,f1,f2]
       rfl
  ·have hd3:=decide_eq_false h3
   have hd13:=decide_eq_false h13
   simp only[go_sem,Nat.reduceAdd,c,hd3,hd13,f1,f2]
   rcases hk' with h | h | h | h | h | h | h | h | h | h | h | h | h | h | h | h | h | h | h | h <;>
    first
     |exact absurd h h3
     |exact absurd h h13
     | (obtain rfl : k = _ := Int.ofNat.inj (hkn.symm.trans h)
        simp only[h,decide_true,decide_false,Int.reduceEq,cond_true,cond_false,Bool.false_or,Bool.or_false,Bool.true_or,Bool.or_true,Bool.false_and]
        rfl)
theorem ZI(e:Exp){i:Nat}{q:Exp}(hi:e.kids[i]? = some q):ixS 7 (.val (encS e.kb (e.kids.map Exp.enc))) (.val (.int .i64 (i:Int)))=some (.val (.cp q.cells)):=
 Q2A (Q4 _ _) (show (e.kids.map Exp.enc)[i]? = some q.enc by simp[hi]) (Exp.cells_len q) (by decide)
theorem Q7x{e:Exp}(hr:∀ n ∈ nodesExp e,n.wrong.1=0):ExpIs e.kind e.n e.name e.kids.length e.cases.length e.decs.length:=by
 cases e with
 |mk k a nm n kids kb cs cb ds db=>
   rw[nodesExp] at hr
   exact Q9D (hr _ List.mem_cons_self)
theorem QfF{e:Exp}(hr:RN (nodesExp e)):(∀ q ∈ e.kids,RN (nodesExp q))∧(∀ c ∈ e.cases,RN (nodesCase c))∧∀ d ∈ e.decs,RN (nodesDec true d):=by
 cases e with
 |mk k a nm n kids kb cs cb ds db=>
   simp only[nodesExp] at hr
   have h:=hr.t
   exact⟨λq hq=>RN.exps h.r.l q hq,λc hc=>RN.cases h.r.r c hc,λd hd=>RN.decs h.l d hd⟩
theorem Q8B(e:Exp):Exp.sizes e.kids+Case.sizes e.cases+Dec.sizes e.decs+1=e.size:=by cases e;simp only[Exp.size,Exp.kids,Exp.cases,Exp.decs]
theorem Q8h:∀ (m:Nat) (e:Exp),e.size≤m→RN (nodesExp e)→∀ s:St,cw (.f Q0z) [e.enc] s=some (.ret (.val (.bool (openE e))),s)
 |0,e,h,_=>by have:=Q8B e;omega
 |m+1,e,h,hr=>λs=>by
   have hsz:=Q8B e
   have I:=Q7x hr
   obtain⟨hk,-,-⟩:=QfF hr
   have HV:∀ q ∈ e.kids,∀ s,cw (.f Q0z) [q.enc] s=some (.ret (.val (.bool (openE q))),s):=λq hq=>by
    have:=Exp.mem_sizes hq
    exact Q8h m q (by omega) (hk q hq)
   have c:=Exp.cells_eq e
   rw[Qgg,QgF]
   cases h5:decide (e.kind=5) with
   |true=>simp only[go_sem,Nat.reduceAdd,c,h5,Zr,cond_true,cond_false,Bool.true_or,Bool.or_true,Bool.false_or]
   |false=>
     cases h9:decide (e.kind=9) with
     |true=>simp only[go_sem,Nat.reduceAdd,c,h5,h9,Zr,cond_true,cond_false,Bool.true_or,Bool.or_true,Bool.false_or]
     |false=>
       cases h11:decide (e.kind=11) with
       |true=>simp only[go_sem,Nat.reduceAdd,c,h5,h9,h11,Zr,cond_true,cond_false,Bool.true_or,Bool.or_true,Bool.false_or]
       |false=>
         have last:∀ n:Nat,e.kids.length=n+1→∃ q,e.kids[n]? = some q∧(openEs e.kids).getLastD false=openE q:=λn hn=>by
          rw[Q4G];exact QhO hn
         cases h12:decide (e.kind=12) with
         |true=>
           obtain⟨q,hq,hl⟩:=last 0 (by have:=I.one (.inl (of_decide_eq_true h12));omega)
           have f0:=ZI e hq
           have e1:=HV q (List.mem_of_getElem? hq) s
           have hn1:((e.kids.length:Nat):Int)=1:=by have:=I.one (.inl (of_decide_eq_true h12));omega
           have w:IntKind.i64.wrap 0=0:=rfl
           rw[show ((0:Nat):Int)=0 from rfl] at f0
           simp only[Exp.enc] at e1
           simp only[go_sem,Int.reduceSub,Nat.reduceAdd,Nat.reduceLeDiff,c,h5,h9,h11,h12,Zr,Q1h,Q4,List.length_map,hn1,w,f0,e1,hl]
         |false=>
           cases h8:decide (e.kind=8) with
           |true=>
             obtain⟨q,hq,hl⟩:=last 2 (by have:=I.if_ (of_decide_eq_true h8);omega)
             have f0:=ZI e hq
             have e1:=HV q (List.mem_of_getElem? hq) s
             have hn1:((e.kids.length:Nat):Int)=3:=by have:=I.if_ (of_decide_eq_true h8);omega
             have w:IntKind.i64.wrap 2=2:=rfl
             rw[show ((2:Nat):Int)=2 from rfl] at f0
             simp only[Exp.enc] at e1
             simp only[go_sem,Int.reduceSub,Nat.reduceAdd,Nat.reduceLeDiff,c,h5,h9,h11,h12,h8,Zr,Q1h,Q4,List.length_map,hn1,w,f0,e1,hl]
           |false=>
             cases h18:decide (e.kind=18) with
             |true=>
               obtain⟨x,y,hxy⟩:∃ x y,e.kids=[x,y]:=QcJ (by have:=I.two (.inr (.inr (.inr (of_decide_eq_true h18))));omega)
               have f1:=ZI e (i:=1) (q:=y) (by rw[hxy];rfl)
               have hym:y ∈ e.kids:=by rw[hxy];simp
               have Iy:=Q7x (hk y hym)
               have e1:=Q4O y Iy.kind s
               have e2:=HV y hym s
               have a1:(e.kids.map levE).getD 1 0=levE y:=by rw[hxy];rfl
               have a2:(openEs e.kids).getD 1 false=openE y:=by rw[Q4G,hxy];rfl
               have hge:decide (levE y≥1)=decide (levE y>0):=by
                by_cases h:levE y>0
                ·rw[decide_eq_true h,decide_eq_true (by omega)]
                ·rw[decide_eq_false h,decide_eq_false (by omega)]
               rw[show ((1:Nat):Int)=1 from rfl] at f1
               rw[a1,a2]
               simp only[Exp.enc] at e1 e2
               cases hg:decide (levE y>0) with
               |true=>
                 rw[hg] at hge
                 simp only[go_sem,Nat.reduceAdd,Nat.reduceLeDiff,c,h5,h9,h11,h12,h8,h18,Zr,Q1h,f1,e1,hge,e2]
               |false=>
                 rw[hg] at hge
                 simp only[go_sem,Nat.reduceAdd,Nat.reduceLeDiff,c,h5,h9,h11,h12,h8,h18,Zr,Q1h,f1,e1,hge]
             |false=>
               simp only[go_sem,Nat.reduceAdd,c,h5,h9,h11,h12,h8,h18,Zr,Q1h]
end Go.Proofs.YtgfhplcmcdimiaaGreatDoor
namespace Go.Am
open Go
set_option linter.unusedVariables false
theorem lb{b:Bool}{x y:List Str}{N:Nat}(h:x.length≤N)(g:y.length≤N):(bif b then x else y).length≤N:=by cases b <;> assumption
theorem Qm8(n:Int):(digT n).length≤2:=by unfold digT;cases decide (n<0) <;> simp
theorem get3(L:List (List Str × Int)):(L.getD 0 ([],9)).1.length+((L.getD 1 ([],9)).1.length+(L.getD 2 ([],9)).1.length)≤(L.map λx=>x.1.length).sum:=by
 match L with
 |[]=>simp
 |[a]=>simp
 |[a,b]=>simp
 |a::b::c::l=>simp only[List.getD_cons_zero,List.getD_cons_succ,List.map_cons,List.sum_cons];omega
theorem Qj9(L:List (List Str × Int))(i:Nat)(lv:Int):(atT L i lv).length≤(L.getD i ([],9)).1.length+2:=Q1s _ _
theorem QaT(L:List (List Str × Int)):((L.map (·.1)).map (·.length)).sum=(L.map λx=>x.1.length).sum:=by rw[List.map_map];rfl
theorem Q5m:∀ (X:List (List Str × List Str × Bool)) (f:Bool),((caseT X f).map (·.length)).sum+(caseT X f).length≤(X.map λx=>x.1.length+x.2.1.length+4).sum
 |[],f=>by simp[caseT]
 |(p,e,o)::X,f=>by
   have h1:=Q5m X false
   have h2:=Q1s (!X.isEmpty&&o) e
   simp only[caseT,List.map_cons,List.sum_cons,List.length_cons,List.length_append,List.length_nil]
   omega
theorem Qfu(c:Con):(conT c).length+1≤10*c.size:=by
 have:=Q2h c.arg 0
 unfold conT Con.size
 cases c.has with
 |true=>simp only[cond_true,List.length_append,List.length_cons,List.length_nil];omega
 |false=>simp only[cond_false,List.length_cons,List.length_nil];omega
theorem Q9v:∀ l:List Con,((l.map conT).map (·.length)).sum+l.length≤10*Con.sizes l
 |[]=>by simp[Con.sizes]
 |c::l=>by
   have h1:=Qfu c
   have h2:=Q9v l
   simp only[List.map_cons,List.sum_cons,List.length_cons,Con.sizes]
   omega
theorem Ql1(n:Int):(parmT n).length≤2*n.toNat+2:=by
 unfold parmT
 refine lb ?_ (by simp)
 have h1:=Q1s (decide (n>1)) (joinT [44] ((List.range n.toNat).map λi=>[varT i]) true)
 have h2:=QN [44] ((List.range n.toNat).map λi=>[varT i]) true
 have h3:(((List.range n.toNat).map λi=>[varT i]).map (·.length)).sum=n.toNat:=by
  have:∀ l:List Nat,((l.map λi=>[varT i]).map (·.length)).sum=l.length:=by
   intro l
   induction l with
   |nil=>rfl
   |cons a l ih=>simp only[List.map_cons,List.sum_cons,ih,List.length_cons,List.length_nil];omega
  rw[this,List.length_range]
 rw[h3] at h2
 simp only[List.length_map,List.length_range] at h2
 omega
theorem QfH{l:List Exp}(H:∀ e ∈ l,(expT e).length+3≤30*e.size):((expTs l).map λx=>x.1.length).sum+3*l.length≤30*Exp.sizes l:=by
 rw[Q0A]
 induction l with
 |nil=>simp[Exp.sizes]
 |cons e l ih=>
   have h1:=H e List.mem_cons_self
   have h2:=ih λx hx=>H x (List.mem_cons_of_mem _ hx)
   simp only[List.map_cons,List.sum_cons,List.length_cons,Exp.sizes]
   omega
theorem Q4a{l:List Case}(H:∀ c ∈ l,(expT c.exp).length+3≤30*c.exp.size):((caseTs l).map λx=>x.1.length+x.2.1.length+4).sum≤30*Case.sizes l:=by
 rw[Q09]
 induction l with
 |nil=>simp[Case.sizes]
 |cons c l ih=>
   have h1:=H c List.mem_cons_self
   have h2:=ih λx hx=>H x (List.mem_cons_of_mem _ hx)
   have h3:=Q2f c.pat 0
   have h4:c.size=c.pat.size+c.exp.size+1:=by cases c;simp only[Case.size,Case.pat,Case.exp]
   simp only[List.map_cons,List.sum_cons,Case.sizes]
   omega
theorem Qkw{l:List Dec}(H:∀ d ∈ l,(decT d).length+3≤30*d.size):(decTs l).flatten.length≤30*Dec.sizes l:=by
 rw[Q5K]
 induction l with
 |nil=>simp[Dec.sizes]
 |cons d l ih=>
   have h1:=H d List.mem_cons_self
   have h2:=ih λx hx=>H x (List.mem_cons_of_mem _ hx)
   simp only[List.map_cons,List.flatten_cons,List.length_append,Dec.sizes]
   omega
theorem QfV{l:List Fun}(H:∀ f ∈ l,(expT f.case.exp).length+3≤30*f.case.exp.size):((funTs l).map (·.length)).sum+(funTs l).length≤30*Fun.sizes l:=by
 rw[Q5M]
 induction l with
 |nil=>simp[Fun.sizes]
 |cons f l ih=>
   have h1:=H f List.mem_cons_self
   have h2:=ih λx hx=>H x (List.mem_cons_of_mem _ hx)
   have h3:=Q2f f.case.pat 2
   have h4:f.size=f.case.pat.size+f.case.exp.size+2:=by
    cases f with
    |mk nm a c=>cases c;simp only[Fun.size,Case.size,Fun.case,Case.pat,Case.exp]
   simp only[List.map_cons,List.sum_cons,List.length_cons,Fun.sizes,funT,List.length_append,List.length_nil]
   omega
theorem QkB(k a:Int)(nm:Str)(n:Int)(kids:List Exp)(kb:Bool)(cs:List Case)(cb:Bool)(ds:List Dec)(db:Bool)
  (HK:∀ e ∈ kids,(expT e).length+3≤30*e.size) (HC:∀ c ∈ cs,(expT c.exp).length+3≤30*c.exp.size) (HD:∀ d ∈ ds,(decT d).length+3≤30*d.size):(expT (.mk k a nm n kids kb cs cb ds db)).length+3≤30*(Exp.mk k a nm n kids kb cs cb ds db).size:=by
 have h1:=QfH HK
 have h2:=Q4a HC
 have h3:=Qkw HD
 have g:=get3 (expTs kids)
 have t0:=λlv=>Qj9 (expTs kids) 0 lv
 have t1:=λlv=>Qj9 (expTs kids) 1 lv
 have hl:(expTs kids).length=kids.length:=by rw[Q0A,List.length_map]
 have j0:=QN [44] ((expTs kids).map (·.1)) true
 have j1:=QN [59] ((expTs kids).map (·.1)) true
 rw[QaT,List.length_map,hl] at j0 j1
 have c0:=Q5m (caseTs cs) true
 have j2:=QN [124] (caseT (caseTs cs) true) true
 have d:=Qm8 n
 have key:(expT (.mk k a nm n kids kb cs cb ds db)).length≤30*(Exp.sizes kids+Case.sizes cs+Dec.sizes ds+1) - 3:=by
  rw[expT]
  have a8:=t0 8;have a9:=t0 9;have a3:=t0 3;have a2:=t0 2;have a4:=t0 4;have a5:=t0 5;have a6:=t0 6;have a7:=t0 7
  have b9:=t1 9;have b1:=t1 1;have b3:=t1 3;have b4:=t1 4;have b6:=t1 6;have b7:=t1 7;have b8:=t1 8
  have p1:=Q1s (bareE (kids.headD (.mk 0 0 [] 0 [] true [] true [] true))) (atT (expTs kids) 0 8)
  have p2:=Q1s (decide ((kids.headD (.mk 0 0 [] 0 [] true [] true [] true)).kind=11)) (atT (expTs kids) 0 2)
  clear t0 t1 HK HC HD
  refine lb ?_ (lb ?_ (lb (lb ?_ ?_) (lb ?_ (lb ?_ (lb ?_ (lb ?_ (lb ?_ (lb ?_ (lb ?_ (lb ?_ (lb ?_ (lb ?_ (lb ?_ (lb ?_ (lb (lb ?_ (lb ?_ ?_)) (lb ?_ (lb ?_ (lb ?_ ?_)))))))))))))))))) <;>
   (try simp only[List.length_append,List.length_cons,List.length_nil]) <;> omega
 simp only[Exp.size]
 omega
theorem Qku(k a:Int)(nm:Str)(p:Int)(cons:List Con)(nb:Bool)(cs:List Case)(cb:Bool)(fs:List Fun)(fb:Bool)(hp:p≤8)
  (HC:∀ c ∈ cs,(expT c.exp).length+3≤30*c.exp.size) (HF:∀ f ∈ fs,(expT f.case.exp).length+3≤30*f.case.exp.size):(decT (.mk k a nm p cons nb cs cb fs fb)).length+3≤30*(Dec.mk k a nm p cons nb cs cb fs fb).size:=by
 have h2:=Q4a HC
 have h3:=QfV HF
 have h4:=Q9v cons
 have h5:=Ql1 p
 have j1:=QN [124] (cons.map conT) true
 have j2:=QN [97,110,100] (funTs fs) true
 rw[List.length_map] at j1
 have c1:((caseTs cs).headD ([],[],false)).1.length+((caseTs cs).headD ([],[],false)).2.1.length≤30*Case.sizes cs:=by
  cases hq:caseTs cs with
  |nil=>simp
  |cons x l=>
    rw[hq] at h2
    simp only[List.map_cons,List.sum_cons,List.headD_cons] at h2 ⊢
    omega
 have c2:((cons.map conT).headD []).length≤10*Con.sizes cons:=by
  cases cons with
  |nil=>simp
  |cons c l=>
    simp only[List.map_cons,List.sum_cons,List.length_cons,List.headD_cons] at h4 ⊢
    omega
 have key:(decT (.mk k a nm p cons nb cs cb fs fb)).length≤30*(Con.sizes cons+Case.sizes cs+Fun.sizes fs+1) - 3:=by
  rw[decT]
  refine lb ?_ (lb ?_ (lb ?_ ?_)) <;> simp only[List.length_append,List.length_cons,List.length_nil] <;> omega
 simp only[Dec.size]
 omega
theorem Qd6:∀ m:Nat,(∀ e:Exp,e.size≤m→Go.Proofs.YtgfhplcmcdimiaaGreatDoor.RN (nodesExp e)→(expT e).length+3≤30*e.size)∧(∀ (d:Dec) (i:Bool),d.size≤m→Go.Proofs.YtgfhplcmcdimiaaGreatDoor.RN (nodesDec i d)→(decT d).length+3≤30*d.size)
 |0=>⟨λe h=>by cases e;simp only[Exp.size] at h;omega,λd i h=>by cases d;simp only[Dec.size] at h;omega⟩
 |m+1=>by
   obtain⟨HE,HD⟩:=Qd6 m
   have HC:∀ cs:List Case,Case.sizes cs≤m→Go.Proofs.YtgfhplcmcdimiaaGreatDoor.RN (nodesCases cs)→∀ c ∈ cs,(expT c.exp).length+3≤30*c.exp.size:=λcs hs hr c hc=>by
    have h1:=Case.mem_sizes hc
    have h2:=Go.Proofs.YtgfhplcmcdimiaaGreatDoor.RN.cases hr c hc
    cases c with
    |mk p e=>
      simp only[Case.size] at h1
      simp only[nodesCase] at h2
      exact HE e (by omega) h2.r
   refine⟨λe h hr=>?_,λd i h hr=>?_⟩
   ·cases e with
    |mk k a nm n kids kb cs cb ds db=>
      simp only[Exp.size] at h
      simp only[nodesExp] at hr
      have hr':=hr.t
      refine QkB k a nm n kids kb cs cb ds db (λe he=>?_) (HC cs (by omega) hr'.r.r) (λd hd=>?_)
      ·have:=Exp.mem_sizes he
       exact HE e (by omega) (Go.Proofs.YtgfhplcmcdimiaaGreatDoor.RN.exps hr'.r.l e he)
      ·have:=Dec.mem_sizes hd
       exact HD d true (by omega) (Go.Proofs.YtgfhplcmcdimiaaGreatDoor.RN.decs hr'.l d hd)
   ·cases d with
    |mk k a nm p cons nb cs cb fs fb=>
      simp only[Dec.size] at h
      simp only[nodesDec] at hr
      have I:DecIs k nm p cons.length cs.length fs.length i:=Q9y (hr _ List.mem_cons_self)
      have hr':=hr.t
      refine Qku k a nm p cons nb cs cb fs fb ?_ (HC cs (by omega) hr'.l) (λf hf=>?_)
      ·by_cases h3:k=3
       ·exact (I.data h3).2.2.2.1
       ·have:=(I.bare h3).1;omega
      ·have h1:=Fun.mem_sizes hf
       have h2:=Go.Proofs.YtgfhplcmcdimiaaGreatDoor.RN.funs hr'.r.l f hf
       cases f with
       |mk nm' a' c'=>
         cases c' with
         |mk p' e'=>
           simp only[Fun.size,Case.size] at h1
           simp only[Fun.case,nodesCase] at h2
           exact HE e' (by omega) h2.r
theorem Q4c{e:Exp}(hr:Go.Proofs.YtgfhplcmcdimiaaGreatDoor.RN (nodesExp e)):(expT e).length+3≤30*e.size:=(Qd6 e.size).1 e (Nat.le_refl _) hr
theorem QhD{d:Dec}{i:Bool}(hr:Go.Proofs.YtgfhplcmcdimiaaGreatDoor.RN (nodesDec i d)):(decT d).length+3≤30*d.size:=(Qd6 d.size).2 d i (Nat.le_refl _) hr
end Go.Am
namespace Go.Am
open Go
theorem QdN:∀ (X:List (List Str × List Str × Bool)) (f:Bool) (i:Nat),(caseT X f)[i]? = (X[i]?).map λx=>x.1++([[61,62]]++parT (decide (i+1<X.length)&&x.2.2) x.2.1)
 |[],f,i=>by simp[caseT]
 |(p,e,o)::X,f,0=>by
   have:(!X.isEmpty)=decide (0+1<((p,e,o)::X).length):=by cases X <;> simp
   simp only[caseT,List.getElem?_cons_zero,Option.map_some,this]
 |(p,e,o)::X,f,i+1=>by
   have h:=QdN X false i
   have:decide (i+1+1<((p,e,o)::X).length)=decide (i+1<X.length):=by
    by_cases h:i+1<X.length
    ·rw[decide_eq_true h,decide_eq_true (by simp;omega)]
    ·rw[decide_eq_false h,decide_eq_false (by simp;omega)]
   simp only[caseT,List.getElem?_cons_succ,h,this]
theorem Z3{kids:List Exp}{i:Nat}{q:Exp}(h:kids[i]? = some q)(lv:Int):atT (expTs kids) i lv=parT (decide (levE q<lv)) (expT q):=by
 unfold atT
 have:(expTs kids).getD i ([],9)=(expT q,levE q):=by rw[Q0A];simp[List.getD_eq_getElem?_getD,h]
 rw[this]
theorem Q6Q{kids:List Exp}{i:Nat}{q:Exp}(h:kids[i]? = some q):((expTs kids).getD i ([],9)).1=expT q:=by
 have:(expTs kids).getD i ([],9)=(expT q,levE q):=by rw[Q0A];simp[List.getD_eq_getElem?_getD,h]
 rw[this]
end Go.Am
namespace Go.Proofs.YtgfhplcmcdimiaaGreatDoor
open Go Go.Am
set_option linter.unusedVariables false
set_option maxRecDepth 4000
def ExpOK(e:Exp):Prop:=∀ s:St,RetS (cw (.f ZA) [e.enc] s) s (expT e)
def DecOK(d:Dec):Prop:=∀ s:St,RetS (cw (.f Q3c) [d.enc] s) s (decT d)
structure PartE (e:Exp):Prop where
 ok:ExpOK e
 rn:RN (nodesExp e)
 size:e.size<2^22
theorem PartE.len{e:Exp}(h:PartE e):(expT e).length+3≤2^27:=by have:=Q4c h.rn;have:=h.size;omega
theorem PartE.kind{e:Exp}(h:PartE e):1≤e.kind∧e.kind≤20:=(Q7x h.rn).kind
theorem Q4e{b:Bool}{l:List Str}:(parT b l).length≤l.length+2:=Q1s b l
theorem Q0d{e:Exp}(H:PartE e)(lv:Int)(s:St):RetS (cw (.f Z8) [e.enc,.int .i64 lv] s) s (parT (decide (levE e<lv)) (expT e)):=by
 have e1:=Q4O e H.kind s
 obtain⟨x,s2,e2,g2,h2⟩:=H.ok s
 obtain⟨v,av,hv⟩:=h2.av
 have hl:=H.len
 have c:=Exp.cells_eq e
 rw[QiI]
 cases hd:decide (levE e<lv) with
 |true=>
   obtain⟨y,s3,e3,g3,h3⟩:=Q9I hv (by omega) s2
   simp only[Exp.enc,c] at e1 e2 ⊢
   simp only[go_sem,Nat.reduceAdd,Nat.reduceLeDiff,e1,hd,e2,QS av,e3]
   exact⟨y,s3,rfl,g2.trans g3,h3⟩
 |false=>
   simp only[Exp.enc,c] at e1 e2 ⊢
   simp only[go_sem,Nat.reduceAdd,Nat.reduceLeDiff,e1,hd,e2]
   exact⟨x,s2,rfl,g2,h2⟩
theorem Q8j(w:Str)(e:Exp){q:Exp}(hq:e.kids[0]? = some q)(H:PartE q)(s:St):RetS (cw (.f Q2v) [.str w,e.enc] s) s ([w]++parT (decide (levE q<9)) (expT q)):=by
 obtain⟨x,s2,e2,g2,h2⟩:=Q0d H 9 s
 obtain⟨v,av,hv⟩:=h2.av
 have hl:=H.len
 have hp:=Q4e (b:=decide (levE q<9)) (l:=expT q)
 obtain⟨y,s3,e3,g3,h3⟩:=cat2 (Qf [w]) hv (by simp only[List.length_singleton];omega) s2
 have f0:=ZI e hq
 rw[show ((0:Nat):Int)=0 from rfl] at f0
 have c:=Exp.cells_eq e
 have cq:=Exp.cells_eq q
 rw[QgH]
 simp only[List.map_cons,List.map_nil] at e3
 simp only[Exp.enc,c,cq] at e2 f0 ⊢
 simp only[go_sem,Nat.reduceAdd,Nat.reduceLeDiff,Qh,f0,e2,hv.bslx av,e3]
 exact⟨y,s3,rfl,g2.trans g3,h3⟩
theorem Q2d(E:Exp){i:Nat}{q:Exp}(hi:E.kids[i]? = some q)(H:ExpOK q)(s:St):RetS (cw (.f Q0K) [.int .i64 i,.cp E.cells] s) s (expT q):=by
 obtain⟨x,s',e,g,h⟩:=H s
 have cq:=Exp.cells_eq q
 have f0:=ZI E hi
 rw[Qf4]
 simp only[Exp.enc,cq] at e f0
 simp only[go_sem,Nat.reduceAdd,Nat.reduceLeDiff,Exp.cells_eq E,f0,e]
 exact⟨x,s',rfl,g,h⟩
theorem Ql2(E:Exp)(H:∀ q ∈ E.kids,ExpOK q):PartOK (.fn Q0K [.cp E.cells]) ((expTs E.kids).map (·.1)):=⟨_,_,rfl,λi l hl s=>by
 rw[Q0A,List.map_map,List.getElem?_map,Option.map_eq_some_iff] at hl
 obtain⟨q,h1,rfl⟩:=hl
 exact Q2d E h1 (H q (List.mem_of_getElem? h1)) s⟩
theorem Qjo(E:Exp):∀ g caps,AV.fn Q0K [.cp E.cells] = .fn g caps→(C.ext g).isSome=false:=λg caps h=>by cases h;kernel_rfl
theorem QcY{cs:List Case}{b:Bool}{i:Nat}{c:Case}(hi:cs[i]? = some c):ixS 12 (.val (encS b (cs.map Case.enc))) (.val (.int .i64 (i:Int)))=some (.val (.cp c.cells)):=
 Q2A (Q4 _ _) (show (cs.map Case.enc)[i]? = some c.enc by simp[hi]) (Case.cells_len c) (by decide)
structure PartC (c:Case):Prop where
 p:UnderOK c.pat
 e:PartE c.exp
 size:c.pat.size<2^22
theorem Qfs(cs:List Case)(b:Bool)(hl:cs.length<2^40){i:Nat}{c:Case}(hi:cs[i]? = some c)(H:PartC c)(s:St):RetS (cw (.f Q1C) [.int .i64 i,.cp [encS b (cs.map Case.enc)]] s) s (patT c.pat 0++([[61,62]]++parT (decide (i+1<cs.length)&&openE c.exp) (expT c.exp))):=by
 obtain⟨x,s1,e1,g1,h1⟩:=H.e.ok s
 obtain⟨v1,av1,hv1⟩:=h1.av
 have hlt:=(List.getElem?_eq_some_iff.1 hi).1
 have e2:=λs=>Q8h c.exp.size c.exp (Nat.le_refl _) H.e.rn s
 have hlen:=H.e.len
 have hpl:=Q2f c.pat 0
 have hps:=H.size
 have f0:=QcY (b:=b) hi
 have cc:c.cells=_:=Case.cells_eq c
 have cp:=Pat.cells_eq c.pat
 have ce:=Exp.cells_eq c.exp
 rw[cc,cp,ce] at f0
 simp only[List.cons_append,List.nil_append] at f0
 have w1:IntKind.i64.wrap ((i:Int)+1)=((i+1:Nat):Int):=by rw[wrap64 (by omega) (by omega)];rfl
 have hd:decide (((i+1:Nat):Int)<(cs.length:Int))=decide (i+1<cs.length):=by
  by_cases h:i+1<cs.length
  ·rw[decide_eq_true h,decide_eq_true (by omega)]
  ·rw[decide_eq_false h,decide_eq_false (by omega)]
 have ld1:∀ s,ldV (C.ti Q8) false s (.val (.cp [encS b (cs.map Case.enc)]))=some (.val (encS b (cs.map Case.enc))):=λs=>by simp only[go_sem,Nat.reduceAdd,Nat.reduceLeDiff]
 have J:∀ (y:Slot) (l:List Str),SlotS y l→l.length≤2^27→∀ s,RetS (Q1g (.val (.int .i64 i)) (.val (.cp [encS b (cs.map Case.enc)])) y s) s (patT c.pat 0++([[61,62]]++l)):=λy l hy hyl s=>by
  obtain⟨v,av,hv⟩:=hy.av
  obtain⟨z,s2,e3,g2,h2⟩:=Q3E H.p s
  obtain⟨vz,avz,hvz⟩:=h2.av
  obtain⟨q,s3,e4,g3,h3⟩:=cat3 hvz (Qf [[61,62]]) hv (by simp only[List.length_singleton];omega) s2
  rw[Q9W]
  simp only[List.map_cons,List.map_nil] at e4
  simp only[Pat.enc,cp] at e3
  simp only[go_sem,Nat.reduceAdd,ld1,f0,e3,Qh,hvz.bslx avz,hv.bslx av,e4]
  exact⟨q,s3,rfl,g2.trans g3,h3⟩
 rw[Qct]
 simp only[Exp.enc,ce] at e1 e2
 cases hn:decide (i+1<cs.length) with
 |false=>
   rw[hn] at hd
   obtain⟨q,s3,e3,g3,h3⟩:=J x _ h1 (by omega) s1
   simp only[go_sem,Nat.reduceAdd,Nat.reduceLeDiff,ld1,f0,e1,w1,Q4,List.length_map,hd,e3]
   exact⟨q,s3,rfl,g1.trans g3,h3⟩
 |true=>
   rw[hn] at hd
   cases ho:openE c.exp with
   |false=>
     simp only[ho] at e2
     obtain⟨q,s3,e3,g3,h3⟩:=J x _ h1 (by omega) s1
     simp only[go_sem,Nat.reduceAdd,Nat.reduceLeDiff,ld1,f0,e1,w1,Q4,List.length_map,hd,e2,e3]
     exact⟨q,s3,rfl,g1.trans g3,h3⟩
   |true=>
     simp only[ho] at e2
     obtain⟨y,s2,e4,g2,h2⟩:=Q9I hv1 (by omega) s1
     obtain⟨q,s3,e3,g3,h3⟩:=J y _ h2 (by simp only[List.length_cons,List.length_append,List.length_nil];omega) s2
     simp only[go_sem,Nat.reduceAdd,Nat.reduceLeDiff,ld1,f0,e1,w1,Q4,List.length_map,hd,e2,QS av1,e4,e3]
     exact⟨q,s3,rfl,(g1.trans g2).trans g3,h3⟩
theorem Q4N(cs:List Case)(b:Bool)(H:∀ c ∈ cs,PartC c)(hs:Case.sizes cs<2^22)(s:St):RetS (cw (.f Q2N) [encS b (cs.map Case.enc)] s) s (joinT [124] (caseT (caseTs cs) true) true):=by
 have hl:=Case.len_sizes cs
 have hlen:(caseT (caseTs cs) true).length=cs.length:=by
  have:∀ (X:List (List Str × List Str × Bool)) (f:Bool),(caseT X f).length=X.length:=by
   intro X
   induction X with
   |nil=>intro f;rfl
   |cons x X ih=>intro f;obtain⟨p,e,o⟩:=x;simp only[caseT,List.length_cons,ih]
  rw[this,Q09,List.length_map]
 have hP:PartOK (.fn Q1C [.cp [encS b (cs.map Case.enc)]]) (caseT (caseTs cs) true):=⟨_,_,rfl,λi l hli s=>by
  rw[QdN,Q09,List.getElem?_map,List.length_map,Option.map_map,Option.map_eq_some_iff] at hli
  obtain⟨c,h1,rfl⟩:=hli
  exact Qfs cs b (by omega) h1 (H c (List.mem_of_getElem? h1)) s⟩
 have hb:=Q5m (caseTs cs) true
 have hb2:=Q4a (l:=cs) (λc hc=>Q4c (H c hc).e.rn)
 obtain⟨y,s1,e1,g1,h1⟩:=RetA.toS (Q0b [124] _ (caseT (caseTs cs) true) hP (λg caps h=>by cases h;kernel_rfl) (by omega) s)
 rw[hlen] at e1
 have ld1:∀ s,ldV (C.ti Q8) false s (.val (.cp [encS b (cs.map Case.enc)]))=some (.val (encS b (cs.map Case.enc))):=λs=>by simp only[go_sem,Nat.reduceAdd,Nat.reduceLeDiff]
 rw[Qf0]
 simp only[go_sem,Nat.reduceAdd,Nat.reduceLeDiff,ld1,Q4,List.length_map,e1]
 exact⟨y,s1,rfl,g1,h1⟩
end Go.Proofs.YtgfhplcmcdimiaaGreatDoor