/- A part of the proof: SExp2, PExp5, SExp3, SExp4, SExp5, SExp6. -/
import Derived.Test.YtgfhplcmcdimiaaGreatDoorM13
set_option linter.unusedVariables false
set_option linter.unusedSimpArgs false
open Bool renaming and_eq_true→Yf,false_or→Yt,true_or→Yx
open List renaming length_cons→Ya,length_append→Yb,mem_cons_of_mem→Yc,mem_cons_self→Yd,length_nil→Ye,map_cons→Yh,length_map→Yi,cons_append→Yk,length_singleton→Yl,nil_append→Ym,map_nil→Yo,mem_of_getElem?→Ys,sum_cons→Yv,mem_cons→Yw
open Nat renaming le_refl→Yg
namespace Go.Am
open Go
theorem Qip(e:Exp):openE e =
  bif decide (e.kind=5) || decide (e.kind=9) || decide (e.kind=11) then true
  else bif decide (e.kind=12) || decide (e.kind=8) then (openEs e.kids).getLastD false
  else bif decide (e.kind=18) then decide ((e.kids.map levE).getD 1 0>0)&&(openEs e.kids).getD 1 false
  else false:=by cases e;rw[openE];rfl
theorem Q5D:∀ l:List Exp,openEs l=l.map openE
 |[]=>by rw[openEs];rfl
 |e::l=>by rw[openEs,Q5D l];rfl
end Go.Am
namespace Go.Proofs.YtgfhplcmcdimiaaGreatDoor
open Go Go.Am
set_option maxRecDepth 4000
theorem Qmd(k:Nat)(h:k<21)(s:St):ixA 21 1 (.val (.cp glob1)) (.val (.int .i64 (k:Int)))=some (.val (.cp (glob1.drop (k*1))))/\ldV (C.ti Q1) false s (.val (.cp (glob1.drop (k*1))))=some (.val (.int .i64 ([9,9,9,9,9,0,8,9,0,0,9,2,0,5,4,3,8,8,1,8,9].getD k 0))):=by
 match k,h with
 |0,_|1,_|2,_|3,_|4,_|5,_|6,_|7,_|8,_|9,_|10,_|11,_|12,_|13,_|14,_|15,_|16,_|17,_|18,_|19,_|20,_=>exact⟨by kernel_rfl,by kernel_rfl⟩
 |n+21,h=>omega
theorem Qki{l:List Exp}{n:Nat}(h:l.length=n+1):∃ q,l[n]? = some q/\(l.map openE).getLastD false=openE q:=by
 obtain⟨q,hq⟩:∃ q,l[n]? = some q:=⟨l[n],by simp[h]⟩
 refine⟨q,hq,?_⟩
 rw[List.getLastD_eq_getLast?,List.getLast?_eq_getElem?,Yi,h,Nat.add_sub_cancel,List.getElem?_map,hq]
 rfl
theorem Q5L(e:Exp)(hk:1<=e.kind/\e.kind<=20)(s:St):cw (.f Q3m) [e.enc] s=some (.ret (.val (.int .i64 (levE e))),s):=by
 have c:=Exp.cells_eq e
 obtain⟨k,hkn⟩:=Int.eq_ofNat_of_zero_le (show 0<=e.kind by omega)
 have hk21:k<21:=by omega
 obtain⟨f1,f2⟩:=Qmd k hk21 s
 generalize Slot.val (.cp (glob1.drop (k*1)))=v at f1 f2
 rw[<-hkn] at f1
 rw[Qh6,QeS]
 have hk':e.kind=1\/e.kind=2\/e.kind=3\/e.kind=4\/e.kind=5\/e.kind=6\/e.kind=7\/e.kind=8\/e.kind=9\/e.kind=10\/e.kind=11\/e.kind=12\/e.kind=13\/e.kind=14\/e.kind=15\/e.kind=16\/e.kind=17\/e.kind=18\/e.kind=19\/e.kind=20:=by omega
 have hlen:decide ((e.kids.length:Int)>0)=decide (e.kids.length>0):=by
  by_cases h:e.kids.length>0
  ·rw[decide_eq_true h,decide_eq_true (by omega)]
  ·rw[decide_eq_false h,decide_eq_false (by omega)]
 by_cases h3:e.kind=3
 ·cases hz:decide (e.kids.length>0) with
  |true=>
    rw[hz] at hlen
    simp only[go_sem,Int.reduceEq,Nat.reduceAdd,c,h3,Q4,Yi,hlen,decide_true,decide_false,Int.reduceEq,cond_true,cond_false,Yt,Bool.true_and]
  |false=>
    rw[hz] at hlen
    obtain rfl:k=3:=by omega
    rw[h3] at f1
    simp only[go_sem,Int.reduceEq,Nat.reduceAdd,c,h3,Q4,Yi,hlen,decide_true,decide_false,Int.reduceEq,cond_true,cond_false,Yt,Bool.true_and,f1,f2]
    rfl
 ·by_cases h13:e.kind=13
  ·obtain rfl:k=13:=by omega
   rw[h13] at f1
   cases h2:decide (e.n<=2) with
   |true=>
     have h6:decide (e.n≥6)=false:=decide_eq_false (by have:=of_decide_eq_true h2;omega)
     simp only[go_sem,Int.reduceEq,Nat.reduceAdd,c,h13,h2,h6,decide_true,decide_false,Int.reduceEq,cond_true,cond_false,Yt,Bool.true_and]
   |false=>
     cases h5:decide (e.n<=5) with
     |true=>
       have h6:decide (e.n≥6)=false:=decide_eq_false (by have:=of_decide_eq_true h5;omega)
       simp only[go_sem,Int.reduceEq,Nat.reduceAdd,c,h13,h2,h5,h6,decide_true,decide_false,Int.reduceEq,cond_true,cond_false,Yt,Bool.true_and]
     |false=>
       have h6:decide (e.n≥6)=true:=decide_eq_true (by have:=of_decide_eq_false h5;omega)
       simp only[go_sem,Int.reduceEq,Nat.reduceAdd,c,h13,h2,h5,h6,decide_true,decide_false,Int.reduceEq,cond_true,cond_false,Yt,Bool.true_and,f1,f2]
       rfl
  ·have hd3:=decide_eq_false h3
   have hd13:=decide_eq_false h13
   simp only[go_sem,Nat.reduceAdd,c,hd3,hd13,f1,f2]
   rcases hk' with h|h|h|h|h|h|h|h|h|h|h|h|h|h|h|h|h|h|h|h <;>
    first
     |exact absurd h h3
     |exact absurd h h13
     | (obtain rfl : k = _ := Int.ofNat.inj (hkn.symm.trans h)
        simp only[h,decide_true,decide_false,Int.reduceEq,cond_true,cond_false,Yt,Bool.or_false,Yx,Bool.or_true,Bool.false_and]
        rfl)
theorem ZU(e:Exp){i:Nat}{q:Exp}(hi:e.kids[i]? = some q):ixS 7 (.val (encS e.kb (e.kids.map Exp.enc))) (.val (.int .i64 (i:Int)))=some (.val (.cp q.cells)):=
 Q0X (Q4 _ _) (show (e.kids.map Exp.enc)[i]? = some q.enc by simp[hi]) (Exp.cells_len q) (by decide)
theorem Q8D{e:Exp}(hr:∀ n ∈ nodesExp e,n.wrong.1=0):ExpIs e.kind e.n e.name e.kids.length e.cases.length e.decs.length:=by
 cases e with
 |mk k a nm n kids kb cs cb ds db=>
   rw[nodesExp] at hr
   exact QaP (hr _ Yd)
theorem QhK{e:Exp}(hr:RN (nodesExp e)):(∀ q ∈ e.kids,RN (nodesExp q))/\(∀ c ∈ e.cases,RN (nodesCase c))/\∀ d ∈ e.decs,RN (nodesDec true d):=by
 cases e with
 |mk k a nm n kids kb cs cb ds db=>
   simp only[nodesExp] at hr
   have h:=hr.t
   exact⟨λq hq=>RN.exps h.r.l q hq,λc hc=>RN.cases h.r.r c hc,λd hd=>RN.decs h.l d hd⟩
theorem Q9M(e:Exp):Exp.sizes e.kids+Case.sizes e.cases+Dec.sizes e.decs+1=e.size:=by cases e;simp only[Exp.size,Exp.kids,Exp.cases,Exp.decs]
theorem Q9r:∀ (m:Nat) (e:Exp),e.size<=m->RN (nodesExp e)->∀ s:St,cw (.f Q0N) [e.enc] s=some (.ret (.val (.bool (openE e))),s)
 |0,e,h,_=>by have:=Q9M e;omega
 |m+1,e,h,hr=>λs=>by
   have hsz:=Q9M e
   have I:=Q8D hr
   obtain⟨hk,-,-⟩:=QhK hr
   have HV:∀ q ∈ e.kids,∀ s,cw (.f Q0N) [q.enc] s=some (.ret (.val (.bool (openE q))),s):=λq hq=>by
    have:=Exp.mem_sizes hq
    exact Q9r m q (by omega) (hk q hq)
   have c:=Exp.cells_eq e
   rw[Qip,QiP]
   cases h5:decide (e.kind=5) with
   |true=>simp only[go_sem,Nat.reduceAdd,c,h5,ZB,cond_true,cond_false,Yx,Bool.or_true,Yt]
   |false=>
     cases h9:decide (e.kind=9) with
     |true=>simp only[go_sem,Nat.reduceAdd,c,h5,h9,ZB,cond_true,cond_false,Yx,Bool.or_true,Yt]
     |false=>
       cases h11:decide (e.kind=11) with
       |true=>simp only[go_sem,Nat.reduceAdd,c,h5,h9,h11,ZB,cond_true,cond_false,Yx,Bool.or_true,Yt]
       |false=>
         have last:∀ n:Nat,e.kids.length=n+1->∃ q,e.kids[n]? = some q/\(openEs e.kids).getLastD false=openE q:=λn hn=>by
          rw[Q5D];exact Qki hn
         cases h12:decide (e.kind=12) with
         |true=>
           obtain⟨q,hq,hl⟩:=last 0 (by have:=I.one (.inl (of_decide_eq_true h12));omega)
           have f0:=ZU e hq
           have e1:=HV q (Ys hq) s
           have hn1:((e.kids.length:Nat):Int)=1:=by have:=I.one (.inl (of_decide_eq_true h12));omega
           have w:IntKind.i64.wrap 0=0:=rfl
           rw[show ((0:Nat):Int)=0 from rfl] at f0
           simp only[Exp.enc] at e1
           simp only[go_sem,Int.reduceSub,Nat.reduceAdd,Nat.reduceLeDiff,c,h5,h9,h11,h12,ZB,Q1F,Q4,Yi,hn1,w,f0,e1,hl]
         |false=>
           cases h8:decide (e.kind=8) with
           |true=>
             obtain⟨q,hq,hl⟩:=last 2 (by have:=I.if_ (of_decide_eq_true h8);omega)
             have f0:=ZU e hq
             have e1:=HV q (Ys hq) s
             have hn1:((e.kids.length:Nat):Int)=3:=by have:=I.if_ (of_decide_eq_true h8);omega
             have w:IntKind.i64.wrap 2=2:=rfl
             rw[show ((2:Nat):Int)=2 from rfl] at f0
             simp only[Exp.enc] at e1
             simp only[go_sem,Int.reduceSub,Nat.reduceAdd,Nat.reduceLeDiff,c,h5,h9,h11,h12,h8,ZB,Q1F,Q4,Yi,hn1,w,f0,e1,hl]
           |false=>
             cases h18:decide (e.kind=18) with
             |true=>
               obtain⟨x,y,hxy⟩:∃ x y,e.kids=[x,y]:=Qeq (by have:=I.two (.inr (.inr (.inr (of_decide_eq_true h18))));omega)
               have f1:=ZU e (i:=1) (q:=y) (by rw[hxy];rfl)
               have hym:y ∈ e.kids:=by rw[hxy];simp
               have Iy:=Q8D (hk y hym)
               have e1:=Q5L y Iy.kind s
               have e2:=HV y hym s
               have a1:(e.kids.map levE).getD 1 0=levE y:=by rw[hxy];rfl
               have a2:(openEs e.kids).getD 1 false=openE y:=by rw[Q5D,hxy];rfl
               have hge:decide (levE y≥1)=decide (levE y>0):=by
                by_cases h:levE y>0
                ·rw[decide_eq_true h,decide_eq_true (by omega)]
                ·rw[decide_eq_false h,decide_eq_false (by omega)]
               rw[show ((1:Nat):Int)=1 from rfl] at f1
               rw[a1,a2]
               simp only[Exp.enc] at e1 e2
               cases hg:decide (levE y>0) with
               |true=>
                 rw[hg] at hge
                 simp only[go_sem,Nat.reduceAdd,Nat.reduceLeDiff,c,h5,h9,h11,h12,h8,h18,ZB,Q1F,f1,e1,hge,e2]
               |false=>
                 rw[hg] at hge
                 simp only[go_sem,Nat.reduceAdd,Nat.reduceLeDiff,c,h5,h9,h11,h12,h8,h18,ZB,Q1F,f1,e1,hge]
             |false=>
               simp only[go_sem,Nat.reduceAdd,c,h5,h9,h11,h12,h8,h18,ZB,Q1F]
end Go.Proofs.YtgfhplcmcdimiaaGreatDoor
namespace Go.Am
open Go
theorem lb{b:Bool}{x y:List Str}{N:Nat}(h:x.length<=N)(g:y.length<=N):(bif b then x else y).length<=N:=by cases b<;>assumption
theorem QoR(n:Int):(digT n).length<=2:=by unfold digT;cases decide (n<0)<;>simp
theorem get3(L:List (List Str × Int)):(L.getD 0 ([],9)).1.length+((L.getD 1 ([],9)).1.length+(L.getD 2 ([],9)).1.length)<=(L.map λx=>x.1.length).sum:=by
 match L with
 |[]=>simp
 |[a]=>simp
 |[a,b]=>simp
 |a::b::c::l=>simp only[List.getD_cons_zero,List.getD_cons_succ,Yh,Yv];omega
theorem QlI(L:List (List Str × Int))(i:Nat)(lv:Int):(atT L i lv).length<=(L.getD i ([],9)).1.length+2:=Q1U _ _
theorem Qch(L:List (List Str × Int)):((L.map (·.1)).map (·.length)).sum=(L.map λx=>x.1.length).sum:=by rw[List.map_map];rfl
theorem Q6i:∀ (X:List (List Str × List Str × Bool)) (f:Bool),((caseT X f).map (·.length)).sum+(caseT X f).length<=(X.map λx=>x.1.length+x.2.1.length+4).sum
 |[],f=>by simp[caseT]
 |(p,e,o)::X,f=>by
   have h1:=Q6i X false
   have h2:=Q1U (!X.isEmpty&&o) e
   simp only[caseT,Yh,Yv,Ya,Yb,Ye]
   omega
theorem Qhw(c:Con):(conT c).length+1<=10*c.size:=by
 have:=Q1i c.arg 0
 unfold conT Con.size
 cases c.has with
 |true=>simp only[cond_true,Yb,Ya,Ye];omega
 |false=>simp only[cond_false,Ya,Ye];omega
theorem QaH:∀ l:List Con,((l.map conT).map (·.length)).sum+l.length<=10*Con.sizes l
 |[]=>by simp[Con.sizes]
 |c::l=>by
   have h1:=Qhw c
   have h2:=QaH l
   simp only[Yh,Yv,Ya,Con.sizes]
   omega
theorem QnE(n:Int):(parmT n).length<=2*n.toNat+2:=by
 unfold parmT
 refine lb ?_ (by simp)
 have h1:=Q1U (decide (n>1)) (joinT [44] ((List.range n.toNat).map λi=>[varT i]) true)
 have h2:=QR [44] ((List.range n.toNat).map λi=>[varT i]) true
 have h3:(((List.range n.toNat).map λi=>[varT i]).map (·.length)).sum=n.toNat:=by
  have:∀ l:List Nat,((l.map λi=>[varT i]).map (·.length)).sum=l.length:=by
   intro l
   induction l with
   |nil=>rfl
   |cons a l ih=>simp only[Yh,Yv,ih,Ya,Ye];omega
  rw[this,List.length_range]
 rw[h3] at h2
 simp only[Yi,List.length_range] at h2
 omega
theorem QhM{l:List Exp}(H:∀ e ∈ l,(expT e).length+3<=30*e.size):((expTs l).map λx=>x.1.length).sum+3*l.length<=30*Exp.sizes l:=by
 rw[Q0O]
 induction l with
 |nil=>simp[Exp.sizes]
 |cons e l ih=>
   have h1:=H e Yd
   have h2:=ih λx hx=>H x (Yc _ hx)
   simp only[Yh,Yv,Ya,Exp.sizes]
   omega
theorem Q4V{l:List Case}(H:∀ c ∈ l,(expT c.exp).length+3<=30*c.exp.size):((caseTs l).map λx=>x.1.length+x.2.1.length+4).sum<=30*Case.sizes l:=by
 rw[Q0g]
 induction l with
 |nil=>simp[Case.sizes]
 |cons c l ih=>
   have h1:=H c Yd
   have h2:=ih λx hx=>H x (Yc _ hx)
   have h3:=Q2G c.pat 0
   have h4:c.size=c.pat.size+c.exp.size+1:=by cases c;simp only[Case.size,Case.pat,Case.exp]
   simp only[Yh,Yv,Case.sizes]
   omega
theorem Qn9{l:List Dec}(H:∀ d ∈ l,(decT d).length+3<=30*d.size):(decTs l).flatten.length<=30*Dec.sizes l:=by
 rw[Q6I]
 induction l with
 |nil=>simp[Dec.sizes]
 |cons d l ih=>
   have h1:=H d Yd
   have h2:=ih λx hx=>H x (Yc _ hx)
   simp only[Yh,List.flatten_cons,Yb,Dec.sizes]
   omega
theorem QhX{l:List Fun}(H:∀ f ∈ l,(expT f.case.exp).length+3<=30*f.case.exp.size):((funTs l).map (·.length)).sum+(funTs l).length<=30*Fun.sizes l:=by
 rw[Q6K]
 induction l with
 |nil=>simp[Fun.sizes]
 |cons f l ih=>
   have h1:=H f Yd
   have h2:=ih λx hx=>H x (Yc _ hx)
   have h3:=Q2G f.case.pat 2
   have h4:f.size=f.case.pat.size+f.case.exp.size+2:=by
    cases f with
    |mk nm a c=>cases c;simp only[Fun.size,Case.size,Fun.case,Case.pat,Case.exp]
   simp only[Yh,Yv,Ya,Fun.sizes,funT,Yb,Ye]
   omega
theorem Qne(k a:Int)(nm:Str)(n:Int)(kids:List Exp)(kb:Bool)(cs:List Case)(cb:Bool)(ds:List Dec)(db:Bool)
  (HK:∀ e ∈ kids,(expT e).length+3<=30*e.size) (HC:∀ c ∈ cs,(expT c.exp).length+3<=30*c.exp.size) (HD:∀ d ∈ ds,(decT d).length+3<=30*d.size):(expT (.mk k a nm n kids kb cs cb ds db)).length+3<=30*(Exp.mk k a nm n kids kb cs cb ds db).size:=by
 have h1:=QhM HK
 have h2:=Q4V HC
 have h3:=Qn9 HD
 have g:=get3 (expTs kids)
 have t0:=λlv=>QlI (expTs kids) 0 lv
 have t1:=λlv=>QlI (expTs kids) 1 lv
 have hl:(expTs kids).length=kids.length:=by rw[Q0O,Yi]
 have j0:=QR [44] ((expTs kids).map (·.1)) true
 have j1:=QR [59] ((expTs kids).map (·.1)) true
 rw[Qch,Yi,hl] at j0 j1
 have c0:=Q6i (caseTs cs) true
 have j2:=QR [124] (caseT (caseTs cs) true) true
 have d:=QoR n
 have key:(expT (.mk k a nm n kids kb cs cb ds db)).length<=30*(Exp.sizes kids+Case.sizes cs+Dec.sizes ds+1) - 3:=by
  rw[expT]
  have a8:=t0 8;have a9:=t0 9;have a3:=t0 3;have a2:=t0 2;have a4:=t0 4;have a5:=t0 5;have a6:=t0 6;have a7:=t0 7
  have b9:=t1 9;have b1:=t1 1;have b3:=t1 3;have b4:=t1 4;have b6:=t1 6;have b7:=t1 7;have b8:=t1 8
  have p1:=Q1U (bareE (kids.headD (.mk 0 0 [] 0 [] true [] true [] true))) (atT (expTs kids) 0 8)
  have p2:=Q1U (decide ((kids.headD (.mk 0 0 [] 0 [] true [] true [] true)).kind=11)) (atT (expTs kids) 0 2)
  clear t0 t1 HK HC HD
  refine lb ?_ (lb ?_ (lb (lb ?_ ?_) (lb ?_ (lb ?_ (lb ?_ (lb ?_ (lb ?_ (lb ?_ (lb ?_ (lb ?_ (lb ?_ (lb ?_ (lb ?_ (lb ?_ (lb (lb ?_ (lb ?_ ?_)) (lb ?_ (lb ?_ (lb ?_ ?_)))))))))))))))))) <;>
   (try simp only[Yb,Ya,Ye])<;>omega
 simp only[Exp.size]
 omega
theorem Qn7(k a:Int)(nm:Str)(p:Int)(cons:List Con)(nb:Bool)(cs:List Case)(cb:Bool)(fs:List Fun)(fb:Bool)(hp:p<=8)
  (HC:∀ c ∈ cs,(expT c.exp).length+3<=30*c.exp.size) (HF:∀ f ∈ fs,(expT f.case.exp).length+3<=30*f.case.exp.size):(decT (.mk k a nm p cons nb cs cb fs fb)).length+3<=30*(Dec.mk k a nm p cons nb cs cb fs fb).size:=by
 have h2:=Q4V HC
 have h3:=QhX HF
 have h4:=QaH cons
 have h5:=QnE p
 have j1:=QR [124] (cons.map conT) true
 have j2:=QR [97,110,100] (funTs fs) true
 rw[Yi] at j1
 have c1:((caseTs cs).headD ([],[],false)).1.length+((caseTs cs).headD ([],[],false)).2.1.length<=30*Case.sizes cs:=by
  cases hq:caseTs cs with
  |nil=>simp
  |cons x l=>
    rw[hq] at h2
    simp only[Yh,Yv,List.headD_cons] at h2 |-
    omega
 have c2:((cons.map conT).headD []).length<=10*Con.sizes cons:=by
  cases cons with
  |nil=>simp
  |cons c l=>
    simp only[Yh,Yv,Ya,List.headD_cons] at h4 |-
    omega
 have key:(decT (.mk k a nm p cons nb cs cb fs fb)).length<=30*(Con.sizes cons+Case.sizes cs+Fun.sizes fs+1) - 3:=by
  rw[decT]
  refine lb ?_ (lb ?_ (lb ?_ ?_))<;>simp only[Yb,Ya,Ye]<;>omega
 simp only[Dec.size]
 omega
theorem QeR:∀ m:Nat,(∀ e:Exp,e.size<=m->Go.Proofs.YtgfhplcmcdimiaaGreatDoor.RN (nodesExp e)->(expT e).length+3<=30*e.size)/\(∀ (d:Dec) (i:Bool),d.size<=m->Go.Proofs.YtgfhplcmcdimiaaGreatDoor.RN (nodesDec i d)->(decT d).length+3<=30*d.size)
 |0=>⟨λe h=>by cases e;simp only[Exp.size] at h;omega,λd i h=>by cases d;simp only[Dec.size] at h;omega⟩
 |m+1=>by
   obtain⟨HE,HD⟩:=QeR m
   have HC:∀ cs:List Case,Case.sizes cs<=m->Go.Proofs.YtgfhplcmcdimiaaGreatDoor.RN (nodesCases cs)->∀ c ∈ cs,(expT c.exp).length+3<=30*c.exp.size:=λcs hs hr c hc=>by
    have h1:=Case.mem_sizes hc
    have h2:=Go.Proofs.YtgfhplcmcdimiaaGreatDoor.RN.cases hr c hc
    cases c with
    |mk p e=>
      simp only[Case.size] at h1
      simp only[nodesCase] at h2
      exact HE e (by omega) h2.r
   refine⟨λe h hr=>?_,λd i h hr=>?_⟩
   ·cases e with
    |mk k a nm n kids kb cs cb ds db=>
      simp only[Exp.size] at h
      simp only[nodesExp] at hr
      have hr':=hr.t
      refine Qne k a nm n kids kb cs cb ds db (λe he=>?_) (HC cs (by omega) hr'.r.r) (λd hd=>?_)
      ·have:=Exp.mem_sizes he
       exact HE e (by omega) (Go.Proofs.YtgfhplcmcdimiaaGreatDoor.RN.exps hr'.r.l e he)
      ·have:=Dec.mem_sizes hd
       exact HD d true (by omega) (Go.Proofs.YtgfhplcmcdimiaaGreatDoor.RN.decs hr'.l d hd)
   ·cases d with
    |mk k a nm p cons nb cs cb fs fb=>
      simp only[Dec.size] at h
      simp only[nodesDec] at hr
      have I:DecIs k nm p cons.length cs.length fs.length i:=QaK (hr _ Yd)
      have hr':=hr.t
      refine Qn7 k a nm p cons nb cs cb fs fb ?_ (HC cs (by omega) hr'.l) (λf hf=>?_)
      ·by_cases h3:k=3
       ·exact (I.data h3).2.2.2.1
       ·have:=(I.bare h3).1;omega
      ·have h1:=Fun.mem_sizes hf
       have h2:=Go.Proofs.YtgfhplcmcdimiaaGreatDoor.RN.funs hr'.r.l f hf
       cases f with
       |mk nm' a' c'=>
         cases c' with
         |mk p' e'=>
           simp only[Fun.size,Case.size] at h1
           simp only[Fun.case,nodesCase] at h2
           exact HE e' (by omega) h2.r
theorem Q4Y{e:Exp}(hr:Go.Proofs.YtgfhplcmcdimiaaGreatDoor.RN (nodesExp e)):(expT e).length+3<=30*e.size:=(QeR e.size).1 e (Yg _) hr
theorem QoQ{d:Dec}{i:Bool}(hr:Go.Proofs.YtgfhplcmcdimiaaGreatDoor.RN (nodesDec i d)):(decT d).length+3<=30*d.size:=(QeR d.size).2 d i (Yg _) hr
end Go.Am
namespace Go.Am
open Go
theorem QfH:∀ (X:List (List Str × List Str × Bool)) (f:Bool) (i:Nat),(caseT X f)[i]? = (X[i]?).map λx=>x.1++([[61,62]]++parT (decide (i+1<X.length)&&x.2.2) x.2.1)
 |[],f,i=>by simp[caseT]
 |(p,e,o)::X,f,0=>by
   have:(!X.isEmpty)=decide (0+1<((p,e,o)::X).length):=by cases X<;>simp
   simp only[caseT,List.getElem?_cons_zero,Option.map_some,this]
 |(p,e,o)::X,f,i+1=>by
   have h:=QfH X false i
   have:decide (i+1+1<((p,e,o)::X).length)=decide (i+1<X.length):=by
    by_cases h:i+1<X.length
    ·rw[decide_eq_true h,decide_eq_true (by simp;omega)]
    ·rw[decide_eq_false h,decide_eq_false (by simp;omega)]
   simp only[caseT,List.getElem?_cons_succ,h,this]
theorem Z8{kids:List Exp}{i:Nat}{q:Exp}(h:kids[i]? = some q)(lv:Int):atT (expTs kids) i lv=parT (decide (levE q<lv)) (expT q):=by
 unfold atT
 have:(expTs kids).getD i ([],9)=(expT q,levE q):=by rw[Q0O];simp[List.getD_eq_getElem?_getD,h]
 rw[this]
theorem Q7W{kids:List Exp}{i:Nat}{q:Exp}(h:kids[i]? = some q):((expTs kids).getD i ([],9)).1=expT q:=by
 have:(expTs kids).getD i ([],9)=(expT q,levE q):=by rw[Q0O];simp[List.getD_eq_getElem?_getD,h]
 rw[this]
end Go.Am
namespace Go.Proofs.YtgfhplcmcdimiaaGreatDoor
open Go Go.Am
set_option maxRecDepth 4000
def ExpOK(e:Exp):Prop:=∀ s:St,RetS (cw (.f ZL) [e.enc] s) s (expT e)
def DecOK(d:Dec):Prop:=∀ s:St,RetS (cw (.f Q5l) [d.enc] s) s (decT d)
structure PartE (e:Exp):Prop where
 ok:ExpOK e
 rn:RN (nodesExp e)
 size:e.size<2^22
theorem PartE.len{e:Exp}(h:PartE e):(expT e).length+3<=2^27:=by have:=Q4Y h.rn;have:=h.size;omega
theorem PartE.kind{e:Exp}(h:PartE e):1<=e.kind/\e.kind<=20:=(Q8D h.rn).kind
theorem Q50{b:Bool}{l:List Str}:(parT b l).length<=l.length+2:=Q1U b l
theorem Q0m{e:Exp}(H:PartE e)(lv:Int)(s:St):RetS (cw (.f Zd) [e.enc,.int .i64 lv] s) s (parT (decide (levE e<lv)) (expT e)):=by
 have e1:=Q5L e H.kind s
 obtain⟨x,s2,e2,g2,h2⟩:=H.ok s
 obtain⟨v,av,hv⟩:=h2.av
 have hl:=H.len
 have c:=Exp.cells_eq e
 rw[Qlf]
 cases hd:decide (levE e<lv) with
 |true=>
   obtain⟨y,s3,e3,g3,h3⟩:=QaU hv (by omega) s2
   simp only[Exp.enc,c] at e1 e2 |-
   simp only[go_sem,Nat.reduceAdd,Nat.reduceLeDiff,e1,hd,e2,QW av,e3]
   exact⟨y,s3,rfl,g2.trans g3,h3⟩
 |false=>
   simp only[Exp.enc,c] at e1 e2 |-
   simp only[go_sem,Nat.reduceAdd,Nat.reduceLeDiff,e1,hd,e2]
   exact⟨x,s2,rfl,g2,h2⟩
theorem Q9u(w:Str)(e:Exp){q:Exp}(hq:e.kids[0]? = some q)(H:PartE q)(s:St):RetS (cw (.f Q31) [.str w,e.enc] s) s ([w]++parT (decide (levE q<9)) (expT q)):=by
 obtain⟨x,s2,e2,g2,h2⟩:=Q0m H 9 s
 obtain⟨v,av,hv⟩:=h2.av
 have hl:=H.len
 have hp:=Q50 (b:=decide (levE q<9)) (l:=expT q)
 obtain⟨y,s3,e3,g3,h3⟩:=cat2 (Qm [w]) hv (by simp only[Yl];omega) s2
 have f0:=ZU e hq
 rw[show ((0:Nat):Int)=0 from rfl] at f0
 have c:=Exp.cells_eq e
 have cq:=Exp.cells_eq q
 rw[QiR]
 simp only[Yh,Yo] at e3
 simp only[Exp.enc,c,cq] at e2 f0 |-
 simp only[go_sem,Nat.reduceAdd,Nat.reduceLeDiff,Qp,f0,e2,hv.bslx av,e3]
 exact⟨y,s3,rfl,g2.trans g3,h3⟩
theorem Q2E(E:Exp){i:Nat}{q:Exp}(hi:E.kids[i]? = some q)(H:ExpOK q)(s:St):RetS (cw (.f Q14) [.int .i64 i,.cp E.cells] s) s (expT q):=by
 obtain⟨x,s',e,g,h⟩:=H s
 have cq:=Exp.cells_eq q
 have f0:=ZU E hi
 rw[Qh5]
 simp only[Exp.enc,cq] at e f0
 simp only[go_sem,Nat.reduceAdd,Nat.reduceLeDiff,Exp.cells_eq E,f0,e]
 exact⟨x,s',rfl,g,h⟩
theorem QnF(E:Exp)(H:∀ q ∈ E.kids,ExpOK q):PartOK (.fn Q14 [.cp E.cells]) ((expTs E.kids).map (·.1)):=⟨_,_,rfl,λi l hl s=>by
 rw[Q0O,List.map_map,List.getElem?_map,Option.map_eq_some_iff] at hl
 obtain⟨q,h1,rfl⟩:=hl
 exact Q2E E h1 (H q (Ys h1)) s⟩
theorem QlV(E:Exp):∀ g caps,AV.fn Q14 [.cp E.cells] = .fn g caps->(C.ext g).isSome=false:=λg caps h=>by cases h;kernel_rfl
theorem QeH{cs:List Case}{b:Bool}{i:Nat}{c:Case}(hi:cs[i]? = some c):ixS 12 (.val (encS b (cs.map Case.enc))) (.val (.int .i64 (i:Int)))=some (.val (.cp c.cells)):=
 Q0X (Q4 _ _) (show (cs.map Case.enc)[i]? = some c.enc by simp[hi]) (Case.cells_len c) (by decide)
structure PartC (c:Case):Prop where
 p:UnderOK c.pat
 e:PartE c.exp
 size:c.pat.size<2^22
theorem Qht(cs:List Case)(b:Bool)(hl:cs.length<2^40){i:Nat}{c:Case}(hi:cs[i]? = some c)(H:PartC c)(s:St):RetS (cw (.f Q22) [.int .i64 i,.cp [encS b (cs.map Case.enc)]] s) s (patT c.pat 0++([[61,62]]++parT (decide (i+1<cs.length)&&openE c.exp) (expT c.exp))):=by
 obtain⟨x,s1,e1,g1,h1⟩:=H.e.ok s
 obtain⟨v1,av1,hv1⟩:=h1.av
 have hlt:=(List.getElem?_eq_some_iff.1 hi).1
 have e2:=λs=>Q9r c.exp.size c.exp (Yg _) H.e.rn s
 have hlen:=H.e.len
 have hpl:=Q2G c.pat 0
 have hps:=H.size
 have f0:=QeH (b:=b) hi
 have cc:c.cells=_:=Case.cells_eq c
 have cp:=Pat.cells_eq c.pat
 have ce:=Exp.cells_eq c.exp
 rw[cc,cp,ce] at f0
 simp only[Yk,Ym] at f0
 have w1:IntKind.i64.wrap ((i:Int)+1)=((i+1:Nat):Int):=by rw[wrap64 (by omega) (by omega)];rfl
 have hd:decide (((i+1:Nat):Int)<(cs.length:Int))=decide (i+1<cs.length):=by
  by_cases h:i+1<cs.length
  ·rw[decide_eq_true h,decide_eq_true (by omega)]
  ·rw[decide_eq_false h,decide_eq_false (by omega)]
 have ld1:∀ s,ldV (C.ti Qf) false s (.val (.cp [encS b (cs.map Case.enc)]))=some (.val (encS b (cs.map Case.enc))):=λs=>by simp only[go_sem,Nat.reduceAdd,Nat.reduceLeDiff]
 have J:∀ (y:Slot) (l:List Str),SlotS y l->l.length<=2^27->∀ s,RetS (Q1E (.val (.int .i64 i)) (.val (.cp [encS b (cs.map Case.enc)])) y s) s (patT c.pat 0++([[61,62]]++l)):=λy l hy hyl s=>by
  obtain⟨v,av,hv⟩:=hy.av
  obtain⟨z,s2,e3,g2,h2⟩:=Q4i H.p s
  obtain⟨vz,avz,hvz⟩:=h2.av
  obtain⟨q,s3,e4,g3,h3⟩:=cat3 hvz (Qm [[61,62]]) hv (by simp only[Yl];omega) s2
  rw[Qbg]
  simp only[Yh,Yo] at e4
  simp only[Pat.enc,cp] at e3
  simp only[go_sem,Nat.reduceAdd,ld1,f0,e3,Qp,hvz.bslx avz,hv.bslx av,e4]
  exact⟨q,s3,rfl,g2.trans g3,h3⟩
 rw[Qed]
 simp only[Exp.enc,ce] at e1 e2
 cases hn:decide (i+1<cs.length) with
 |false=>
   rw[hn] at hd
   obtain⟨q,s3,e3,g3,h3⟩:=J x _ h1 (by omega) s1
   simp only[go_sem,Nat.reduceAdd,Nat.reduceLeDiff,ld1,f0,e1,w1,Q4,Yi,hd,e3]
   exact⟨q,s3,rfl,g1.trans g3,h3⟩
 |true=>
   rw[hn] at hd
   cases ho:openE c.exp with
   |false=>
     simp only[ho] at e2
     obtain⟨q,s3,e3,g3,h3⟩:=J x _ h1 (by omega) s1
     simp only[go_sem,Nat.reduceAdd,Nat.reduceLeDiff,ld1,f0,e1,w1,Q4,Yi,hd,e2,e3]
     exact⟨q,s3,rfl,g1.trans g3,h3⟩
   |true=>
     simp only[ho] at e2
     obtain⟨y,s2,e4,g2,h2⟩:=QaU hv1 (by omega) s1
     obtain⟨q,s3,e3,g3,h3⟩:=J y _ h2 (by simp only[Ya,Yb,Ye];omega) s2
     simp only[go_sem,Nat.reduceAdd,Nat.reduceLeDiff,ld1,f0,e1,w1,Q4,Yi,hd,e2,QW av1,e4,e3]
     exact⟨q,s3,rfl,(g1.trans g2).trans g3,h3⟩
theorem Q5K(cs:List Case)(b:Bool)(H:∀ c ∈ cs,PartC c)(hs:Case.sizes cs<2^22)(s:St):RetS (cw (.f Q3l) [encS b (cs.map Case.enc)] s) s (joinT [124] (caseT (caseTs cs) true) true):=by
 have hl:=Case.len_sizes cs
 have hlen:(caseT (caseTs cs) true).length=cs.length:=by
  have:∀ (X:List (List Str × List Str × Bool)) (f:Bool),(caseT X f).length=X.length:=by
   intro X
   induction X with
   |nil=>intro f;rfl
   |cons x X ih=>intro f;obtain⟨p,e,o⟩:=x;simp only[caseT,Ya,ih]
  rw[this,Q0g,Yi]
 have hP:PartOK (.fn Q22 [.cp [encS b (cs.map Case.enc)]]) (caseT (caseTs cs) true):=⟨_,_,rfl,λi l hli s=>by
  rw[QfH,Q0g,List.getElem?_map,Yi,Option.map_map,Option.map_eq_some_iff] at hli
  obtain⟨c,h1,rfl⟩:=hli
  exact Qht cs b (by omega) h1 (H c (Ys h1)) s⟩
 have hb:=Q6i (caseTs cs) true
 have hb2:=Q4V (l:=cs) (λc hc=>Q4Y (H c hc).e.rn)
 obtain⟨y,s1,e1,g1,h1⟩:=RetA.toS (Q0j [124] _ (caseT (caseTs cs) true) hP (λg caps h=>by cases h;kernel_rfl) (by omega) s)
 rw[hlen] at e1
 have ld1:∀ s,ldV (C.ti Qf) false s (.val (.cp [encS b (cs.map Case.enc)]))=some (.val (encS b (cs.map Case.enc))):=λs=>by simp only[go_sem,Nat.reduceAdd,Nat.reduceLeDiff]
 rw[Qh1]
 simp only[go_sem,Nat.reduceAdd,Nat.reduceLeDiff,ld1,Q4,Yi,e1]
 exact⟨y,s1,rfl,g1,h1⟩
open Go Go.Am
set_option maxRecDepth 4000
section
variable (a:Int) (nm:Str) (n:Int) (kids:List Exp) (kb:Bool) (cs:List Case) (cb:Bool) (ds:List Dec) (db:Bool)
theorem Q9L:(C.ext Q14).isSome=false:=by kernel_rfl
theorem QqS(h:isIntB n=true):ExpOK (.mk 1 a nm n kids kb cs cb ds db):=λs=>by
 obtain⟨x,s1,e1,g1,h1⟩:=Q8p n (QeP h) s
 rw[ZH,expT]
 simp only[go_sem,Int.reduceEq,Nat.reduceAdd,Nat.reduceLeDiff,Exp.cells_mk,decide_true,decide_false,e1]
 exact⟨x,s1,rfl,g1,h1⟩
theorem QqT:ExpOK (.mk 2 a nm n kids kb cs cb ds db):=λs=>by
 rw[ZH,expT]
 simp only[go_sem,Int.reduceEq,Nat.reduceAdd,Nat.reduceLeDiff,Exp.cells_mk,decide_true,decide_false,Qp]
 exact⟨_,s,rfl,.refl s,(Qm [nm]).slot⟩
theorem Q9O{l:List Exp}{x d:Exp}(h:l[0]? = some x):l.headD d=x:=by
 cases l with
 |nil=>simp at h
 |cons a l=>simpa using h
theorem QqU(HK:∀ q ∈ kids,PartE q)(hk:kids.length<=1):ExpOK (.mk 3 a nm n kids kb cs cb ds db):=λs=>by
 rw[ZH,expT]
 cases hz:decide (kids.length>0) with
 |false=>
   have hz':decide ((kids.length:Int)>0)=false:=decide_eq_false (by have:=of_decide_eq_false hz;omega)
   simp only[go_sem,Int.reduceEq,Nat.reduceAdd,Nat.reduceLeDiff,Exp.cells_mk,decide_true,decide_false,Qp,Q4,Yi,hz',hz,cond_true,cond_false]
   exact⟨_,s,rfl,.refl s,(Qm [nm]).slot⟩
 |true=>
   have hz0:=of_decide_eq_true hz
   have hz':decide ((kids.length:Int)>0)=true:=decide_eq_true (by omega)
   obtain⟨q,hq⟩:∃ q,kids[0]? = some q:=⟨kids[0],by simp[hz0]⟩
   obtain⟨x,s1,e1,g1,h1⟩:=Q9u nm (.mk 3 a nm n kids kb cs cb ds db) (q:=q) hq (HK q (Ys hq)) s
   rw[Z8 hq]
   simp only[Exp.enc,Exp.cells_mk] at e1
   simp only[go_sem,Int.reduceEq,Nat.reduceAdd,Nat.reduceLeDiff,Exp.cells_mk,decide_true,decide_false,Q4,Yi,hz',hz,e1,cond_true,cond_false]
   exact⟨x,s1,rfl,g1,h1⟩
theorem QhL(k:Int)(sign:Str)(hk:k=4/\sign=[44]\/k=10/\sign=[59])(HK:∀ q ∈ kids,PartE q)(hs:Exp.sizes kids<2^22):ExpOK (.mk k a nm n kids kb cs cb ds db):=λs=>by
 have P:=QnF (.mk k a nm n kids kb cs cb ds db) (λq hq=>(HK q hq).ok)
 have X:=QlV (.mk k a nm n kids kb cs cb ds db)
 have hb:=QhM (l:=kids) (λq hq=>Q4Y (HK q hq).rn)
 have hl:((expTs kids).map (·.1)).length=kids.length:=by rw[Yi,Q0O,Yi]
 have hsum:=Qch (expTs kids)
 have hlz:=Exp.len_sizes kids
 obtain⟨x,s1,e1,g1,h1⟩:=RetA.toS (Q0j sign _ ((expTs kids).map (·.1)) P X (by omega) s)
 obtain⟨v,av,hv⟩:=h1.av
 have hj:=QR sign ((expTs kids).map (·.1)) true
 obtain⟨y,s2,e2,g2,h2⟩:=QaU hv (by omega) s1
 rw[hl] at e1
 rw[ZH,expT]
 simp only[Exp.cells_mk] at e1
 rcases hk with ⟨rfl,rfl⟩|⟨rfl,rfl⟩
 ·simp only[go_sem,Int.reduceEq,Nat.reduceAdd,Nat.reduceLeDiff,Exp.cells_mk,decide_true,decide_false,Q4,Yi,e1,QW av,e2,cond_true,cond_false]
  exact⟨y,s2,rfl,g1.trans g2,h2⟩
 ·simp only[go_sem,Int.reduceEq,Nat.reduceAdd,Nat.reduceLeDiff,Exp.cells_mk,decide_true,decide_false,Q4,Yi,e1,QW av,e2,cond_true,cond_false]
  exact⟨y,s2,rfl,g1.trans g2,h2⟩
theorem QqV(HC:∀ c ∈ cs,PartC c)(hs:Case.sizes cs<2^22):ExpOK (.mk 5 a nm n kids kb cs cb ds db):=λs=>by
 obtain⟨x,s1,e1,g1,h1⟩:=Q5K cs cb HC hs s
 obtain⟨v,av,hv⟩:=h1.av
 have hb:=Q6i (caseTs cs) true
 have hb2:=Q4V (l:=cs) (λc hc=>Q4Y (HC c hc).e.rn)
 have hj:=QR [124] (caseT (caseTs cs) true) true
 obtain⟨y,s2,e2,g2,h2⟩:=cat2 (Qm [[102,110]]) hv (by simp only[Yl];omega) s1
 rw[ZH,expT]
 simp only[Yh,Yo] at e2
 simp only[go_sem,Int.reduceEq,Nat.reduceAdd,Nat.reduceLeDiff,Exp.cells_mk,decide_true,decide_false,Qp,e1,hv.bslx av,e2,cond_true,cond_false]
 exact⟨y,s2,rfl,g1.trans g2,h2⟩
theorem QqW{x y:Exp}(qx:kids[0]? = some x)(qy:kids[1]? = some y)(hx:PartE x)(hy:PartE y):ExpOK (.mk 6 a nm n kids kb cs cb ds db):=λs=>by
 have f0:ixS 7 (.val (encS kb (kids.map Exp.enc))) (.val (.int .i64 0))=some (.val (.cp x.cells)):=ZU (.mk 6 a nm n kids kb cs cb ds db) (i:=0) (q:=x) qx
 have f1:ixS 7 (.val (encS kb (kids.map Exp.enc))) (.val (.int .i64 1))=some (.val (.cp y.cells)):=ZU (.mk 6 a nm n kids kb cs cb ds db) (i:=1) (q:=y) qy
 have cx:=Exp.cells_eq x
 have cy:=Exp.cells_eq y
 obtain⟨u,s1,e1,g1,h1⟩:=Q0m hx 8 s
 obtain⟨v1,av1,hv1⟩:=h1.av
 have lx:=hx.len
 have ly:=hy.len
 have px:=Q50 (b:=decide (levE x<8)) (l:=expT x)
 have py:=Q50 (b:=decide (levE y<9)) (l:=expT y)
 have J:∀ (z:Slot) (l:List Str),SlotS z l->l.length<=2^28->∀ s,RetS (Q4g (.val (.cp (Exp.mk 6 a nm n kids kb cs cb ds db).cells)) z s) s (l++parT (decide (levE y<9)) (expT y)):=λz l hz hzl s=>by
  obtain⟨v,av,hv⟩:=hz.av
  obtain⟨w,s2,e2,g2,h2⟩:=Q0m hy 9 s
  obtain⟨v2,av2,hv2⟩:=h2.av
  obtain⟨q,s3,e3,g3,h3⟩:=cat2 hv hv2 (by omega) s2
  rw[Qft]
  simp only[Exp.enc,cy] at e2
  rw[cy] at f1
  simp only[go_sem,Nat.reduceAdd,Nat.reduceLeDiff,Exp.cells_mk,cy,f1,e2,hv.bslx av,hv2.bslx av2,e3]
  exact⟨q,s3,rfl,g2.trans g3,h3⟩
 rw[ZH,expT]
 rw[cx] at f0
 simp only[Exp.cells_mk] at J
 simp only[Exp.enc,cx] at e1
 have hb:bareE x=(decide (x.kind=3)&&(decide (x.kids.length=0) && !decide (x.name=[40,41]))):=rfl
 have hz:decide ((x.kids.length:Int)=0)=decide (x.kids.length=0):=by
  by_cases h:x.kids.length=0
  ·rw[decide_eq_true h,decide_eq_true (by omega)]
  ·rw[decide_eq_false h,decide_eq_false (by omega)]
 have hd:kids.headD (.mk 0 0 [] 0 [] true [] true [] true)=x:=Q9O qx
 rw[hd,hb]
 have JN:=J u _ h1 (by omega) s1
 obtain⟨w,s2,e2,g2,h2⟩:=QaU hv1 (by omega) s1
 have JY:=J w _ h2 (by simp only[Ya,Yb,Ye];omega) s2
 obtain⟨qn,sn,en,gn,hn⟩:=JN
 obtain⟨ky,sy,ey,gy,hy'⟩:=JY
 cases h3:decide (x.kind=3) with
 |false=>
   simp only[go_sem,Int.reduceEq,Nat.reduceAdd,Nat.reduceLeDiff,Exp.cells_mk,cx,Z8 qx,Z8 qy,decide_true,decide_false,f0,e1,h3,en,cond_true,cond_false]
   exact⟨qn,sn,rfl,g1.trans gn,hn⟩
 |true=>
   cases h4:decide (x.kids.length=0) with
   |false=>
     rw[h4] at hz
     simp only[go_sem,Int.reduceEq,Nat.reduceAdd,Nat.reduceLeDiff,Exp.cells_mk,cx,Z8 qx,Z8 qy,decide_true,decide_false,f0,e1,h3,Q4,Yi,hz,en,cond_true,cond_false]
     exact⟨qn,sn,rfl,g1.trans gn,hn⟩
   |true=>
     rw[h4] at hz
     cases h5:decide (x.name=[40,41]) with
     |true=>
       simp only[go_sem,Int.reduceEq,Nat.reduceAdd,Nat.reduceLeDiff,Exp.cells_mk,cx,Z8 qx,Z8 qy,decide_true,decide_false,f0,e1,h3,Q4,Yi,hz,h5,en,cond_true,cond_false]
       exact⟨qn,sn,rfl,g1.trans gn,hn⟩
     |false=>
       simp only[go_sem,Int.reduceEq,Nat.reduceAdd,Nat.reduceLeDiff,Exp.cells_mk,cx,Z8 qx,Z8 qy,decide_true,decide_false,f0,e1,h3,Q4,Yi,hz,h5,QW av1,e2,ey,cond_true,cond_false]
       exact⟨ky,sy,rfl,(g1.trans g2).trans gy,hy'⟩
theorem QqY{x y z:Exp}(qx:kids[0]? = some x)(qy:kids[1]? = some y)(qz:kids[2]? = some z)(hx:PartE x)(hy:PartE y)(hz:PartE z):ExpOK (.mk 8 a nm n kids kb cs cb ds db):=λs=>by
 obtain⟨u1,s1,e1,g1,h1⟩:=Q2E (.mk 8 a nm n kids kb cs cb ds db) (i:=0) (q:=x) qx hx.ok s
 obtain⟨u2,s2,e2,g2,h2⟩:=Q2E (.mk 8 a nm n kids kb cs cb ds db) (i:=1) (q:=y) qy hy.ok s1
 obtain⟨u3,s3,e3,g3,h3⟩:=Q2E (.mk 8 a nm n kids kb cs cb ds db) (i:=2) (q:=z) qz hz.ok s2
 obtain⟨v1,av1,hv1⟩:=h1.av
 obtain⟨v2,av2,hv2⟩:=h2.av
 obtain⟨v3,av3,hv3⟩:=h3.av
 have lx:=hx.len
 have ly:=hy.len
 have lz:=hz.len
 obtain⟨q,s4,e4,g4,h4⟩:=catL [(.sl ([[105,102]].map AV.str),[[105,102]]),(v1,expT x),(.sl ([[116,104,101,110]].map AV.str),[[116,104,101,110]]),(v2,expT y),(.sl ([[101,108,115,101]].map AV.str),[[101,108,115,101]]),(v3,expT z)] (by
  intro p hp
  simp only[Yw,List.not_mem_nil,or_false] at hp
  rcases hp with rfl|rfl|rfl|rfl|rfl|rfl
  ·exact Qm _
  ·exact hv1
  ·exact Qm _
  ·exact hv2
  ·exact Qm _
  ·exact hv3) (by simp) (by simp[sumL];omega) s3
 rw[ZH,expT,Q7W qx,Q7W qy,Q7W qz]
 rw[show ((0:Nat):Int)=0 from rfl] at e1
 rw[show ((1:Nat):Int)=1 from rfl] at e2
 rw[show ((2:Nat):Int)=2 from rfl] at e3
 simp only[Exp.cells_mk] at e1 e2 e3
 simp only[Yh,Yo] at e4
 simp only[go_sem,Int.reduceEq,Nat.reduceAdd,Nat.reduceLeDiff,Exp.cells_mk,decide_true,decide_false,Qp,Q9L,e1,e2,e3,hv1.bslx av1,hv2.bslx av2,hv3.bslx av3,e4,cond_true,cond_false]
 refine⟨q,s4,rfl,((g1.trans g2).trans g3).trans g4,?_⟩
 simpa using h4
theorem QqZ{x:Exp}(qx:kids[0]? = some x)(hx:PartE x)(HC:∀ c ∈ cs,PartC c)(hs:Case.sizes cs<2^22):ExpOK (.mk 9 a nm n kids kb cs cb ds db):=λs=>by
 obtain⟨u1,s1,e1,g1,h1⟩:=Q2E (.mk 9 a nm n kids kb cs cb ds db) (i:=0) (q:=x) qx hx.ok s
 obtain⟨v1,av1,hv1⟩:=h1.av
 obtain⟨u2,s2,e2,g2,h2⟩:=Q5K cs cb HC hs s1
 obtain⟨v2,av2,hv2⟩:=h2.av
 have hb:=Q6i (caseTs cs) true
 have hb2:=Q4V (l:=cs) (λc hc=>Q4Y (HC c hc).e.rn)
 have hj:=QR [124] (caseT (caseTs cs) true) true
 have lx:=hx.len
 obtain⟨q,s4,e4,g4,h4⟩:=cat4 (Qm [[99,97,115,101]]) hv1 (Qm [[111,102]]) hv2 (by simp only[Yl];omega) s2
 rw[ZH,expT,Q7W qx]
 rw[show ((0:Nat):Int)=0 from rfl] at e1
 simp only[Exp.cells_mk] at e1
 simp only[Yh,Yo] at e4
 simp only[go_sem,Int.reduceEq,Nat.reduceAdd,Nat.reduceLeDiff,Exp.cells_mk,decide_true,decide_false,Qp,Q9L,e1,e2,hv1.bslx av1,hv2.bslx av2,e4,cond_true,cond_false]
 exact⟨q,s4,rfl,(g1.trans g2).trans g4,h4⟩
theorem QoX{x:Exp}(qx:kids[0]? = some x)(hx:PartE x):ExpOK (.mk 12 a nm n kids kb cs cb ds db):=λs=>by
 obtain⟨u1,s1,e1,g1,h1⟩:=Q2E (.mk 12 a nm n kids kb cs cb ds db) (i:=0) (q:=x) qx hx.ok s
 obtain⟨v1,av1,hv1⟩:=h1.av
 have lx:=hx.len
 obtain⟨q,s4,e4,g4,h4⟩:=cat2 (Qm [[114,97,105,115,101]]) hv1 (by simp only[Yl];omega) s1
 rw[ZH,expT,Q7W qx]
 rw[show ((0:Nat):Int)=0 from rfl] at e1
 simp only[Exp.cells_mk] at e1
 simp only[Yh,Yo] at e4
 simp only[go_sem,Int.reduceEq,Nat.reduceAdd,Nat.reduceLeDiff,Exp.cells_mk,decide_true,decide_false,Qp,Q9L,e1,hv1.bslx av1,e4,cond_true,cond_false]
 exact⟨q,s4,rfl,g1.trans g4,h4⟩
end
open Go Go.Am
set_option maxRecDepth 4000
theorem QnH(k:Nat)(h:k<9)(s:St):ixA 9 1 (.val (.cp glob0)) (.val (.int .i64 (k:Int)))=some (.val (.cp (glob0.drop (k*1))))/\ldV (C.ti Q0) true s (.val (.cp (glob0.drop (k*1))))=some (.val (.str (opN ((k:Int)+1)))):=by
 match k,h with
 |0,_|1,_|2,_|3,_|4,_|5,_|6,_|7,_|8,_=>exact⟨by kernel_rfl,by kernel_rfl⟩
 |n+9,h=>omega
section
variable (a:Int) (nm:Str) (n:Int) (kids:List Exp) (kb:Bool) (cs:List Case) (cb:Bool) (ds:List Dec) (db:Bool)
theorem QkB{x y:Exp}(hx:PartE x)(hy:PartE y)(w:Str)(l r:Int)(s:St):∃ u1 s1 v1 u2 s2 v2 q s3,cw (.f Zd) [x.enc,.int .i64 l] s=some (.ret u1,s1)/\u1.av=some v1/\StrsAV v1 (parT (decide (levE x<l)) (expT x))/\cw (.f Zd) [y.enc,.int .i64 r] s1=some (.ret u2,s2)/\u2.av=some v2/\StrsAV v2 (parT (decide (levE y<r)) (expT y))/\
  cw (.f Qs) [.sl [v1,.sl [.str w],v2]] s2=some (.ret q,s3)/\Grew s s3/\SlotS q (parT (decide (levE x<l)) (expT x)++([w]++parT (decide (levE y<r)) (expT y))):=by
 obtain⟨u1,s1,e1,g1,h1⟩:=Q0m hx l s
 obtain⟨v1,av1,hv1⟩:=h1.av
 obtain⟨u2,s2,e2,g2,h2⟩:=Q0m hy r s1
 obtain⟨v2,av2,hv2⟩:=h2.av
 have lx:=hx.len
 have ly:=hy.len
 have px:=Q50 (b:=decide (levE x<l)) (l:=expT x)
 have py:=Q50 (b:=decide (levE y<r)) (l:=expT y)
 obtain⟨q,s3,e3,g3,h3⟩:=cat3 hv1 (Qm [w]) hv2 (by simp only[Yl];omega) s2
 exact⟨u1,s1,v1,u2,s2,v2,q,s3,e1,av1,hv1,e2,av2,hv2,e3,(g1.trans g2).trans g3,h3⟩
theorem Q4J(k:Int)(hk:k=11\/k=13\/k=14\/k=15\/k=16\/k=17\/k=18\/k=19\/k=20){l:List Str}(s:St)(h:RetS (cw (.f Q48) [(Exp.mk k a nm n kids kb cs cb ds db).enc] s) s l):RetS (cw (.f ZL) [(Exp.mk k a nm n kids kb cs cb ds db).enc] s) s l:=by
 obtain⟨x,s1,e1,g1,h1⟩:=h
 rw[ZH]
 simp only[Exp.enc,Exp.cells_mk] at e1
 rcases hk with rfl|rfl|rfl|rfl|rfl|rfl|rfl|rfl|rfl <;>
  (simp only[go_sem,Int.reduceEq,Nat.reduceAdd,Nat.reduceLeDiff,Exp.cells_mk,decide_true,decide_false,e1];exact⟨x,s1,rfl,g1,h1⟩)
theorem QoW{x:Exp}(qx:kids[0]? = some x)(hx:PartE x)(HC:∀ c ∈ cs,PartC c)(hs:Case.sizes cs<2^22):ExpOK (.mk 11 a nm n kids kb cs cb ds db):=λs=>by
 have f0:ixS 7 (.val (encS kb (kids.map Exp.enc))) (.val (.int .i64 0))=some (.val (.cp x.cells)):=ZU (.mk 11 a nm n kids kb cs cb ds db) (i:=0) (q:=x) qx
 have cx:=Exp.cells_eq x
 obtain⟨u1,s1,e1,g1,h1⟩:=Q0m hx 3 s
 obtain⟨v1,av1,hv1⟩:=h1.av
 obtain⟨u2,s2,e2,g2,h2⟩:=Q5K cs cb HC hs s1
 obtain⟨v2,av2,hv2⟩:=h2.av
 have hb:=Q6i (caseTs cs) true
 have hb2:=Q4V (l:=cs) (λc hc=>Q4Y (HC c hc).e.rn)
 have hj:=QR [124] (caseT (caseTs cs) true) true
 have lx:=hx.len
 have px:=Q50 (b:=decide (levE x<3)) (l:=expT x)
 obtain⟨q,s4,e4,g4,h4⟩:=cat3 hv1 (Qm [[104,97,110,100,108,101]]) hv2 (by simp only[Yl];omega) s2
 refine Q4J a nm n kids kb cs cb ds db 11 (by decide) s ?_
 rw[cx] at f0
 simp only[Exp.enc,cx] at e1
 simp only[Yh,Yo] at e4
 rw[Q1f,expT]
 simp only[go_sem,Int.reduceEq,Nat.reduceAdd,Nat.reduceLeDiff,Exp.cells_mk,Z8 qx,decide_true,decide_false,Qp,f0,e1,e2,hv1.bslx av1,hv2.bslx av2,e4,cond_true,cond_false]
 exact⟨q,s4,rfl,(g1.trans g2).trans g4,h4⟩
theorem QfV(k l r:Int)(w:Str)(hk:k=15/\l=4/\r=3/\w=[111,114,101,108,115,101]\/k=14/\l=5/\r=4/\w=[97,110,100,97,108,115,111]){x y:Exp}(qx:kids[0]? = some x)(qy:kids[1]? = some y)(hx:PartE x)(hy:PartE y):ExpOK (.mk k a nm n kids kb cs cb ds db):=λs=>by
 have f0:ixS 7 (.val (encS kb (kids.map Exp.enc))) (.val (.int .i64 0))=some (.val (.cp x.cells)):=ZU (.mk k a nm n kids kb cs cb ds db) (i:=0) (q:=x) qx
 have f1:ixS 7 (.val (encS kb (kids.map Exp.enc))) (.val (.int .i64 1))=some (.val (.cp y.cells)):=ZU (.mk k a nm n kids kb cs cb ds db) (i:=1) (q:=y) qy
 have cx:=Exp.cells_eq x
 have cy:=Exp.cells_eq y
 obtain⟨u1,s1,v1,u2,s2,v2,q,s3,e1,av1,hv1,e2,av2,hv2,e3,g,h⟩:=QkB hx hy w l r s
 rw[cx] at f0
 rw[cy] at f1
 simp only[Exp.enc,cx,cy] at e1 e2
 rcases hk with ⟨rfl,rfl,rfl,rfl⟩|⟨rfl,rfl,rfl,rfl⟩
 ·refine Q4J a nm n kids kb cs cb ds db 15 (by decide) s ?_
  rw[Q1f,expT]
  simp only[go_sem,Int.reduceEq,Nat.reduceAdd,Nat.reduceLeDiff,Exp.cells_mk,Z8 qx,Z8 qy,decide_true,decide_false,Qp,f0,f1,e1,e2,hv1.bslx av1,hv2.bslx av2,e3,cond_true,cond_false]
  exact⟨q,s3,rfl,g,h⟩
 ·refine Q4J a nm n kids kb cs cb ds db 14 (by decide) s ?_
  rw[Q1f,expT]
  simp only[go_sem,Int.reduceEq,Nat.reduceAdd,Nat.reduceLeDiff,Exp.cells_mk,Z8 qx,Z8 qy,decide_true,decide_false,Qp,f0,f1,e1,e2,hv1.bslx av1,hv2.bslx av2,e3,cond_true,cond_false]
  exact⟨q,s3,rfl,g,h⟩
theorem QoZ{x y:Exp}(qx:kids[0]? = some x)(qy:kids[1]? = some y)(hx:PartE x)(hy:PartE y):ExpOK (.mk 18 a nm n kids kb cs cb ds db):=λs=>by
 have f0:ixS 7 (.val (encS kb (kids.map Exp.enc))) (.val (.int .i64 0))=some (.val (.cp x.cells)):=ZU (.mk 18 a nm n kids kb cs cb ds db) (i:=0) (q:=x) qx
 have f1:ixS 7 (.val (encS kb (kids.map Exp.enc))) (.val (.int .i64 1))=some (.val (.cp y.cells)):=ZU (.mk 18 a nm n kids kb cs cb ds db) (i:=1) (q:=y) qy
 have cx:=Exp.cells_eq x
 have cy:=Exp.cells_eq y
 rw[cx] at f0
 rw[cy] at f1
 obtain⟨u1,s1,e1,g1,h1⟩:=Q0m hx 2 s
 obtain⟨v1,av1,hv1⟩:=h1.av
 have lx:=hx.len
 have ly:=hy.len
 have px:=Q50 (b:=decide (levE x<2)) (l:=expT x)
 have py:=Q50 (b:=decide (levE y<1)) (l:=expT y)
 have J:∀ (z:Slot) (l:List Str),SlotS z l->l.length<=2^28->∀ s,RetS (Q3A ((Exp.mk 18 a nm n kids kb cs cb ds db).cells.map .val) z s) s (l++([[58,61]]++parT (decide (levE y<1)) (expT y))):=λz l hz hzl s=>by
  obtain⟨v,av,hv⟩:=hz.av
  obtain⟨w,s2,e2,g2,h2⟩:=Q0m hy 1 s
  obtain⟨v2,av2,hv2⟩:=h2.av
  obtain⟨q,s3,e3,g3,h3⟩:=cat3 hv (Qm [[58,61]]) hv2 (by simp only[Yl];omega) s2
  rw[Qee]
  simp only[Exp.enc,cy] at e2
  simp only[Yh,Yo] at e3
  simp only[go_sem,Nat.reduceAdd,Nat.reduceLeDiff,Exp.cells_mk,Qp,f1,e2,hv.bslx av,hv2.bslx av2,e3]
  exact⟨q,s3,rfl,g2.trans g3,h3⟩
 have hd:kids.headD (.mk 0 0 [] 0 [] true [] true [] true)=x:=Q9O qx
 obtain⟨w,s2,e2,g2,h2⟩:=QaU hv1 (by omega) s1
 obtain⟨qn,sn,en,gn,hn⟩:=J u1 _ h1 (by omega) s1
 obtain⟨ky,sy,ey,gy,hy'⟩:=J w _ h2 (by simp only[Ya,Yb,Ye];omega) s2
 refine Q4J a nm n kids kb cs cb ds db 18 (by decide) s ?_
 rw[Q1f,expT,hd]
 simp only[Exp.cells_mk,Yh,Yo] at en ey
 simp only[Exp.enc,cx] at e1
 cases h3:decide (x.kind=11) with
 |false=>
   simp only[go_sem,Int.reduceEq,Nat.reduceAdd,Nat.reduceLeDiff,Exp.cells_mk,Z8 qx,Z8 qy,decide_true,decide_false,f0,e1,h3,en,cond_true,cond_false]
   exact⟨qn,sn,rfl,g1.trans gn,hn⟩
 |true=>
   simp only[go_sem,Int.reduceEq,Nat.reduceAdd,Nat.reduceLeDiff,Exp.cells_mk,Z8 qx,Z8 qy,decide_true,decide_false,f0,e1,h3,QW av1,e2,ey,cond_true,cond_false]
   exact⟨ky,sy,rfl,(g1.trans g2).trans gy,hy'⟩
theorem QeW{x y:Exp}(k:Int)(qx:kids[0]? = some x)(qy:kids[1]? = some y)(hx:PartE x)(hy:PartE y)(hn:1<=n/\n<=9)(l m:Int)(hm:0<=m/\m<100)(s:St):RetS (Q3B ((Exp.mk k a nm n kids kb cs cb ds db).cells.map .val) (.val (.int .i64 m)) (.val (.int .i64 l)) s) s (parT (decide (levE x<l)) (expT x)++([opN n]++parT (decide (levE y<m+1)) (expT y))):=by
 have f0:ixS 7 (.val (encS kb (kids.map Exp.enc))) (.val (.int .i64 0))=some (.val (.cp x.cells)):=ZU (.mk k a nm n kids kb cs cb ds db) (i:=0) (q:=x) qx
 have f1:ixS 7 (.val (encS kb (kids.map Exp.enc))) (.val (.int .i64 1))=some (.val (.cp y.cells)):=ZU (.mk k a nm n kids kb cs cb ds db) (i:=1) (q:=y) qy
 have cx:=Exp.cells_eq x
 have cy:=Exp.cells_eq y
 rw[cx] at f0
 rw[cy] at f1
 obtain⟨u1,s1,v1,u2,s2,v2,q,s3,e1,av1,hv1,e2,av2,hv2,e3,g,h⟩:=QkB hx hy (opN n) l (m+1) s
 obtain⟨p,hp⟩:=Int.eq_ofNat_of_zero_le (show 0<=n - 1 by omega)
 have hw1:IntKind.i64.wrap (n - 1)=(p:Int):=by rw[wrap64 (by omega) (by omega)];omega
 have hw2:IntKind.i64.wrap (m+1)=m+1:=wrap64 (by omega) (by omega)
 obtain⟨p1,p2⟩:=QnH p (by omega) s1
 rw[show ((p:Int)+1)=n by omega] at p2
 generalize Slot.val (.cp (glob0.drop (p*1)))=pv at p1 p2
 simp only[Exp.enc,cx,cy] at e1 e2
 rw[Qef]
 simp only[go_sem,Nat.reduceAdd,Nat.reduceLeDiff,Exp.cells_mk,f0,f1,e1,e2,hw1,hw2,p1,p2,Qp,hv1.bslx av1,hv2.bslx av2,e3]
 exact⟨q,s3,rfl,g,h⟩
theorem QoY{x y:Exp}(qx:kids[0]? = some x)(qy:kids[1]? = some y)(hx:PartE x)(hy:PartE y)(hn:1<=n/\n<=9):ExpOK (.mk 13 a nm n kids kb cs cb ds db):=λs=>by
 refine Q4J a nm n kids kb cs cb ds db 13 (by decide) s ?_
 have e1:=Q5L (.mk 13 a nm n kids kb cs cb ds db) (show (1:Int)<=13/\(13:Int)<=20 by decide) s
 have hlev:levE (.mk 13 a nm n kids kb cs cb ds db)=bif decide (n≥6) then 5 else bif decide (n<=2) then 6 else 7:=rfl
 rw[hlev] at e1
 rw[Q1f,expT]
 simp only[Exp.enc,Exp.cells_mk] at e1
 cases h6:decide (n≥6) with
 |true=>
   obtain⟨q,s3,e3,g,h⟩:=QeW a nm n kids kb cs cb ds db 13 qx qy hx hy hn 6 5 (by decide) s
   rw[h6] at e1
   simp only[Exp.cells_mk,Yh,Yo] at e3
   simp only[go_sem,Int.reduceEq,Nat.reduceAdd,Nat.reduceLeDiff,Exp.cells_mk,Z8 qx,Z8 qy,decide_true,decide_false,e1,e3,cond_true,cond_false]
   exact⟨q,s3,rfl,g,h⟩
 |false=>
   cases h2:decide (n<=2) with
   |true=>
     obtain⟨q,s3,e3,g,h⟩:=QeW a nm n kids kb cs cb ds db 13 qx qy hx hy hn 6 6 (by decide) s
     rw[h6,h2] at e1
     simp only[Exp.cells_mk,Yh,Yo] at e3
     simp only[go_sem,Int.reduceEq,Nat.reduceAdd,Nat.reduceLeDiff,Exp.cells_mk,Z8 qx,Z8 qy,decide_true,decide_false,e1,e3,cond_true,cond_false]
     exact⟨q,s3,rfl,g,h⟩
   |false=>
     obtain⟨q,s3,e3,g,h⟩:=QeW a nm n kids kb cs cb ds db 13 qx qy hx hy hn 7 7 (by decide) s
     rw[h6,h2] at e1
     simp only[Exp.cells_mk,Yh,Yo] at e3
     simp only[go_sem,Int.reduceEq,Nat.reduceAdd,Nat.reduceLeDiff,Exp.cells_mk,Z8 qx,Z8 qy,decide_true,decide_false,e1,e3,cond_true,cond_false]
     exact⟨q,s3,rfl,g,h⟩
theorem Qcz(k:Int)(w:Str)(hk:k=16/\w=[114,101,102]\/k=17/\w=[33]\/k=19/\w=[112,114,105,110,116]){x:Exp}(qx:kids[0]? = some x)(hx:PartE x):ExpOK (.mk k a nm n kids kb cs cb ds db):=λs=>by
 obtain⟨q,s1,e1,g1,h1⟩:=Q9u w (.mk k a nm n kids kb cs cb ds db) (q:=x) qx hx s
 refine Q4J a nm n kids kb cs cb ds db k (by rcases hk with h|h|h<;>simp[h.1]) s ?_
 rw[Q1f,expT]
 simp only[Exp.enc,Exp.cells_mk] at e1
 rcases hk with ⟨rfl,rfl⟩|⟨rfl,rfl⟩|⟨rfl,rfl⟩
 ·simp only[go_sem,Int.reduceEq,Nat.reduceAdd,Nat.reduceLeDiff,Exp.cells_mk,Z8 qx,decide_true,decide_false,e1,cond_true,cond_false]
  exact⟨q,s1,rfl,g1,h1⟩
 ·simp only[go_sem,Int.reduceEq,Nat.reduceAdd,Nat.reduceLeDiff,Exp.cells_mk,Z8 qx,decide_true,decide_false,e1,cond_true,cond_false]
  exact⟨q,s1,rfl,g1,h1⟩
 ·simp only[go_sem,Int.reduceEq,Nat.reduceAdd,Nat.reduceLeDiff,Exp.cells_mk,Z8 qx,decide_true,decide_false,e1,cond_true,cond_false]
  exact⟨q,s1,rfl,g1,h1⟩
theorem Qp0:ExpOK (.mk 20 a nm n kids kb cs cb ds db):=λs=>by
 refine Q4J a nm n kids kb cs cb ds db 20 (by decide) s ?_
 rw[Q1f,expT]
 simp only[go_sem,Int.reduceEq,Nat.reduceAdd,Nat.reduceLeDiff,Exp.cells_mk,decide_true,decide_false,Qp,cond_true,cond_false]
 exact⟨_,s,rfl,.refl s,(Qm [[114,101,97,100],[40],[41]]).slot⟩
structure PartD (d:Dec):Prop where
 ok:DecOK d
 rn:∃ i,RN (nodesDec i d)
theorem PartD.len{d:Dec}(h:PartD d):(decT d).length+3<=30*d.size:=by obtain⟨i,h⟩:=h.rn;exact QoQ h
theorem Qi3(E:Exp){x:Exp}(qx:E.kids[0]? = some x)(hx:PartE x)(ds:List Dec)(db:Bool)(hl:ds.length<2^40)(s0:St):∀ (suf pre:List Dec) (acc:List Str) (z:Slot) (s:St) (i:Nat),SlotS z acc->Grew s0 s->pre++suf=ds->i=pre.length->(∀ d ∈ suf,PartD d)->acc.length+30*Dec.sizes suf<2^28->
  RetS (Q4h (.val (.fn Q14 [.cp E.cells])) z (.val (encS db (ds.map Dec.enc))) (.val (.int .i64 ds.length)) (.val (.int .i64 i)) s) s0 (acc++((decTs suf).flatten++([[105,110]]++(expT x++[[101,110,100]]))))
 |[],pre,acc,z,s,i,hz,g,hp,hi,H,hb=>by
   subst hi
   obtain⟨v,av,hv⟩:=hz.av
   obtain⟨u,s1,e1,g1,h1⟩:=Q2E E (i:=0) qx hx.ok s
   obtain⟨v1,av1,hv1⟩:=h1.av
   have lx:=hx.len
   simp only[Dec.sizes] at hb
   obtain⟨q,s2,e2,g2,h2⟩:=cat4 hv (Qm [[105,110]]) hv1 (Qm [[101,110,100]]) (by simp only[Yl];omega) s1
   rw[show ((0:Nat):Int)=0 from rfl] at e1
   simp only[Yh,Yo] at e2
   rw[Q9q,decTs]
   simp only[go_sem,Nat.reduceAdd,Qg (by simpa using hp),Qp,Q9L,e1,hv.bslx av,hv1.bslx av1,e2]
   exact⟨q,s2,rfl,(g.trans g1).trans g2,h2⟩
 |d::suf,pre,acc,z,s,i,hz,g,hp,hi,H,hb=>by
   subst hi
   obtain⟨v,av,hv⟩:=hz.av
   have hd:=H d Yd
   obtain⟨u,s1,e1,g1,h1⟩:=hd.ok s
   obtain⟨v1,av1,hv1⟩:=h1.av
   have ld:=hd.len
   simp only[Dec.sizes] at hb
   obtain⟨f1,f2,f3⟩:=Qe (x:=.val (encS db (ds.map Dec.enc))) (Q4 _ _) hp (by omega) (Dec.cells_len d) (by decide)
   obtain⟨q,s2,e2,g2,h2⟩:=cat2 hv hv1 (by omega) s1
   obtain⟨r,s3,e3,g3,h3⟩:=Qi3 E qx hx ds db hl s0 suf (pre++[d]) (acc++decT d) q s2 (pre.length+1) h2 ((g.trans g1).trans g2) (by simpa using hp) (by simp) (λx hx=>H x (Yc _ hx)) (by simp only[Yb];omega)
   have cd:=Dec.cells_eq d
   have hdt:decTs (d::suf)=decT d::decTs suf:=by rw[decTs]
   rw[Q9q,hdt]
   simp only[Dec.enc,cd] at e1 f2
   simp only[go_sem,Nat.reduceAdd,Nat.reduceLeDiff,f1,f2,f3,e1,hv.bslx av,hv1.bslx av1,e2,e3]
   refine⟨r,s3,rfl,g3,?_⟩
   simpa using h3
theorem QqX{x:Exp}(qx:kids[0]? = some x)(hx:PartE x)(HD:∀ d ∈ ds,PartD d)(hs:Dec.sizes ds<2^22):ExpOK (.mk 7 a nm n kids kb cs cb ds db):=λs=>by
 have hl:=Dec.len_sizes ds
 obtain⟨q,s1,e1,g1,h1⟩:=Qi3 (.mk 7 a nm n kids kb cs cb ds db) (x:=x) qx hx ds db (by omega) s ds [] [[108,101,116]] (.val (.sl [.str [108,101,116]])) s 0 (Qm [[108,101,116]]).slot (.refl s) rfl rfl HD (by simp only[Yl];omega)
 rw[show ((0:Nat):Int)=0 from rfl] at e1
 simp only[Exp.cells_mk] at e1
 rw[ZH,expT,Q7W qx]
 simp only[go_sem,Int.reduceEq,Nat.reduceAdd,Nat.reduceLeDiff,Exp.cells_mk,decide_true,decide_false,Qp,Q4,Yi,e1,cond_true,cond_false]
 exact⟨q,s1,rfl,g1,h1⟩
end
open Go Go.Am
set_option maxRecDepth 4000
theorem QnR{t:Ty}(hg:goodB t=true)(hp:varB (λn=>decide (0<=n)&&decide (n<=9223372036854775807)) t=true):shpB t=true:=by
 cases t with
 |mk k n s l b=>
   show (bif decide (k=1) then decide (0<=n)&&decide (n<2^63) else !decide (s=[45,62]) || decide (l.length=2))=true
   cases hk:decide (k=1) with
   |true=>
     have h:=Qdj hp hk
     simp only[Yf,decide_eq_true_eq] at h
     rw[cond_true,decide_eq_true h.1,decide_eq_true (show n<2^63 by omega)];rfl
   |false=>
     obtain⟨-,-,h,-⟩:=Qcx hg hk
     cases hn:decide (s=[45,62]) with
     |false=>rfl
     |true=>
       have hn:=of_decide_eq_true hn
       subst hn
       rw[QhY] at h
       rw[cond_false,decide_eq_true (show l.length=2 by simp at h;omega)];rfl
mutual
theorem QiS:∀ t:Ty,allTy goodB t=true->VarOK t->allTy shpB t=true
 |.mk k n s l b,hg,hp=>by
   unfold VarOK at hp
   simp only[allTy,Yf] at hg hp |-
   exact⟨QnR hg.1 hp.1,Qgi l hg.2 hp.2⟩
theorem Qgi:∀ l:List Ty,allTys goodB l=true->allTys (varB λn=>decide (0<=n)&&decide (n<=9223372036854775807)) l=true->allTys shpB l=true
 |[],_,_=>rfl
 |t::l,hg,hp=>by
   simp only[allTys,Yf] at hg hp |-
   exact⟨QiS t hg.1 hp.1,Qgi l hg.2 hp.2⟩
end
structure PartN (c:Con):Prop where
 ty:c.has=true->TypOK c.arg
 size:c.size<2^22
theorem Qar{c:Con}(H:PartN c)(s:St):RetS (cw (.f Q7M) [c.enc] s) s (conT c):=by
 have ct:=Ty.cells_eq c.arg
 have cc:c.cells = .str c.name :: .int .i64 c.at_ :: .bool c.has::c.arg.cells:=rfl
 rw[QjP]
 unfold conT
 cases hh:c.has with
 |false=>
   simp only[go_sem,Nat.reduceAdd,Nat.reduceLeDiff,Con.enc,cc,ct,hh,Qp,cond_false]
   exact⟨_,s,rfl,.refl s,(Qm [c.name]).slot⟩
 |true=>
   obtain⟨u,s1,e1,g1,h1⟩:=H.ty hh 0 s
   obtain⟨v,av,hv⟩:=h1.av
   have hl:=Q1i c.arg 0
   have hs:=H.size
   unfold Con.size at hs
   obtain⟨q,s2,e2,g2,h2⟩:=cat2 (Qm [c.name,[111,102]]) hv (by simp only[Ya,Ye];omega) s1
   simp only[Yh,Yo] at e2
   simp only[Ty.enc,ct] at e1
   simp only[go_sem,Nat.reduceAdd,Nat.reduceLeDiff,Con.enc,cc,ct,hh,Qp,e1,hv.bslx av,e2,cond_true]
   exact⟨q,s2,rfl,g1.trans g2,h2⟩
theorem Qhx{cs:List Con}{b:Bool}{i:Nat}{c:Con}(hi:cs[i]? = some c):ixS 7 (.val (encS b (cs.map Con.enc))) (.val (.int .i64 (i:Int)))=some (.val (.cp c.cells)):=
 Q0X (Q4 _ _) (show (cs.map Con.enc)[i]? = some c.enc by simp[hi]) (Con.cells_len c) (by decide)
theorem Qr3{fs:List Fun}{b:Bool}{i:Nat}{f:Fun}(hi:fs[i]? = some f):ixS 14 (.val (encS b (fs.map Fun.enc))) (.val (.int .i64 (i:Int)))=some (.val (.cp f.cells)):=
 Q0X (Q4 _ _) (show (fs.map Fun.enc)[i]? = some f.enc by simp[hi]) (Fun.cells_len f) (by decide)
section
variable (a:Int) (nm:Str) (p:Int) (cons:List Con) (nb:Bool) (cs:List Case) (cb:Bool) (fs:List Fun) (fb:Bool)
theorem QqO{c:Case}(qc:cs[0]? = some c)(hc:PartC c):DecOK (.mk 1 a nm p cons nb cs cb fs fb):=λs=>by
 have f0:=QeH (b:=cb) qc
 have cc:c.cells=_:=Case.cells_eq c
 have cp:=Pat.cells_eq c.pat
 have ce:=Exp.cells_eq c.exp
 rw[cc,cp,ce,show ((0:Nat):Int)=0 from rfl] at f0
 simp only[Yk,Ym] at f0
 obtain⟨u1,s1,e1,g1,h1⟩:=Q4i hc.p s
 obtain⟨v1,av1,hv1⟩:=h1.av
 obtain⟨u2,s2,e2,g2,h2⟩:=hc.e.ok s1
 obtain⟨v2,av2,hv2⟩:=h2.av
 have hpl:=Q2G c.pat 0
 have hps:=hc.size
 have hel:=hc.e.len
 obtain⟨q,s3,e3,g3,h3⟩:=cat4 (Qm [[118,97,108]]) hv1 (Qm [[61]]) hv2 (by simp only[Yl];omega) s2
 have hcs:(caseTs cs).headD ([],[],false)=(patT c.pat 0,expT c.exp,openE c.exp):=by
  rw[Q0g]
  cases cs with
  |nil=>simp at qc
  |cons x l=>simp at qc;subst qc;rfl
 rw[Q6D,decT,hcs]
 simp only[Pat.enc,cp] at e1
 simp only[Exp.enc,ce] at e2
 simp only[Yh,Yo] at e3
 simp only[go_sem,Int.reduceEq,Nat.reduceAdd,Nat.reduceLeDiff,Dec.cells_mk,decide_true,decide_false,Qp,f0,e1,e2,hv1.bslx av1,hv2.bslx av2,e3,cond_true,cond_false]
 exact⟨q,s3,rfl,(g1.trans g2).trans g3,h3⟩
theorem QkN{f:Fun}{i:Nat}(qf:fs[i]? = some f)(hc:PartC f.case)(s:St):RetS (cw (.f Q5m) [.int .i64 i,.cp (Dec.mk 2 a nm p cons nb cs cb fs fb).cells] s) s (funT f):=by
 have f0:=Qr3 (b:=fb) qf
 have cf:f.cells=_:=Fun.cells_eq f
 have cc:f.case.cells=_:=Case.cells_eq f.case
 have cp:=Pat.cells_eq f.case.pat
 have ce:=Exp.cells_eq f.case.exp
 rw[cf,cc,cp,ce] at f0
 simp only[Yk,Ym] at f0
 obtain⟨u1,s1,e1,g1,h1⟩:=hc.p 2 s (by decide) (by decide)
 obtain⟨v1,av1,hv1⟩:=h1.av
 obtain⟨u2,s2,e2,g2,h2⟩:=hc.e.ok s1
 obtain⟨v2,av2,hv2⟩:=h2.av
 have hpl:=Q2G f.case.pat 2
 have hps:=hc.size
 have hel:=hc.e.len
 obtain⟨q,s3,e3,g3,h3⟩:=cat4 (Qm [f.name]) hv1 (Qm [[61]]) hv2 (by simp only[Yl];omega) s2
 rw[Qh2]
 simp only[Pat.enc,cp] at e1
 simp only[Exp.enc,ce] at e2
 simp only[Yh,Yo] at e3
 simp only[go_sem,Nat.reduceAdd,Nat.reduceLeDiff,Dec.cells_mk,Qp,f0,e1,e2,hv1.bslx av1,hv2.bslx av2,e3]
 exact⟨q,s3,rfl,(g1.trans g2).trans g3,h3⟩
theorem QqP(HF:∀ f ∈ fs,PartC f.case)(hs:Fun.sizes fs<2^22):DecOK (.mk 2 a nm p cons nb cs cb fs fb):=λs=>by
 have P:PartOK (.fn Q5m [.cp (Dec.mk 2 a nm p cons nb cs cb fs fb).cells]) (funTs fs):=⟨_,_,rfl,λi l hli s=>by
  rw[Q6K,List.getElem?_map,Option.map_eq_some_iff] at hli
  obtain⟨f,h1,rfl⟩:=hli
  exact QkN a nm p cons nb cs cb fs fb h1 (HF f (Ys h1)) s⟩
 have hb:=QhX (l:=fs) (λf hf=>Q4Y (HF f hf).e.rn)
 have hlen:(funTs fs).length=fs.length:=by rw[Q6K,Yi]
 obtain⟨u,s1,e1,g1,h1⟩:=RetA.toS (Q0j [97,110,100] _ (funTs fs) P (λg caps h=>by cases h;kernel_rfl) (by omega) s)
 obtain⟨v,av,hv⟩:=h1.av
 have hj:=QR [97,110,100] (funTs fs) true
 obtain⟨q,s2,e2,g2,h2⟩:=cat2 (Qm [[102,117,110]]) hv (by simp only[Yl];omega) s1
 rw[hlen] at e1
 rw[Q6D,decT]
 simp only[Dec.cells_mk] at e1
 simp only[Yh,Yo] at e2
 simp only[go_sem,Int.reduceEq,Nat.reduceAdd,Nat.reduceLeDiff,Dec.cells_mk,decide_true,decide_false,Qp,Q4,Yi,e1,hv.bslx av,e2,cond_true,cond_false]
 exact⟨q,s2,rfl,g1.trans g2,h2⟩
theorem QqR{c:Con}(qc:cons[0]? = some c)(hc:PartN c):DecOK (.mk 4 a nm p cons nb cs cb fs fb):=λs=>by
 have f0:=Qhx (b:=nb) qc
 have cc:c.cells = .str c.name :: .int .i64 c.at_ :: .bool c.has::c.arg.cells:=rfl
 have ct:=Ty.cells_eq c.arg
 rw[cc,ct,show ((0:Nat):Int)=0 from rfl] at f0
 obtain⟨u,s1,e1,g1,h1⟩:=Qar hc s
 obtain⟨v,av,hv⟩:=h1.av
 have hl:=Qhw c
 have hs:=hc.size
 obtain⟨q,s2,e2,g2,h2⟩:=cat2 (Qm [[101,120,99,101,112,116,105,111,110]]) hv (by simp only[Yl];omega) s1
 have hh:(cons.map conT).headD []=conT c:=by
  cases cons with
  |nil=>simp at qc
  |cons x l=>simp at qc;subst qc;rfl
 rw[Q6D,decT,hh]
 simp only[Con.enc,cc,ct] at e1
 simp only[Yh,Yo] at e2
 simp only[go_sem,Int.reduceEq,Nat.reduceAdd,Nat.reduceLeDiff,Dec.cells_mk,decide_true,decide_false,Qp,f0,e1,hv.bslx av,e2,cond_true,cond_false]
 exact⟨q,s2,rfl,g1.trans g2,h2⟩
theorem QkP{c:Con}{i:Nat}(qc:cons[i]? = some c)(hc:PartN c)(s:St):RetS (cw (.f Q5o) [.int .i64 i,.cp (Dec.mk 3 a nm p cons nb cs cb fs fb).cells] s) s (conT c):=by
 have f0:=Qhx (b:=nb) qc
 have cc:c.cells = .str c.name :: .int .i64 c.at_ :: .bool c.has::c.arg.cells:=rfl
 have ct:=Ty.cells_eq c.arg
 rw[cc,ct] at f0
 obtain⟨u,s1,e1,g1,h1⟩:=Qar hc s
 rw[Qh4]
 simp only[Con.enc,cc,ct] at e1
 simp only[go_sem,Nat.reduceAdd,Nat.reduceLeDiff,Dec.cells_mk,f0,e1]
 exact⟨u,s1,rfl,g1,h1⟩
theorem QkO(i:Nat)(hi:i<2^40)(s:St):RetS (cw (.f Q5n) [.int .i64 i] s) s [varT i]:=by
 have e1:=Qat (i:Int) (by omega) (by omega) s
 rw[Qh3]
 simp only[go_sem,Nat.reduceAdd,e1,Qp]
 exact⟨_,s,rfl,.refl s,(Qm [varT i]).slot⟩
theorem QqN(HN:∀ c ∈ cons,PartN c)(hs:Con.sizes cons<2^22)(z:Slot)(l:List Str)(hz:SlotS z l)(hl:l.length<2^20)(s:St):RetS (Q4f (.val (.cp (Dec.mk 3 a nm p cons nb cs cb fs fb).cells)) z s) s ([[100,97,116,97,116,121,112,101]]++(l++([nm,[61]]++joinT [124] (cons.map conT) true))):=by
 have P:PartOK (.fn Q5o [.cp (Dec.mk 3 a nm p cons nb cs cb fs fb).cells]) (cons.map conT):=⟨_,_,rfl,λi l hli s=>by
  rw[List.getElem?_map,Option.map_eq_some_iff] at hli
  obtain⟨c,h1,rfl⟩:=hli
  exact QkP a nm p cons nb cs cb fs fb h1 (HN c (Ys h1)) s⟩
 have hb:=QaH cons
 obtain⟨v,av,hv⟩:=hz.av
 obtain⟨u1,s1,e1,g1,h1⟩:=RetA.toS (Q0j [124] _ (cons.map conT) P (λg caps h=>by cases h;kernel_rfl) (by rw[Yi];omega) s)
 obtain⟨v1,av1,hv1⟩:=h1.av
 have hj:=QR [124] (cons.map conT) true
 rw[Yi] at hj e1
 obtain⟨q,s2,e2,g2,h2⟩:=cat4 (Qm [[100,97,116,97,116,121,112,101]]) hv (Qm [nm,[61]]) hv1 (by simp only[Ya,Ye];omega) s1
 rw[Qfr]
 simp only[Dec.cells_mk] at e1
 simp only[Yh,Yo] at e2
 simp only[go_sem,Nat.reduceAdd,Dec.cells_mk,Qp,Q4,Yi,e1,hv.bslx av,hv1.bslx av1,e2]
 exact⟨q,s2,rfl,g1.trans g2,h2⟩
theorem QqQ(hp:0<=p/\p<=8)(HN:∀ c ∈ cons,PartN c)(hs:Con.sizes cons<2^22):DecOK (.mk 3 a nm p cons nb cs cb fs fb):=λs=>by
 have J:=QqN a nm p cons nb cs cb fs fb HN hs
 have J0:∀ (z:Slot) (l:List Str),SlotS z l->l.length<2^19->∀ s,RetS (Q4e (.val (.cp (Dec.mk 3 a nm p cons nb cs cb fs fb).cells)) z s) s ([[100,97,116,97,116,121,112,101]]++(parT (decide (p>1)) l++([nm,[61]]++joinT [124] (cons.map conT) true))):=λz l hz hl s=>by
  obtain⟨v,av,hv⟩:=hz.av
  rw[Qfq]
  cases hd:decide (p>1) with
  |false=>
    obtain⟨q,s1,e1,g1,h1⟩:=J z l hz (by omega) s
    simp only[Dec.cells_mk] at e1
    simp only[go_sem,Dec.cells_mk,hd,e1]
    exact⟨q,s1,rfl,g1,h1⟩
  |true=>
    obtain⟨w,s1,e1,g1,h1⟩:=QaU hv (by omega) s
    obtain⟨q,s2,e2,g2,h2⟩:=J w _ h1 (by simp only[Ya,Yb,Ye];omega) s1
    simp only[Dec.cells_mk] at e2
    simp only[go_sem,Dec.cells_mk,hd,QW av,e1,e2]
    exact⟨q,s2,rfl,g1.trans g2,h2⟩
 rw[Q6D,decT]
 unfold parmT
 cases h0:decide (p>0) with
 |false=>
   have hp0:=of_decide_eq_false h0
   obtain⟨q,s1,e1,g1,h1⟩:=J0 (.val .nils) [] ⟨⟨.nils,rfl,rfl⟩,rfl⟩ (by decide) s
   rw[decide_eq_false (show ¬ p>1 by omega)] at h1
   simp only[Dec.cells_mk] at e1
   simp only[go_sem,Int.reduceEq,Nat.reduceAdd,Nat.reduceLeDiff,Dec.cells_mk,decide_true,decide_false,h0,e1,cond_true,cond_false]
   exact⟨q,s1,rfl,g1,h1⟩
 |true=>
   obtain⟨m,rfl⟩:=Int.eq_ofNat_of_zero_le hp.1
   have P:PartOK (.fn Q5n []) ((List.range m).map λi=>[varT i]):=⟨_,_,rfl,λi l hli s=>by
    rw[List.getElem?_map,Option.map_eq_some_iff] at hli
    obtain⟨j,h1,rfl⟩:=hli
    have hj:=List.getElem?_range (n:=m) (i:=i)
    have hlt:=(List.getElem?_eq_some_iff.1 h1).1
    rw[List.length_range] at hlt
    rw[List.getElem?_range hlt] at h1
    cases h1
    exact QkO i (by omega) s⟩
   have hsum:(((List.range m).map λi=>[varT i]).map (·.length)).sum=m:=by
    have:∀ l:List Nat,((l.map λi=>[varT i]).map (·.length)).sum=l.length:=by
     intro l
     induction l with
     |nil=>rfl
     |cons a l ih=>simp only[Yh,Yv,ih,Ya,Ye];omega
    rw[this,List.length_range]
   have hlen:((List.range m).map λi=>[varT i]).length=m:=by simp
   obtain⟨u,s1,e1,g1,h1⟩:=RetA.toS (Q0j [44] _ ((List.range m).map λi=>[varT i]) P (λg caps h=>by cases h;kernel_rfl) (by omega) s)
   have hj:=QR [44] ((List.range m).map λi=>[varT i]) true
   rw[hsum,hlen] at hj
   rw[hlen] at e1
   obtain⟨q,s2,e2,g2,h2⟩:=J0 u _ h1 (by omega) s1
   simp only[Dec.cells_mk] at e2
   simp only[go_sem,Int.reduceEq,Nat.reduceAdd,Nat.reduceLeDiff,Dec.cells_mk,decide_true,decide_false,h0,e1,e2,cond_true,cond_false,Int.toNat_natCast]
   exact⟨q,s2,rfl,g1.trans g2,h2⟩
end
theorem nth0{α:Type}{l:List α}(h:0<l.length):∃ x,l[0]? = some x/\x ∈ l:=⟨l[0],by simp[h],List.getElem_mem h⟩
theorem nth1{α:Type}{l:List α}(h:1<l.length):∃ x,l[1]? = some x/\x ∈ l:=⟨l[1],by simp[h],List.getElem_mem h⟩
theorem nth2{α:Type}{l:List α}(h:2<l.length):∃ x,l[2]? = some x/\x ∈ l:=⟨l[2],by simp[h],List.getElem_mem h⟩
theorem Qp1(k a:Int)(nm:Str)(n:Int)(kids:List Exp)(kb:Bool)(cs:List Case)(cb:Bool)(ds:List Dec)(db:Bool)(I:ExpIs k n nm kids.length cs.length ds.length)(hs:(Exp.mk k a nm n kids kb cs cb ds db).size<2^22)
  (HK:∀ e ∈ kids,PartE e) (HC:∀ c ∈ cs,PartC c) (HD:∀ d ∈ ds,PartD d):ExpOK (.mk k a nm n kids kb cs cb ds db):=by
 simp only[Exp.size] at hs
 have hk:k=1\/k=2\/k=3\/k=4\/k=5\/k=6\/k=7\/k=8\/k=9\/k=10\/k=11\/k=12\/k=13\/k=14\/k=15\/k=16\/k=17\/k=18\/k=19\/k=20:=by have:=I.kind;omega
 have one:∀ h:k=12\/k=16\/k=17\/k=19,∃ x,kids[0]? = some x/\x ∈ kids:=λh=>nth0 (by have:=I.one h;omega)
 have two:∀ h:k=6\/k=14\/k=15\/k=18,∃ x y,kids[0]? = some x/\kids[1]? = some y/\x ∈ kids/\y ∈ kids:=λh=>by
  have:=I.two h
  obtain⟨x,h1,h2⟩:=nth0 (l:=kids) (by omega)
  obtain⟨y,h3,h4⟩:=nth1 (l:=kids) (by omega)
  exact⟨x,y,h1,h3,h2,h4⟩
 rcases hk with rfl|rfl|rfl|rfl|rfl|rfl|rfl|rfl|rfl|rfl|rfl|rfl|rfl|rfl|rfl|rfl|rfl|rfl|rfl|rfl
 ·exact QqS a nm n kids kb cs cb ds db (I.int rfl)
 ·exact QqT a nm n kids kb cs cb ds db
 ·exact QqU a nm n kids kb cs cb ds db HK (by have:=(I.con rfl).2;omega)
 ·exact QhL a nm n kids kb cs cb ds db 4 [44] (.inl ⟨rfl,rfl⟩) HK (by omega)
 ·exact QqV a nm n kids kb cs cb ds db HC (by omega)
 ·obtain⟨x,y,h1,h2,h3,h4⟩:=two (by simp)
  exact QqW a nm n kids kb cs cb ds db h1 h2 (HK x h3) (HK y h4)
 ·obtain⟨x,h1,h2⟩:=nth0 (l:=kids) (by have:=(I.letd rfl).1;omega)
  exact QqX a nm n kids kb cs cb ds db h1 (HK x h2) HD (by omega)
 ·obtain⟨x,h1,h2⟩:=nth0 (l:=kids) (by have:=I.if_ rfl;omega)
  obtain⟨y,h3,h4⟩:=nth1 (l:=kids) (by have:=I.if_ rfl;omega)
  obtain⟨z,h5,h6⟩:=nth2 (l:=kids) (by have:=I.if_ rfl;omega)
  exact QqY a nm n kids kb cs cb ds db h1 h3 h5 (HK x h2) (HK y h4) (HK z h6)
 ·obtain⟨x,h1,h2⟩:=nth0 (l:=kids) (by have:=(I.case_ rfl).1;omega)
  exact QqZ a nm n kids kb cs cb ds db h1 (HK x h2) HC (by omega)
 ·exact QhL a nm n kids kb cs cb ds db 10 [59] (.inr ⟨rfl,rfl⟩) HK (by omega)
 ·obtain⟨x,h1,h2⟩:=nth0 (l:=kids) (by have:=(I.try_ rfl).1;omega)
  exact QoW a nm n kids kb cs cb ds db h1 (HK x h2) HC (by omega)
 ·obtain⟨x,h1,h2⟩:=one (by simp)
  exact QoX a nm n kids kb cs cb ds db h1 (HK x h2)
 ·obtain⟨hl,hn⟩:=I.op rfl
  obtain⟨x,h1,h2⟩:=nth0 (l:=kids) (by omega)
  obtain⟨y,h3,h4⟩:=nth1 (l:=kids) (by omega)
  exact QoY a nm n kids kb cs cb ds db h1 h3 (HK x h2) (HK y h4) hn
 ·obtain⟨x,y,h1,h2,h3,h4⟩:=two (by simp)
  exact QfV a nm n kids kb cs cb ds db 14 5 4 _ (.inr ⟨rfl,rfl,rfl,rfl⟩) h1 h2 (HK x h3) (HK y h4)
 ·obtain⟨x,y,h1,h2,h3,h4⟩:=two (by simp)
  exact QfV a nm n kids kb cs cb ds db 15 4 3 _ (.inl ⟨rfl,rfl,rfl,rfl⟩) h1 h2 (HK x h3) (HK y h4)
 ·obtain⟨x,h1,h2⟩:=one (by simp)
  exact Qcz a nm n kids kb cs cb ds db 16 _ (.inl ⟨rfl,rfl⟩) h1 (HK x h2)
 ·obtain⟨x,h1,h2⟩:=one (by simp)
  exact Qcz a nm n kids kb cs cb ds db 17 _ (.inr (.inl ⟨rfl,rfl⟩)) h1 (HK x h2)
 ·obtain⟨x,y,h1,h2,h3,h4⟩:=two (by simp)
  exact QoZ a nm n kids kb cs cb ds db h1 h2 (HK x h3) (HK y h4)
 ·obtain⟨x,h1,h2⟩:=one (by simp)
  exact Qcz a nm n kids kb cs cb ds db 19 _ (.inr (.inr ⟨rfl,rfl⟩)) h1 (HK x h2)
 ·exact Qp0 a nm n kids kb cs cb ds db
theorem Qj7:∀ m:Nat,(∀ e:Exp,e.size<=m->e.size<2^22->RN (nodesExp e)->ExpOK e)/\(∀ (d:Dec) (i:Bool),d.size<=m->d.size<2^22->RN (nodesDec i d)->(i=true\/NumCons d.cons)->DecOK d)
 |0=>⟨λe h=>by cases e;simp only[Exp.size] at h;omega,λd i h=>by cases d;simp only[Dec.size] at h;omega⟩
 |m+1=>by
   obtain⟨HE,HD⟩:=Qj7 m
   have HC:∀ cs:List Case,Case.sizes cs<=m->Case.sizes cs<2^22->RN (nodesCases cs)->∀ c ∈ cs,PartC c:=λcs hs hs2 hr c hc=>by
    have h1:=Case.mem_sizes hc
    have h2:=RN.cases hr c hc
    cases c with
    |mk p e=>
      simp only[Case.size] at h1
      simp only[nodesCase] at h2
      exact⟨Q3k p.size p (Yg _) (by omega) h2.l,⟨HE e (by omega) (by omega) h2.r,h2.r,by show e.size<_;omega⟩,by show p.size<_;omega⟩
   refine⟨λe h hb hr=>?_,λd i h hb hr hn=>?_⟩
   ·cases e with
    |mk k a nm n kids kb cs cb ds db=>
      have hb':=hb
      simp only[Exp.size] at h hb
      simp only[nodesExp] at hr
      have I:ExpIs k n nm kids.length cs.length ds.length:=QaP (hr _ Yd)
      have hr':=hr.t
      refine Qp1 k a nm n kids kb cs cb ds db I hb' (λe he=>?_) (HC cs (by omega) (by omega) hr'.r.r) (λd hd=>?_)
      ·have:=Exp.mem_sizes he
       exact⟨HE e (by omega) (by omega) (RN.exps hr'.r.l e he),RN.exps hr'.r.l e he,by omega⟩
      ·have:=Dec.mem_sizes hd
       exact⟨HD d true (by omega) (by omega) (RN.decs hr'.l d hd) (.inl rfl),true,RN.decs hr'.l d hd⟩
   ·cases d with
    |mk k a nm p cons nb cs cb fs fb=>
      simp only[Dec.size] at h hb
      simp only[nodesDec] at hr
      have I:DecIs k nm p cons.length cs.length fs.length i:=QaK (hr _ Yd)
      have hr':=hr.t
      have HN:∀ c ∈ cons,PartN c:=λc hc=>by
       have h1:=Con.mem_sizes hc
       refine⟨λhh=>?_,by omega⟩
       rcases hn with rfl|hn
       ·have hz:cons=[]:=by
         rcases I.inn rfl with h2|h2
         ·exact len0 (I.val h2).2.2
         ·exact len0 (I.fn h2).2.1
        rw[hz] at hc;cases hc
       ·have hv:=hn c hc hh
        have hw:∀ n ∈ nodesTy c.at_ c.arg,n.wrong.1=0:=λnd hnd=>hr'.r.r nd (Q3t hc nd (by unfold nodesCon;rw[hh];exact Yc _ hnd))
        have hsz:c.arg.size<2^26:=by unfold Con.size at h1;omega
        exact Q4E c.arg.size c.arg (Yg _) hsz (QiS c.arg (Q87 c.at_ c.arg hw) hv)
      rcases I.kind with rfl|rfl|rfl|rfl
      ·obtain⟨c,h1,h2⟩:=nth0 (l:=cs) (by have:=(I.val rfl).1;omega)
       exact QqO a nm p cons nb cs cb fs fb h1 (HC cs (by omega) (by omega) hr'.l c h2)
      ·refine QqP a nm p cons nb cs cb fs fb (λf hf=>?_) (by omega)
       have h1:=Fun.mem_sizes hf
       have h2:=RN.funs hr'.r.l f hf
       cases f with
       |mk nm' a' c'=>
         cases c' with
         |mk p' e'=>
           simp only[Fun.size,Case.size] at h1
           simp only[Fun.case,nodesCase] at h2
           exact⟨Q3k p'.size p' (Yg _) (by omega) h2.l,⟨HE e' (by omega) (by omega) h2.r,h2.r,by show e'.size<_;omega⟩,by show p'.size<_;omega⟩
      ·exact QqQ a nm p cons nb cs cb fs fb ⟨(I.data rfl).2.2.1,(I.data rfl).2.2.2.1⟩ HN (by omega)
      ·obtain⟨c,h1,h2⟩:=nth0 (l:=cons) (by have:=(I.exn rfl).2.2;omega)
       exact QqR a nm p cons nb cs cb fs fb h1 (HN c h2)
theorem Qr0{e:Exp}(hs:e.size<2^22)(hr:RN (nodesExp e)):ExpOK e:=(Qj7 e.size).1 e (Yg _) hs hr
end Go.Proofs.YtgfhplcmcdimiaaGreatDoor