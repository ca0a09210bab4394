/- A part of the proof: SRef6, SExp7, SKnows, SKnow7, SFew7, RNum, RDec7, LShowTells. -/
import Derived.Test.YtgfhplcmcdimiaaGreatDoorM8
import Derived.Test.YtgfhplcmcdimiaaGreatDoorM10
import Derived.Test.YtgfhplcmcdimiaaGreatDoorM11
import Derived.Test.YtgfhplcmcdimiaaGreatDoorM13
import Derived.Test.YtgfhplcmcdimiaaGreatDoorM15
set_option linter.unusedVariables false
set_option linter.unusedSimpArgs false
namespace Go.Proofs.YtgfhplcmcdimiaaGreatDoor
open Go Go.Am
set_option linter.unusedVariables false
set_option maxRecDepth 4000
theorem Q46(L:List TNode)(z:Slot)(hz:z.list? = some (L.map TNode.enc))(hl:L.length<2^40):∀ (suf pre:List TNode) (n:Nat) (s:St) (i:Nat),pre++suf=L→i=pre.length→n+suf.length<2^40→
  Q0G z (.val (.int .i64 n)) (.val (.int .i64 i)) s=some (.ret (.val (.int .i64 (n+countN suf:Nat))),s)
 |[],pre,n,s,i,h,hi,hb=>by
   subst hi
   rw[Q6o];simp only[go_sem,hz,Qa (by simpa using h)];rfl
 |u::suf,pre,n,s,i,h,hi,hb=>by
   subst hi
   obtain⟨f1,f2,f3⟩:=Q9 hz h (by omega) (TNode.cells_len u) (by decide)
   have hw:IntKind.i64.wrap ((n:Int)+1)=((n+1:Nat):Int):=by rw[wrap64 (by omega) (by omega)];rfl
   simp only[List.length_cons] at hb
   rw[TNode.enc,QdR,TNode.cells_3] at f2
   have h1:=Q46 L z hz hl suf (pre++[u]) n s (pre.length+1) (by simpa using h) (by simp) (by omega)
   have h2:=Q46 L z hz hl suf (pre++[u]) (n+1) s (pre.length+1) (by simpa using h) (by simp) (by omega)
   rw[Q6o];simp only[go_sem,hz,f1,f2,f3,TNode.what_isNode,hw,h1,h2]
   cases hu:u.isNode
   ·have e:countN (u::suf)=countN suf:=by simp[countN,hu]
    simp only[go_sem,e]
   ·have e:countN (u::suf)=countN suf+1:=by simp[countN,hu]
    simp only[go_sem,e]
    rw[show n+1+countN suf=n+(countN suf+1) by omega]
theorem Qbo(l:List TNode)(v:AV)(hv:(Slot.val v).list? = some (l.map TNode.enc))(s:St)(h:l.length<2^39):cw (.f Q3P) [v] s=some (.ret (.val (.int .i64 (countN l))),s):=by
 rw[Qdh]
 have:=Q46 l (.val v) hv (by omega) l [] 0 s 0 rfl rfl (by omega)
 rw[Nat.zero_add] at this
 exact this
theorem Q7c(L:List TNode)(z:Slot)(hz:z.list? = some (L.map TNode.enc))(hl:L.length<2^40):∀ (suf pre:List TNode) (s:St) (i:Nat),pre++suf=L→i=pre.length→(∀ n ∈ suf,n.ok)→
  Q1X z [.val (.int .i64 0),.val (.int .i64 0),.val (.str [])] (.val (.int .i64 i)) s=some (.ret (.val (firstBad suf).enc),s)
 |[],pre,s,i,h,hi,H=>by
   subst hi
   rw[Q6r];simp only[go_sem,Nat.reduceAdd,Nat.reduceLeDiff,hz,Qa (by simpa using h)];rfl
 |u::suf,pre,s,i,h,hi,H=>by
   subst hi
   obtain⟨f1,f2,f3⟩:=Q9 hz h (by omega) (TNode.cells_len u) (by decide)
   obtain⟨nm,e1,e2⟩:=Qbt u s (H u (List.mem_cons_self))
   have ih:=Q7c L z hz hl suf (pre++[u]) s (pre.length+1) (by simpa using h) (by simp) (λw hw=>H w (List.mem_cons_of_mem _ hw))
   have f2':=f2
   rw[TNode.enc,QdR,TNode.cells_3] at f2'
   have hj:∀ (e:Int) (nm:Str),Q1W z [.val (.int .i64 0),.val (.int .i64 0),.val (.str [])] (.val (.int .i64 pre.length)) (.val (.int .i64 e)) (.val (.str nm)) s=some (.ret (.val (TBad.mk e u.at_ nm).enc),s):=λe nm=>by
    rw[Qan];simp only[go_sem,Nat.reduceAdd,Nat.reduceLeDiff,f2'];rfl
   rw[Q6r];simp only[go_sem,Nat.reduceAdd,Nat.reduceLeDiff,hz,f1,f2,f3,e1,ih,hj]
   by_cases h0:u.wrong.1=0
   ·simp only[go_sem,Int.reduceEq,h0,firstBad,TNode.bad,mkBad,TBad.zero]
   ·have hk:decide (u.bad.kind=0)=false:=by simp[TNode.bad,mkBad,h0]
    by_cases h8:u.wrong.1=8
    ·have:=e2 h8
     subst this
     simp only[go_sem,Int.reduceEq,h8,firstBad,hk]
     simp only[TNode.bad,h8];rfl
    ·simp only[go_sem,decide_eq_false h0,decide_eq_false h8,firstBad,hk]
     simp only[TNode.bad,mkBad,decide_eq_false h0,decide_eq_false h8];rfl
theorem Qbq(l:List TNode)(v:AV)(hv:(Slot.val v).list? = some (l.map TNode.enc))(deep:Int)(s:St)(h:l.length<2^39)(H:∀ n ∈ l,n.ok):cw (.f Q2j) [v,.int .i64 deep] s=some (.ret (.val (rightN l deep).enc),s):=by
 have h1:=Qbo l v hv s h
 have h2:=Q7c l (.val v) hv (by omega) l [] s 0 rfl rfl H
 rw[show ((0:Nat):Int)=0 from rfl] at h2
 rw[Qdl];simp only[go_sem,Nat.reduceAdd,Nat.reduceLeDiff,h1,h2]
 have e:decide ((countN l:Int)>8192)=decide (countN l>8192):=by simp only[gt_iff_lt];congr 1;rw[eq_iff_iff];omega
 rw[e]
 unfold rightN
 cases decide (countN l>8192) <;> cases decide (deep>100) <;> rfl
theorem Qbk(l:List Dec)(nl:Bool)(s:St)(h:Dec.sizes l<2^26)(H:∀ n ∈ nodesDecs false l,n.ok):Ret (cw (.f Q68) [encS nl (l.map Dec.enc)] s) s (rightN (nodesDecs false l) (deepDecs l 0)).enc:=by
 obtain⟨x,s1,e1,g1⟩:=QeR l nl s h
 have hlen:=Q3S false l
 obtain⟨b,hb⟩:=g1.av
 have h2:=Qc9 l nl s1 (by omega)
 have h3:=Qbq (nodesDecs false l) (encS b ((nodesDecs false l).map TNode.enc)) (by simp only[go_sem]) (deepDecs l 0) s1 (by omega) H
 rw[Qde];simp only[go_sem,e1,h2,QS hb,h3]
 exact Ret.mk g1.grew
end Go.Proofs.YtgfhplcmcdimiaaGreatDoor
namespace Go.Am
open Go
def exprS(e:Exp):Str:=bif decide ((rightN (nodesExp e) (deepExp e)).kind=0) then expS e else []
def patnS(p:Pat):Str:=bif decide ((rightN (nodesPat p) (deepPat p)).kind=0) then patS p else []
def progS(l:List Dec):Str:=bif decide ((rightN (nodesDecs false l) (deepDecs l 0)).kind=0) then ((decSs l).map (· ++ [10])).flatten else []
end Go.Am
namespace Go.Proofs.YtgfhplcmcdimiaaGreatDoor
open Go Go.Am
set_option linter.unusedVariables false
set_option maxRecDepth 4000
theorem Qai{l:List TNode}{D:Int}(h:(rightN l D).kind=0):RN l:=Qhn (QiH.1 h)
theorem QhG{e:Exp}(hr:RN (nodesExp e)):textB (expT e)=expS e:=((QcU e.size).1 e (Nat.le_refl _) hr).2
theorem Qm7{d:Dec}{i:Bool}(hr:RN (nodesDec i d))(hn:NumCons d.cons):textB (decT d)=decS d:=((QcU d.size).2 d i (Nat.le_refl _) hr (.inr hn)).2
theorem Q5w(e:Exp)(s:St)(hs:e.size<2^22)(H:∀ n ∈ nodesExp e,n.ok):Ret (cw (.f Q3w) [e.enc] s) s (.str (exprS e)):=by
 obtain⟨s1,e1,g1⟩:=Qa0 e s (by omega) H
 unfold exprS
 have hR:=Qai (l:=nodesExp e) (D:=deepExp e)
 generalize rightN (nodesExp e) (deepExp e)=R at *
 cases R with
 |mk k a nm=>
   have c:=Exp.cells_eq e
   rw[QgD]
   simp only[Exp.enc,c,TBad.enc,TBad.cells] at e1 ⊢
   cases hk:decide (k=0) with
   |false=>
     simp only[go_sem,Nat.reduceAdd,Nat.reduceLeDiff,e1,hk,cond_false]
     exact⟨s1,rfl,g1⟩
   |true=>
     have hr:=hR (of_decide_eq_true hk)
     obtain⟨u,s2,e2,g2,h2⟩:=Qow hs hr s1
     obtain⟨v,av,hv⟩:=h2.av
     have t1:=QbB (expT e)
     rw[QhG hr] at t1
     have t2:=Q4c hr
     have t3:=Q71 hr
     obtain⟨s3,e3,g3⟩:=Q3j (expT e) v hv (by omega) s2
     rw[QhG hr] at e3
     simp only[Exp.enc,c] at e2
     simp only[go_sem,Nat.reduceAdd,Nat.reduceLeDiff,e1,e2,e3,hk,QS av,cond_true]
     exact⟨s3,rfl,(g1.trans g2).trans g3⟩
theorem Qau(p:Pat)(s:St)(hs:p.size<2^22)(H:∀ n ∈ nodesPat p,n.ok):Ret (cw (.f Q5h) [p.enc] s) s (.str (patnS p)):=by
 obtain⟨s1,e1,g1⟩:=Qa2 p s (by omega) H
 unfold patnS
 have hR:=Qai (l:=nodesPat p) (D:=deepPat p)
 generalize rightN (nodesPat p) (deepPat p)=R at *
 cases R with
 |mk k a nm=>
   have c:=Pat.cells_eq p
   rw[Qcq]
   simp only[Pat.enc,c,TBad.enc,TBad.cells] at e1 ⊢
   cases hk:decide (k=0) with
   |false=>
     simp only[go_sem,Nat.reduceAdd,Nat.reduceLeDiff,e1,hk,cond_false]
     exact⟨s1,rfl,g1⟩
   |true=>
     have hr:=hR (of_decide_eq_true hk)
     obtain⟨u,s2,e2,g2,h2⟩:=Q3E (Q2L p.size p (Nat.le_refl _) (by omega) hr) s1
     obtain⟨v,av,hv⟩:=h2.av
     have hl:=(Qal p.size p (Nat.le_refl _) hr 0 (by decide)).2
     rw[Q8Q,show parS false (patS p)=patS p from rfl] at hl
     have t1:=QbB (patT p 0)
     rw[hl] at t1
     have t2:=Q2f p 0
     have t3:=Q44 p.size p (Nat.le_refl _) hr
     obtain⟨s3,e3,g3⟩:=Q3j (patT p 0) v hv (by omega) s2
     rw[hl] at e3
     simp only[Pat.enc,c] at e2
     simp only[go_sem,Nat.reduceAdd,Nat.reduceLeDiff,e1,e2,e3,hk,QS av,cond_true]
     exact⟨s3,rfl,(g1.trans g2).trans g3⟩
structure PartW (d:Dec):Prop where
 size:d.size<2^22
 rn:RN (nodesDec false d)
 num:NumCons d.cons
theorem Qen(ds:List Dec)(b:Bool)(hl:ds.length<2^40)(H:∀ d ∈ ds,PartW d)(loc:Nat)(s0:St)(hloc:s0.locs.length≤loc):∀ (suf pre:List Dec) (bs:Str) (h:List Nat) (s:St) (i:Nat),BldIs s loc bs h→Moves [] [] [] s0 s→(∀ k ∈ h,s0.toks.length≤k)→pre++suf=ds→i=pre.length→bs.length+((decSs suf).map (·.length)).sum+10*suf.length<2^40→
  Ret (Q1f (.val (.vp loc 0)) (.val (encS b (ds.map Dec.enc))) (.val (.int .i64 ds.length)) (.val (.int .i64 i)) s) s0 (.str (bs++((decSs suf).map (· ++ [10])).flatten))
 |[],pre,bs,h,s,i,HB,m,hk,hp,hi,hb=>by
   subst hi
   obtain⟨s',e1,m1⟩:=Q9t HB
   rw[Q64,Q2T]
   simp only[go_sem,Qa (by simpa using hp),e1,List.map_nil,List.flatten_nil,List.append_nil]
   exact⟨s',rfl,(m.since m1 (by simp) (λk h'=>.inr (hk k h'))).toGrew⟩
 |d::suf,pre,bs,h,s,i,HB,m,hk,hp,hi,hb=>by
   subst hi
   obtain⟨f1,f2',f3⟩:=Q9 (x:=.val (encS b (ds.map Dec.enc))) (Q4 _ _) hp (by omega) (Dec.cells_len d) (by decide)
   have f2:ixS 7 (.val (encS b (ds.map Dec.enc))) (.val (.int .i64 (pre.length:Int)))=some (.val (.cp d.cells)):=f2'
   clear f2'
   obtain⟨hsz,hr,hn⟩:=H d (by rw[←hp];simp)
   have hS:decSs (d::suf)=decS d::decSs suf:=by rw[decSs]
   rw[hS] at hb ⊢
   simp only[List.map_cons,List.sum_cons,List.length_cons,List.flatten_cons] at hb ⊢
   have cd:=Dec.cells_eq d
   obtain⟨u,s1,e1,g1,h1⟩:=Qon hsz hr hn s
   obtain⟨v,av,hv⟩:=h1.av
   have hl2:=Qm7 hr hn
   have t1:=QbB (decT d)
   rw[hl2] at t1
   have t2:=QhD hr
   have t3:=Q6Z hr (.inr hn)
   obtain⟨s2,e2,g2⟩:=Q3j (decT d) v hv (by omega) s1
   rw[hl2] at e2
   have b1:=Qlu e1
   have b2:=Qlu e2
   have B1:=(HB.stay g1 b1).stay g2 b2
   have m1:Moves [loc] h h s s2:=Moves.grew _ _ (g1.trans g2)
   obtain⟨s3,h3,e3,B3,m3⟩:=Q3r B1 (decS d) (by omega)
   obtain⟨s4,h4,e4,B4,m4⟩:=Q7u B3 10 (by simp only[List.length_append];omega)
   rw[show ((10:UInt8).toNat:Int)=10 from rfl] at e4
   have c:=(m1.trans m3).trans m4
   have ih:=Qen ds b hl H loc s0 hloc suf (pre++[d]) (bs++decS d++[10]) h4 s4 (pre.length+1) B4 (m.since c (λi hi=>by simp only[List.mem_singleton] at hi;subst hi;exact .inr hloc) (λk h'=>.inr (hk k h'))) (λk hk'=>(c.new k hk').elim (hk k) (λh=>Nat.le_trans m.tl h)) (by simpa using hp) (by simp) (by simp only[List.length_append,List.length_singleton];omega)
   rw[cd] at f2
   simp only[Dec.enc,cd] at e1
   simp only[List.append_assoc] at ih
   rw[Q64]
   simp only[go_sem,Nat.reduceAdd,Nat.reduceLeDiff,f1,f2,f3,e1,QS av,e2,e3,e4,List.append_assoc]
   exact ih
theorem Q6K{l:List Dec}(hs:Dec.sizes l<2^22)(hr:RN (nodesDecs false l))(hn:∀ d ∈ l,NumCons d.cons):∀ d ∈ l,PartW d:=λd hd=>
 ⟨by have:=Dec.mem_sizes hd;omega,RN.decs hr d hd,hn d hd⟩
theorem Qgl{l:List Dec}(hr:RN (nodesDecs false l))(hn:∀ d ∈ l,NumCons d.cons):((decSs l).map (·.length)).sum+l.length≤500*Dec.sizes l:=by
 have H:∀ d ∈ l,(decS d).length+20≤500*d.size:=λd hd=>Q6Z (RN.decs hr d hd) (.inr (hn d hd))
 clear hr hn
 rw[Q2T]
 induction l with
 |nil=>simp[Dec.sizes]
 |cons d l ih=>
   have h1:=H d List.mem_cons_self
   have h2:=ih λx hx=>H x (List.mem_cons_of_mem _ hx)
   simp only[List.map_cons,List.sum_cons,List.length_cons,Dec.sizes]
   omega
theorem Qav(l:List Dec)(nl:Bool)(s:St)(hs:Dec.sizes l<2^22)(H:∀ n ∈ nodesDecs false l,n.ok)(hn:RN (nodesDecs false l)→∀ d ∈ l,NumCons d.cons):Ret (cw (.f Q3b) [encS nl (l.map Dec.enc)] s) s (.str (progS l)):=by
 obtain⟨s1,e1,g1⟩:=QcB l nl s (by omega) H
 unfold progS
 have hR:=Qai (l:=nodesDecs false l) (D:=deepDecs l 0)
 have hlen:=Dec.len_sizes l
 generalize rightN (nodesDecs false l) (deepDecs l 0)=R at *
 cases R with
 |mk k a nm=>
   rw[Qcr]
   simp only[TBad.enc,TBad.cells] at e1 ⊢
   cases hk:decide (k=0) with
   |false=>
     simp only[go_sem,Nat.reduceAdd,Nat.reduceLeDiff,e1,hk,cond_false]
     exact⟨s1,rfl,g1⟩
   |true=>
     have hr:=hR (of_decide_eq_true hk)
     have hn:=hn hr
     have hsum:=Qgl hr hn
     have HB:BldIs (St.addLocT s1 (.var (List.map .val (C.ti QL).zero)) QL) s1.locs.length [] []:=by
      refine⟨by simp[isBld,St.addLocT],.val .nilp,.val .nils,?_,.inl rfl,.inl ⟨rfl,rfl,rfl⟩,λl h=>by cases h⟩
      simp only[St.addLocT,Q84]
      rw[List.getElem?_append_right (Nat.le_refl _)]
      simp
     have m:Moves [] [] [] s (St.addLocT s1 (.var (List.map .val (C.ti QL).zero)) QL):=Moves.grew _ _ (g1.trans ⟨⟨_,rfl⟩,⟨[],by simp[St.addLocT]⟩⟩)
     obtain⟨s2,e2,g2⟩:=Qen l nl (by omega) (Q6K hs hr hn) s1.locs.length s g1.locsLe l [] [] [] _ 0 HB m (by simp) rfl rfl (by simp only[List.length_nil];omega)
     rw[show ((0:Nat):Int)=0 from rfl,List.nil_append] at e2
     simp only[go_sem,Nat.reduceLeDiff,e1,hk,cond_true,Q4,List.length_map] at e2 ⊢
     exact⟨s2,e2,g2⟩
theorem Q9U(l:List Dec)(nl:Bool)(s:St)(hs:Dec.sizes l<2^22)(H:∀ n ∈ nodesDecs false l,n.ok)(hn:RN (nodesDecs false l)→∀ d ∈ l,NumCons d.cons):Ret (cw (.f Q4p) [encS nl (l.map Dec.enc)] s) s (.str (progS l)):=by
 obtain⟨s1,e1,g1⟩:=Qbk l nl s (by omega) H
 unfold progS
 have hR:=Qai (l:=nodesDecs false l) (D:=deepDecs l 0)
 have hlen:=Dec.len_sizes l
 generalize rightN (nodesDecs false l) (deepDecs l 0)=R at *
 cases R with
 |mk k a nm=>
   rw[Qbu]
   simp only[TBad.enc,TBad.cells] at e1 ⊢
   cases hk:decide (k=0) with
   |false=>
     simp only[go_sem,Nat.reduceAdd,Nat.reduceLeDiff,e1,hk,cond_false]
     exact⟨s1,rfl,g1⟩
   |true=>
     have hr:=hR (of_decide_eq_true hk)
     have hn:=hn hr
     have hsum:=Qgl hr hn
     have e2:=QdW l nl [10] (by decide) (by omega) (λd hd=>Qwu (Q6K hs hr hn d hd).size (Q6K hs hr hn d hd).rn (Q6K hs hr hn d hd).num) (by omega) s1
     simp only[go_sem,Nat.reduceAdd,Nat.reduceLeDiff,e1,e2,hk,cond_true]
     exact⟨s1,rfl,g1⟩
end Go.Proofs.YtgfhplcmcdimiaaGreatDoor
namespace Go.Am
open Go
@[go_sem] theorem Qs9{l:List AV}{off sz:Nat}{m:List AV}(h:sz=1)(k:off+1≤l.length)(r:List (Nat × Nat × Slot)):fillS l ((off,sz,.full m)::r)=fillS (l.take off++([.sl m]++l.drop (off+1))) r:=by
  subst h
  exact Qiq (x:=.full m) (v:=.sl m) rfl rfl rfl k r
end Go.Am
namespace Go.Proofs.YtgfhplcmcdimiaaGreatDoor
open Go Go.Am
set_option linter.unusedVariables false
set_option maxRecDepth 4000
def kE1:Exp:=.mk 4 0 [] 0 [.mk 1 0 [] 1 [] true [] true [] true] false [] true [] true
def kP:Pat:=.mk 6 0 [120] 0 [.mk 2 0 [121] 0 [] true] false
def kE2:Exp:=.mk 2 4 [78,105,108] 0 [] true [] true [] true
def kD:List Dec:=[.mk 1 0 [] 0 [] true [.mk kP kE1] false [] true]
theorem k1:rightN (nodesExp kE1) (deepExp kE1)=⟨19,0,[]⟩:=by decide +kernel
theorem k2:rightN (nodesExp kE2) (deepExp kE2)=⟨8,4,[78,105,108]⟩:=by decide +kernel
theorem k3:countN (nodesDecs false kD)=5:=by decide +kernel
theorem k4:varsPat kP=[[120],[121]]:=by decide +kernel
end Go.Proofs.YtgfhplcmcdimiaaGreatDoor
namespace Go.Proofs.YtgfhplcmcdimiaaGreatDoor
open Go Go.Am
set_option linter.unusedVariables false
set_option maxRecDepth 4000
def k7b:Ty:=.mk 1 27 [] [] true
def k7i:Ty:=.mk 2 0 [105,110,116] [] true
def k7f:Ty:=.mk 2 0 [45,62] [k7b,k7i] false
def k7n(n:Int):Exp:=.mk 1 0 [] n [] true [] true [] true
def k7o(n:Int)(a b:Exp):Exp:=.mk 13 0 [] n [a,b] false [] true [] true
def k7z:Exp:=.mk 0 0 [] 0 [] true [] true [] true
def k7p:Pat:=.mk 1 0 [] 0 [] true
theorem QvQ:exprS (k7o 2 (k7n 1) (k7o 2 (k7n 2) (k7n 3)))=[49,32,45,32,40,50,32,45,32,51,41]:=by decide +kernel
theorem QvR:exprS (k7o 2 (k7o 2 (k7n 1) (k7n 2)) (k7n (-3)))=[49,32,45,32,50,32,45,32,126,51]:=by decide +kernel
theorem QvS:exprS k7z=[]:=by decide +kernel
theorem QvT:patnS k7p=[95]:=by decide +kernel
theorem QvU:textB (typT k7f 0)=[39,98,49,32,45,62,32,105,110,116]:=by decide +kernel
section
variable (L:Nat)
def TellOK(t:Ty):Prop:=∀ m s,AtL L m s→(t.size:Int)≤m→m<2^40→∃ s',cw (.f Q2u) [t.enc,.vp L 0] s=some (.ret (.val (.bool true)),s')∧AtL L (m - t.size) s'∧Moves [L] [] [] s s'
theorem QeA(l:List Ty)(x:Slot)(hx:x.list? = some (l.map Ty.enc))(hl:l.length<2^40):∀ (suf pre:List Ty) (m:Int) (s:St) (i:Nat),pre++suf=l→i=pre.length→(∀ t ∈ suf,TellOK L t)→AtL L m s→(Ty.sizes suf:Int)≤m→m<2^40→
  ∃ s',Z6 x (.val (.fn Q0Y [.cp [.vp L 0]])) (.val (.int .i64 l.length)) (.val (.int .i64 i)) s=some (.ret (.val (.int .i64 (-1))),s')∧AtL L (m - Ty.sizes suf) s'∧Moves [L] [] [] s s'
 |[],pre,m,s,i,h,hi,H,hL,h0,h1=>by
   subst hi
   refine⟨s,?_,by simpa [Ty.sizes] using hL,.refl _ _ _⟩
   rw[Q1u];simp only[go_sem,Int.reduceNeg,Qa (by simpa using h)]
 |t::suf,pre,m,s,i,h,hi,H,hL,h0,h1=>by
   subst hi
   obtain⟨f1,f2,f3⟩:=Q9 hx h (by omega) (Ty.cells_len t) (by decide)
   have hsz:Ty.sizes (t::suf)=t.size+Ty.sizes suf:=rfl
   rw[hsz] at h0 ⊢
   obtain⟨s1,e1,l1,v1⟩:=H t List.mem_cons_self m s hL (by omega) h1
   have e2:cw (.f Q0Y) [t.enc,.cp [.vp L 0]] s=some (.ret (.val (.bool false)),s1):=by
    rw[Qdy]
    simp only[go_sem,Nat.reduceAdd,Nat.reduceLeDiff,e1,Bool.not_true]
   obtain⟨s2,e3,l3,v3⟩:=QeA l x hx hl suf (pre++[t]) (m - t.size) s1 (pre.length+1) (by simpa using h) (by simp) (λw hw=>H w (List.mem_cons_of_mem _ hw)) l1 (by omega) (by omega)
   rw[Q1u]
   simp only[go_sem,Int.reduceNeg,Nat.reduceLeDiff,f1,f2,f3,e2]
   refine⟨s2,e3,?_,v1.trans v3⟩
   rwa [show m - ((t.size+Ty.sizes suf:Nat):Int)=m - t.size - Ty.sizes suf by omega]
theorem QhY(t:Ty)(HV:∀ u ∈ t.args,TellOK L u)(hl:t.args.length<2^40)(m:Int)(s:St)(hL:AtL L m s)(h0:(Ty.sizes t.args:Int)≤m)(h1:m<2^40) :
  ∃ s',Q0e (t.cells.map .val) (.val (.cp [.vp L 0])) (.val (.bool true)) s=some (.ret (.val (.bool true)),s')∧AtL L (m - Ty.sizes t.args) s'∧Moves [L] [] [] s s':=by
 have c:=Ty.cells_eq t
 rw[Qcw]
 obtain⟨s2,e3,l3,v3⟩:=QeA L t.args (.val (encS t.nl (t.args.map Ty.enc))) (Q4 _ _) hl t.args [] m s 0 rfl rfl HV hL h0 h1
 have e4:cw (.f ZZ) [encS t.nl (t.args.map Ty.enc),.fn Q0Y [.cp [.vp L 0]]] s=some (.ret (.val (.bool false)),s2):=by
  rw[Q4W]
  have:cw (.f ZJ) [encS t.nl (t.args.map Ty.enc),.fn Q0Y [.cp [.vp L 0]]] s=some (.ret (.val (.int .i64 (-1))),s2):=by
   rw[Q6d];simp only[go_sem,Int.reduceNeg]
   exact e3
  simp only[go_sem,Int.reduceGE,Int.reduceNeg,this]
 exact⟨s2,by simp only[go_sem,Nat.reduceAdd,Nat.reduceLeDiff,c,e4,Bool.not_false],l3,v3⟩
theorem Qq9:TellOK L k7b:=λm s hL h0 h1=>by
 have hL':AtL L (m - 1) { s with locs:=s.locs.set L (.var [.val (.int .i64 (m - 1))]) }:=QgC hL
 have hM':Moves [L] [] [] s { s with locs:=s.locs.set L (.var [.val (.int .i64 (m - 1))]) }:=(Moves.refl _ _ _).setLoc (.inl (by simp)) _
 simp only[k7b,Ty.size,Ty.sizes] at h0
 have w1:IntKind.i64.wrap (m - 1)=m - 1:=wrap64 (by omega) (by omega)
 have hst:=Q8k (c:=[.val (.int .i64 (m - 1))]) hL (off:=0) (by simp)
 have hm:decide (m - 1<0)=false:=decide_eq_false (by omega)
 simp only[go_sem,Nat.reduceAdd] at hst
 have z0:((0:Nat):Int)=0:=rfl
 have z2:((2:Nat):Int)=2:=rfl
 rw[Q7j]
 refine⟨_,?_,hL',hM'⟩
 simp only[go_sem,Int.reduceEq,Int.reduceGE,Int.reduceLE,Nat.reduceAdd,Nat.reduceLeDiff,k7b,Ty.enc,Ty.cells_mk,Q5N hL,w1,hst,Q5N hL',hm,decide_true,z0,z2,List.map_nil,Q1q,Q4,List.length_nil]
theorem Qqb:TellOK L k7i:=λm s hL h0 h1=>by
 have hL':AtL L (m - 1) { s with locs:=s.locs.set L (.var [.val (.int .i64 (m - 1))]) }:=QgC hL
 have hM':Moves [L] [] [] s { s with locs:=s.locs.set L (.var [.val (.int .i64 (m - 1))]) }:=(Moves.refl _ _ _).setLoc (.inl (by simp)) _
 simp only[k7i,Ty.size,Ty.sizes] at h0
 have w1:IntKind.i64.wrap (m - 1)=m - 1:=wrap64 (by omega) (by omega)
 have hst:=Q8k (c:=[.val (.int .i64 (m - 1))]) hL (off:=0) (by simp)
 have hm:decide (m - 1<0)=false:=decide_eq_false (by omega)
 simp only[go_sem,Nat.reduceAdd] at hst
 obtain⟨s2,e2,l2,v2⟩:=QhY L k7i (by simp[k7i,Ty.args]) (by decide) (m - 1) _ hL' (by simp[k7i,Ty.args,Ty.sizes];omega) (by omega)
 have z0:((0:Nat):Int)=0:=rfl
 have z2:((2:Nat):Int)=2:=rfl
 rw[Q7j]
 refine⟨s2,?_,by rwa [show m - (k7i.size:Int)=m - 1 - (Ty.sizes k7i.args:Nat) by simp[k7i,Ty.args,Ty.sizes,Ty.size]],hM'.trans v2⟩
 simp only[k7i,Ty.cells_mk,List.map_cons,List.map_nil,Q1q] at e2
 simp only[go_sem,Int.reduceEq,Int.reduceGE,Int.reduceLE,Nat.reduceAdd,Nat.reduceLeDiff,k7i,Ty.enc,Ty.cells_mk,Q5N hL,w1,hst,Q5N hL',hm,decide_true,z0,z2,decide_false,Q7H,List.map_nil,Q1q,Q4,List.length_nil,e2]
theorem Qqa:TellOK L k7f:=λm s hL h0 h1=>by
 have hL':AtL L (m - 1) { s with locs:=s.locs.set L (.var [.val (.int .i64 (m - 1))]) }:=QgC hL
 have hM':Moves [L] [] [] s { s with locs:=s.locs.set L (.var [.val (.int .i64 (m - 1))]) }:=(Moves.refl _ _ _).setLoc (.inl (by simp)) _
 simp only[k7f,k7b,k7i,Ty.size,Ty.sizes] at h0
 have w1:IntKind.i64.wrap (m - 1)=m - 1:=wrap64 (by omega) (by omega)
 have hst:=Q8k (c:=[.val (.int .i64 (m - 1))]) hL (off:=0) (by simp)
 have hm:decide (m - 1<0)=false:=decide_eq_false (by omega)
 simp only[go_sem,Nat.reduceAdd] at hst
 obtain⟨s2,e2,l2,v2⟩:=QhY L k7f (by
  intro u hu
  simp only[k7f,Ty.args,List.mem_cons,List.not_mem_nil,or_false] at hu
  rcases hu with rfl | rfl
  ·exact Qq9 L
  ·exact Qqb L) (by decide) (m - 1) _ hL' (by simp[k7f,k7b,k7i,Ty.args,Ty.sizes,Ty.size];omega) (by omega)
 have z0:((0:Nat):Int)=0:=rfl
 have z2:((2:Nat):Int)=2:=rfl
 have n1:decide (([45,62]:Str)=[105,110,116])=false:=rfl
 have n2:decide (([45,62]:Str)=[98,111,111,108])=false:=rfl
 have n3:decide (([45,62]:Str)=[117,110,105,116])=false:=rfl
 have n4:decide (([45,62]:Str)=[101,120,110])=false:=rfl
 have n5:decide (([45,62]:Str)=[114,101,102])=false:=rfl
 rw[Q7j]
 refine⟨s2,?_,?_,hM'.trans v2⟩
 ·simp only[k7f,Ty.cells_mk,List.map_cons,List.map_nil,Q4E] at e2
  simp only[go_sem,Int.reduceEq,Int.reduceGE,Int.reduceLE,Nat.reduceAdd,Nat.reduceLeDiff,k7f,Ty.enc,Ty.cells_mk,Q5N hL,w1,hst,Q5N hL',hm,decide_true,z0,z2,n1,n2,n3,n4,n5,decide_false,Q7H,List.map_cons,List.map_nil,Q4E,Q4,List.length_cons,List.length_nil,e2]
 ·rwa [show m - (k7f.size:Int)=m - 1 - (Ty.sizes k7f.args:Nat) by simp[k7f,k7b,k7i,Ty.args,Ty.sizes,Ty.size];omega]
end
theorem Qlb(s:St):Ret (cw (.f Q7R) [k7f.enc] s) s (.str [39,98,49,32,45,62,32,105,110,116]):=by
 obtain⟨s1,e1,l1,v1⟩:=Qqa s.locs.length 256 (St.addLoc s (.var [.val (.int .i64 256)])) (by simp[AtL,St.addLoc]) (by simp[k7f,k7b,k7i,Ty.sizes,Ty.size]) (by decide)
 have g1:Grew s s1:=Moves.toGrew (Moves.since (A:=[]) (h:=[]) (Moves.grew [] [] ((Grew.refl s).addLoc _)) v1 (λi hi=>.inr (by simp only[List.mem_singleton] at hi;omega)) (by simp))
 obtain⟨y,s2,e2,g2,h2⟩:=Q6c k7f.size k7f (Nat.le_refl _) (by decide +kernel) (by decide +kernel) 0 s1
 obtain⟨v,av,hv⟩:=h2.av
 obtain⟨s3,e3,g3⟩:=Q3j (typT k7f 0) v hv (by decide +kernel) s2
 rw[QvU] at e3
 rw[QgE]
 have c:=Ty.cells_eq k7f
 simp only[go_sem,Nat.reduceAdd,Nat.reduceLeDiff,c,Ty.enc] at e1 e2 ⊢
 simp only[go_sem,e1,e2,QS av,e3,Bool.not_true]
 exact⟨s3,rfl,(g1.trans g2).trans g3⟩
theorem QfZ(n:Int)(s:St):cw (.f Q26) [.int .i64 n] s=some (.ret (.val (k7n n).enc),s):=by
 rw[Qiz]
 simp only[go_sem,Nat.reduceAdd,Nat.reduceLeDiff,k7n,Exp.enc,Exp.cells_mk,List.map_nil,Q1q]
theorem QeJ(n:Int)(a b:Exp)(s:St):cw (.f Q38) [.int .i64 n,a.enc,b.enc] s=some (.ret (.val (k7o n a b).enc),s):=by
 have ca:=Exp.cells_eq a
 have cb:=Exp.cells_eq b
 rw[Qhc]
 simp only[go_sem,Nat.reduceAdd,Nat.reduceLeDiff,k7o,Exp.enc,Exp.cells_mk,ca,cb,List.map_cons,List.map_nil,Q1q,Q4E]
theorem Q72(s:St):Ret (cw (.f Q3N) [] s) s (.bool true):=by
 obtain⟨s1,e1,g1⟩:=Q5w (k7o 2 (k7n 1) (k7o 2 (k7n 2) (k7n 3))) s (by decide +kernel) (by
  intro n hn
  simp only[k7o,k7n,nodesExp,nodesExps,nodesCases,nodesDecs,List.nil_append,List.append_nil,List.cons_append,List.mem_cons,List.not_mem_nil,or_false] at hn
  rcases hn with rfl | rfl | rfl | rfl | rfl <;> simp[TNode.ok,Exp.name,Exp.kids,Exp.n])
 obtain⟨s2,e2,g2⟩:=Q5w (k7o 2 (k7o 2 (k7n 1) (k7n 2)) (k7n (-3))) s1 (by decide +kernel) (by
  intro n hn
  simp only[k7o,k7n,nodesExp,nodesExps,nodesCases,nodesDecs,List.nil_append,List.append_nil,List.cons_append,List.mem_cons,List.not_mem_nil,or_false] at hn
  rcases hn with rfl | rfl | rfl | rfl | rfl <;> simp[TNode.ok,Exp.name,Exp.kids,Exp.n])
 obtain⟨s3,e3,g3⟩:=Qlb s2
 obtain⟨s4,e4,g4⟩:=Q5w k7z s3 (by decide +kernel) (by
  intro n hn
  simp only[k7z,nodesExp,nodesExps,nodesCases,nodesDecs,List.nil_append,List.append_nil,List.cons_append,List.mem_cons,List.not_mem_nil,or_false] at hn
  rcases hn with rfl <;> simp[TNode.ok,Exp.name,Exp.kids,Exp.n])
 obtain⟨s5,e5,g5⟩:=Qau k7p s4 (by decide +kernel) (by
  intro n hn
  simp only[k7p,nodesPat,nodesPats,List.nil_append,List.append_nil,List.cons_append,List.mem_cons,List.not_mem_nil,or_false] at hn
  rcases hn with rfl <;> simp[TNode.ok,Pat.name,Pat.kids,Pat.n])
 rw[QvQ] at e1
 rw[QvR] at e2
 rw[QvS] at e4
 rw[QvT] at e5
 have q1:decide (([49,32,45,32,40,50,32,45,32,51,41]:Str)=[49,32,45,32,40,50,32,45,32,51,41])=true:=decide_eq_true rfl
 have q2:decide (([49,32,45,32,50,32,45,32,126,51]:Str)=[49,32,45,32,50,32,45,32,126,51])=true:=decide_eq_true rfl
 have q3:decide (([39,98,49,32,45,62,32,105,110,116]:Str)=[39,98,49,32,45,62,32,105,110,116])=true:=decide_eq_true rfl
 have q4:decide (([]:Str)=[])=true:=decide_eq_true rfl
 have q5:decide (([95]:Str)=[95])=true:=decide_eq_true rfl
 simp only[k7f,k7b,k7i,Ty.enc,Ty.cells_mk,List.map_cons,List.map_nil,Q1q,Q4E] at e3
 simp only[k7z,Exp.enc,Exp.cells_mk,List.map_nil,Q1q] at e4
 simp only[k7p,Pat.enc,Pat.cells_mk,List.map_nil,Q1q] at e5
 rw[Qd5]
 simp only[go_sem,Int.reduceNeg,Nat.reduceAdd,Nat.reduceLeDiff,QfZ,QeJ,e1,e2,e3,e4,e5,q1,q2,q3,q4,q5]
 exact⟨s5,rfl,(((g1.trans g2).trans g3).trans g4).trans g5⟩
end Go.Proofs.YtgfhplcmcdimiaaGreatDoor
namespace Go.Proofs.YtgfhplcmcdimiaaGreatDoor
open Go Go.Am
set_option linter.unusedVariables false
set_option maxRecDepth 4000
def FewV(F:Nat)(v:AV):Prop:=∀ (left deep:Int) (s:St),∃ r:Int,cw (.f F) [v,.int .i64 left,.int .i64 deep] s=some (.ret (.val (.int .i64 r)),s)
def FewT(t:Ty):Prop:=FewV Q2k t.enc
def FewP(p:Pat):Prop:=FewV Q1A p.enc
def FewE(e:Exp):Prop:=FewV Q1z e.enc
def FewC(cs:List Case):Prop:=∀ b,FewV ZY (encS b (cs.map Case.enc))
def FewD(ds:List Dec):Prop:=∀ b,FewV ZL (encS b (ds.map Dec.enc))
theorem Qe9(t:Ty)(hl:t.args.length<2^40)(deep:Int)(s:St):∀ (suf pre:List Ty) (left:Int) (i:Nat),pre++suf=t.args→i=pre.length→(∀ u ∈ suf,FewT u)→
  ∃ r:Int,Q21 (.val (.int .i64 left)) (.val (.int .i64 deep)) (t.cells.map .val) (.val (.int .i64 t.args.length)) (.val (.int .i64 i)) s=some (.ret (.val (.int .i64 r)),s)
 |[],pre,left,i,h,hi,H=>by
   subst hi
   rw[Q6u];simp only[go_sem,Int.reduceNeg,Qa (by simpa using h)]
   exact⟨_,rfl⟩
 |u::suf,pre,left,i,h,hi,H=>by
   subst hi
   have c:=Ty.cells_eq t
   obtain⟨f1,f2,f3⟩:=Q9 (x:=.val (encS t.nl (t.args.map Ty.enc))) (Q4 _ _) h (by omega) (Ty.cells_len u) (by decide)
   obtain⟨r,e1⟩:=H u List.mem_cons_self left (IntKind.i64.wrap (deep+1)) s
   obtain⟨r2,ih⟩:=Qe9 t hl deep s suf (pre++[u]) r (pre.length+1) (by simpa using h) (by simp) (λw hw=>H w (List.mem_cons_of_mem _ hw))
   rw[Q6u]
   cases hn:decide (r<0) with
   |true=>simp only[go_sem,Int.reduceEq,Int.reduceNeg,Nat.reduceAdd,Nat.reduceLeDiff,ne_eq,not_false_eq_true,c,f1,f2,f3,e1,hn];exact⟨_,rfl⟩
   |false=>
     simp only[go_sem,Int.reduceEq,Int.reduceNeg,Nat.reduceAdd,Nat.reduceLeDiff,ne_eq,not_false_eq_true,c,f1,f2,f3,e1,hn] at ih ⊢
     exact⟨r2,ih⟩
theorem QfK:∀ (m:Nat) (t:Ty),t.size≤m→t.size<2^40→FewT t
 |0,.mk _ _ _ _ _,h,_=>by simp only[Ty.size] at h;omega
 |m+1,t,h,h'=>λleft deep s=>by
   have hsz:Ty.sizes t.args+1=t.size:=by cases t;simp only[Ty.size,Ty.args]
   have hl:=Ty.len_sizes t.args
   have HV:∀ u ∈ t.args,FewT u:=λu hu=>by
    have:=Ty.mem_sizes hu
    exact QfK m u (by omega) (by omega)
   have c:=Ty.cells_eq t
   rw[Qds]
   simp only[go_sem,Int.reduceEq,Int.reduceNeg,Nat.reduceAdd,Nat.reduceLeDiff,ne_eq,not_false_eq_true,Ty.enc,c]
   generalize IntKind.i64.wrap (IntKind.i64.wrap (left - 1) - IntKind.i64.wrap ((t.name.length:Int).tdiv 100))=x
   cases hA:decide (x<0) with
   |true=>simp only[go_sem,Int.reduceNeg,hA];exact⟨_,rfl⟩
   |false=>
     cases hB:decide (deep>130) with
     |true=>simp only[go_sem,Int.reduceNeg,hA,hB];exact⟨_,rfl⟩
     |false=>
       obtain⟨r,e1⟩:=Qe9 t (by omega) deep s t.args [] x 0 rfl rfl HV
       rw[show ((0:Nat):Int)=0 from rfl] at e1
       simp only[go_sem,c,hA,hB] at e1 ⊢
       exact⟨r,e1⟩
theorem Qe8(t:Pat)(hl:t.kids.length<2^40)(deep:Int)(s:St):∀ (suf pre:List Pat) (left:Int) (i:Nat),pre++suf=t.kids→i=pre.length→(∀ u ∈ suf,FewP u)→
  ∃ r:Int,Q1c (.val (.int .i64 left)) (.val (.int .i64 deep)) (t.cells.map .val) (.val (.int .i64 t.kids.length)) (.val (.int .i64 i)) s=some (.ret (.val (.int .i64 r)),s)
 |[],pre,left,i,h,hi,H=>by
   subst hi
   rw[Q5Y];simp only[go_sem,Int.reduceNeg,Qa (by simpa using h)]
   exact⟨_,rfl⟩
 |u::suf,pre,left,i,h,hi,H=>by
   subst hi
   have c:=Pat.cells_eq t
   have cu:=Pat.cells_eq u
   obtain⟨f1,f2',f3⟩:=Q9 (x:=.val (encS t.kb (t.kids.map Pat.enc))) (Q4 _ _) h (by omega) (Pat.cells_len u) (by decide)
   have f2:ixS 5 (.val (encS t.kb (t.kids.map Pat.enc))) (.val (.int .i64 (pre.length:Int)))=some (.val (.cp u.cells)):=f2'
   clear f2'
   obtain⟨r,e1⟩:=H u List.mem_cons_self left (IntKind.i64.wrap (deep+1)) s
   obtain⟨r2,ih⟩:=Qe8 t hl deep s suf (pre++[u]) r (pre.length+1) (by simpa using h) (by simp) (λw hw=>H w (List.mem_cons_of_mem _ hw))
   rw[cu] at f2
   simp only[Pat.enc,cu] at e1
   rw[Q5Y]
   cases hn:decide (r<0) with
   |true=>simp only[go_sem,Int.reduceEq,Int.reduceNeg,Nat.reduceAdd,Nat.reduceLeDiff,ne_eq,not_false_eq_true,c,f1,f2,f3,e1,hn];exact⟨_,rfl⟩
   |false=>
     simp only[go_sem,Int.reduceEq,Int.reduceNeg,Nat.reduceAdd,Nat.reduceLeDiff,ne_eq,not_false_eq_true,c,f1,f2,f3,e1,hn] at ih ⊢
     exact⟨r2,ih⟩
theorem QfJ:∀ (m:Nat) (t:Pat),t.size≤m→t.size<2^40→FewP t
 |0,.mk _ _ _ _ _ _,h,_=>by simp only[Pat.size] at h;omega
 |m+1,t,h,h'=>λleft deep s=>by
   have hsz:Pat.sizes t.kids+1=t.size:=by cases t;simp only[Pat.size,Pat.kids]
   have hl:=Pat.len_sizes t.kids
   have HV:∀ u ∈ t.kids,FewP u:=λu hu=>by
    have:=Pat.mem_sizes hu
    exact QfJ m u (by omega) (by omega)
   have c:=Pat.cells_eq t
   rw[Qcj]
   simp only[go_sem,Int.reduceEq,Int.reduceNeg,Nat.reduceAdd,Nat.reduceLeDiff,ne_eq,not_false_eq_true,Pat.enc,c]
   generalize IntKind.i64.wrap (IntKind.i64.wrap (left - 1) - IntKind.i64.wrap ((t.name.length:Int).tdiv 100))=x
   cases hA:decide (x<0) with
   |true=>simp only[go_sem,Int.reduceNeg,hA];exact⟨_,rfl⟩
   |false=>
     cases hB:decide (deep>130) with
     |true=>simp only[go_sem,Int.reduceNeg,hA,hB];exact⟨_,rfl⟩
     |false=>
       obtain⟨r,e1⟩:=Qe8 t (by omega) deep s t.kids [] x 0 rfl rfl HV
       rw[show ((0:Nat):Int)=0 from rfl] at e1
       simp only[go_sem,c,hA,hB,Q4,List.length_map] at e1 ⊢
       exact⟨r,e1⟩
theorem Qe4(cs:List Case)(b:Bool)(hl:cs.length<2^40)(deep:Int)(s:St):∀ (suf pre:List Case) (left:Int) (i:Nat),pre++suf=cs→i=pre.length→(∀ c ∈ suf,FewP c.pat∧FewE c.exp)→
  ∃ r:Int,ZR (.val (encS b (cs.map Case.enc))) (.val (.int .i64 left)) (.val (.int .i64 deep)) (.val (.int .i64 cs.length)) (.val (.int .i64 i)) s=some (.ret (.val (.int .i64 r)),s)
 |[],pre,left,i,h,hi,H=>by
   subst hi
   rw[Q4L];simp only[go_sem,Int.reduceNeg,Qa (by simpa using h)]
   exact⟨_,rfl⟩
 |c::suf,pre,left,i,h,hi,H=>by
   subst hi
   obtain⟨f1,f2',f3⟩:=Q9 (x:=.val (encS b (cs.map Case.enc))) (Q4 _ _) h (by omega) (Case.cells_len c) (by decide)
   have f2:ixS 12 (.val (encS b (cs.map Case.enc))) (.val (.int .i64 (pre.length:Int)))=some (.val (.cp c.cells)):=f2'
   clear f2'
   have cc:c.cells=_:=Case.cells_eq c
   have cp:=Pat.cells_eq c.pat
   have ce:=Exp.cells_eq c.exp
   rw[cc,cp,ce] at f2
   simp only[List.cons_append,List.nil_append] at f2
   obtain⟨H1,H2⟩:=H c List.mem_cons_self
   obtain⟨r,e1⟩:=H1 left deep s
   obtain⟨r2,e2⟩:=H2 r deep s
   simp only[Pat.enc,cp] at e1
   simp only[Exp.enc,ce] at e2
   obtain⟨r3,ih⟩:=Qe4 cs b hl deep s suf (pre++[c]) r2 (pre.length+1) (by simpa using h) (by simp) (λw hw=>H w (List.mem_cons_of_mem _ hw))
   rw[Q4L]
   cases hn:decide (r≥0) with
   |true=>
     cases hm:decide (r2<0) with
     |true=>simp only[go_sem,Int.reduceNeg,Nat.reduceAdd,Nat.reduceLeDiff,f1,f2,f3,e1,e2,hn,hm];exact⟨_,rfl⟩
     |false=>
       simp only[go_sem,Int.reduceNeg,Nat.reduceAdd,Nat.reduceLeDiff,f1,f2,f3,e1,e2,hn,hm]
       exact⟨r3,ih⟩
   |false=>
     have hm:decide (r<0)=true:=decide_eq_true (by have:=of_decide_eq_false hn;omega)
     simp only[go_sem,Int.reduceNeg,Nat.reduceAdd,Nat.reduceLeDiff,f1,f2,f3,e1,hn,hm];exact⟨_,rfl⟩
theorem Qjr{cs:List Case}(hl:cs.length<2^40)(H:∀ c ∈ cs,FewP c.pat∧FewE c.exp):FewC cs:=λb left deep s=>by
 obtain⟨r,e1⟩:=Qe4 cs b hl deep s cs [] left 0 rfl rfl H
 rw[show ((0:Nat):Int)=0 from rfl] at e1
 rw[Qas]
 simp only[go_sem,Q4,List.length_map] at e1 ⊢
 exact⟨r,e1⟩
section
variable (ds:List Dec) (b:Bool)
def FewX(d:Dec):Prop:=FewC d.case∧(∀ c ∈ d.cons,FewT c.arg)∧(∀ f ∈ d.funs,FewC [f.case])∧d.cons.length<2^40∧d.funs.length<2^40
theorem QhJ(d:Dec)(hd:FewX d)(deep:Int)(s:St)(len:Int)(j:Nat)(hj:j+1<2^62)(K:∀ left:Int,∃ r:Int,Zf (.val (encS b (ds.map Dec.enc))) (.val (.int .i64 left)) (.val (.int .i64 deep)) (.val (.int .i64 len)) (.val (.int .i64 ((j+1:Nat):Int))) s=some (.ret (.val (.int .i64 r)),s)):∀ (suf pre:List Fun) (left:Int) (i:Nat),pre++suf=d.funs→i=pre.length→
  ∃ r:Int,Q0S (.val (encS b (ds.map Dec.enc))) (.val (.int .i64 left)) (.val (.int .i64 deep)) (d.cells.map .val) (.val (.int .i64 len)) (.val (.int .i64 j)) (.val (.int .i64 d.funs.length)) (.val (.int .i64 i)) s=some (.ret (.val (.int .i64 r)),s)
 |[],pre,left,i,h,hi=>by
   subst hi
   have c:=Dec.cells_eq d
   have w1:IntKind.i64.wrap ((j:Int)+1)=((j+1:Nat):Int):=by rw[wrap64 (by omega) (by omega)];rfl
   obtain⟨r,e1⟩:=K left
   rw[Q57];simp only[go_sem,Int.reduceNeg,Qa (by simpa using h),w1,e1]
   exact⟨_,rfl⟩
 |f::suf,pre,left,i,h,hi=>by
   subst hi
   have c:=Dec.cells_eq d
   obtain⟨f1,f2',f3⟩:=Q9 (x:=.val (encS d.fb (d.funs.map Fun.enc))) (Q4 _ _) h (by have:=hd.2.2.2.2;omega) (Fun.cells_len f) (by decide)
   have f2:ixS 14 (.val (encS d.fb (d.funs.map Fun.enc))) (.val (.int .i64 (pre.length:Int)))=some (.val (.cp f.cells)):=f2'
   clear f2'
   have cf:f.cells=_:=Fun.cells_eq f
   have cc:f.case.cells=_:=Case.cells_eq f.case
   have cp:=Pat.cells_eq f.case.pat
   have ce:=Exp.cells_eq f.case.exp
   rw[cf,cc,cp,ce] at f2
   simp only[List.cons_append,List.nil_append] at f2
   obtain⟨r,e1⟩:=hd.2.2.1 f (by rw[←h];simp) false (IntKind.i64.wrap (IntKind.i64.wrap (left - 1) - IntKind.i64.wrap ((f.name.length:Int).tdiv 100))) (IntKind.i64.wrap (deep+1)) s
   simp only[List.map_cons,List.map_nil,QdZ,Case.enc,cc,cp,ce,List.cons_append,List.nil_append] at e1
   obtain⟨r2,ih⟩:=QhJ d hd deep s len j hj K suf (pre++[f]) r (pre.length+1) (by simpa using h) (by simp)
   rw[Q57]
   cases hn:decide (r<0) with
   |true=>simp only[go_sem,Int.reduceEq,Int.reduceNeg,Nat.reduceAdd,Nat.reduceLeDiff,ne_eq,not_false_eq_true,c,f1,f2,f3,e1,hn];exact⟨_,rfl⟩
   |false=>
     simp only[go_sem,Int.reduceEq,Int.reduceNeg,Nat.reduceAdd,Nat.reduceLeDiff,ne_eq,not_false_eq_true,c,f1,f2,f3,e1,hn] at ih ⊢
     exact⟨r2,ih⟩
theorem QhI(d:Dec)(hd:FewX d)(deep:Int)(s:St)(len:Int)(j:Nat)(hj:j+1<2^62)(K:∀ left:Int,∃ r:Int,Zf (.val (encS b (ds.map Dec.enc))) (.val (.int .i64 left)) (.val (.int .i64 deep)) (.val (.int .i64 len)) (.val (.int .i64 ((j+1:Nat):Int))) s=some (.ret (.val (.int .i64 r)),s)):∀ (suf pre:List Con) (left:Int) (i:Nat),pre++suf=d.cons→i=pre.length→
  ∃ r:Int,Q0R (.val (encS b (ds.map Dec.enc))) (.val (.int .i64 left)) (.val (.int .i64 deep)) (d.cells.map .val) (.val (.int .i64 len)) (.val (.int .i64 j)) (.val (.int .i64 d.cons.length)) (.val (.int .i64 i)) s=some (.ret (.val (.int .i64 r)),s)
 |[],pre,left,i,h,hi=>by
   subst hi
   have c:=Dec.cells_eq d
   obtain⟨r,e1⟩:=QhJ ds b d hd deep s len j hj K d.funs [] left 0 rfl rfl
   rw[show ((0:Nat):Int)=0 from rfl] at e1
   rw[Q56]
   simp only[go_sem,Int.reduceNeg,Nat.reduceAdd,Nat.reduceLeDiff,c,Qa (by simpa using h),Q4,List.length_map] at e1 ⊢
   exact⟨r,e1⟩
 |q::suf,pre,left,i,h,hi=>by
   subst hi
   have c:=Dec.cells_eq d
   obtain⟨f1,f2',f3⟩:=Q9 (x:=.val (encS d.nb (d.cons.map Con.enc))) (Q4 _ _) h (by have:=hd.2.2.2.1;omega) (Con.cells_len q) (by decide)
   have f2:ixS 7 (.val (encS d.nb (d.cons.map Con.enc))) (.val (.int .i64 (pre.length:Int)))=some (.val (.cp q.cells)):=f2'
   clear f2'
   have cc:q.cells = .str q.name :: .int .i64 q.at_ :: .bool q.has::q.arg.cells:=rfl
   have ct:=Ty.cells_eq q.arg
   rw[cc,ct] at f2
   obtain⟨r,e1⟩:=hd.2.1 q (by rw[←h];simp) (IntKind.i64.wrap (IntKind.i64.wrap (left - 1) - IntKind.i64.wrap ((q.name.length:Int).tdiv 100))) (IntKind.i64.wrap (deep+1)) s
   simp only[Ty.enc,ct] at e1
   obtain⟨r2,ih⟩:=QhI d hd deep s len j hj K suf (pre++[q]) r (pre.length+1) (by simpa using h) (by simp)
   rw[Q56]
   cases hn:decide (r<0) with
   |true=>simp only[go_sem,Int.reduceEq,Int.reduceNeg,Nat.reduceAdd,Nat.reduceLeDiff,ne_eq,not_false_eq_true,c,f1,f2,f3,e1,hn];exact⟨_,rfl⟩
   |false=>
     simp only[go_sem,Int.reduceEq,Int.reduceNeg,Nat.reduceAdd,Nat.reduceLeDiff,ne_eq,not_false_eq_true,c,f1,f2,f3,e1,hn] at ih ⊢
     exact⟨r2,ih⟩
theorem Qe5(hl:ds.length<2^40)(deep:Int)(s:St):∀ (suf pre:List Dec) (left:Int) (i:Nat),pre++suf=ds→i=pre.length→(∀ d ∈ suf,FewX d)→
  ∃ r:Int,Zf (.val (encS b (ds.map Dec.enc))) (.val (.int .i64 left)) (.val (.int .i64 deep)) (.val (.int .i64 ds.length)) (.val (.int .i64 i)) s=some (.ret (.val (.int .i64 r)),s)
 |[],pre,left,i,h,hi,H=>by
   subst hi
   rw[Q55];simp only[go_sem,Int.reduceNeg,Qa (by simpa using h)]
   exact⟨_,rfl⟩
 |d::suf,pre,left,i,h,hi,H=>by
   subst hi
   have c:=Dec.cells_eq d
   obtain⟨f1,f2',f3⟩:=Q9 (x:=.val (encS b (ds.map Dec.enc))) (Q4 _ _) h (by omega) (Dec.cells_len d) (by decide)
   have f2:ixS 7 (.val (encS b (ds.map Dec.enc))) (.val (.int .i64 (pre.length:Int)))=some (.val (.cp d.cells)):=f2'
   clear f2'
   have hd:=H d List.mem_cons_self
   have hlen:pre.length<ds.length:=by rw[←h];simp
   have K:∀ left:Int,∃ r:Int,Zf (.val (encS b (ds.map Dec.enc))) (.val (.int .i64 left)) (.val (.int .i64 deep)) (.val (.int .i64 ds.length)) (.val (.int .i64 ((pre.length+1:Nat):Int))) s=some (.ret (.val (.int .i64 r)),s):=λleft=>
    Qe5 hl deep s suf (pre++[d]) left (pre.length+1) (by simpa using h) (by simp) (λw hw=>H w (List.mem_cons_of_mem _ hw))
   rw[c] at f2
   obtain⟨r,e1⟩:=hd.1 d.cb (maxI (IntKind.i64.wrap (IntKind.i64.wrap (left - 1) - IntKind.i64.wrap ((d.name.length:Int).tdiv 100))) (-1)) (IntKind.i64.wrap (deep+1)) s
   obtain⟨r2,e2⟩:=QhI ds b d hd deep s ds.length pre.length (by omega) K d.cons [] r 0 rfl rfl
   rw[show ((0:Nat):Int)=0 from rfl] at e2
   rw[Q55]
   cases hA:decide (r<0) with
   |true=>simp only[go_sem,Int.reduceEq,Int.reduceNeg,Nat.reduceAdd,Nat.reduceLeDiff,ne_eq,not_false_eq_true,c,f1,f2,e1,hA];exact⟨_,rfl⟩
   |false=>
     cases hB:decide (deep>130) with
     |true=>simp only[go_sem,Int.reduceEq,Int.reduceNeg,Nat.reduceAdd,Nat.reduceLeDiff,ne_eq,not_false_eq_true,c,f1,f2,e1,hA,hB];exact⟨_,rfl⟩
     |false=>
       simp only[go_sem,Int.reduceEq,Int.reduceNeg,Nat.reduceAdd,Nat.reduceLeDiff,ne_eq,not_false_eq_true,c,f1,f2,e1,hA,hB,Q4,List.length_map] at e2 ⊢
       exact⟨r2,e2⟩
end
theorem Qe6{ds:List Dec}(hl:ds.length<2^40)(H:∀ d ∈ ds,FewX d):FewD ds:=λb left deep s=>by
 obtain⟨r,e1⟩:=Qe5 ds b hl deep s ds [] left 0 rfl rfl H
 rw[show ((0:Nat):Int)=0 from rfl] at e1
 rw[Qbv]
 simp only[go_sem,Q4,List.length_map] at e1 ⊢
 exact⟨r,e1⟩
theorem Qe7(e:Exp)(hl:e.kids.length<2^40)(HC:FewC e.cases)(HD:FewD e.decs)(deep:Int)(s:St):∀ (suf pre:List Exp) (left:Int) (i:Nat),pre++suf=e.kids→i=pre.length→(∀ u ∈ suf,FewE u)→
  ∃ r:Int,Q1b (.val (.int .i64 left)) (.val (.int .i64 deep)) (e.cells.map .val) (.val (.int .i64 e.kids.length)) (.val (.int .i64 i)) s=some (.ret (.val (.int .i64 r)),s)
 |[],pre,left,i,h,hi,H=>by
   subst hi
   have c:=Exp.cells_eq e
   obtain⟨r,e1⟩:=HC e.cb left (IntKind.i64.wrap (deep+1)) s
   obtain⟨r2,e2⟩:=HD e.db r (IntKind.i64.wrap (deep+1)) s
   rw[Q5X]
   cases hn:decide (r<0) with
   |true=>simp only[go_sem,Int.reduceNeg,Nat.reduceAdd,Nat.reduceLeDiff,c,Qa (by simpa using h),e1,hn];exact⟨_,rfl⟩
   |false=>simp only[go_sem,Int.reduceNeg,Nat.reduceAdd,Nat.reduceLeDiff,c,Qa (by simpa using h),e1,e2,hn];exact⟨_,rfl⟩
 |u::suf,pre,left,i,h,hi,H=>by
   subst hi
   have c:=Exp.cells_eq e
   have cu:=Exp.cells_eq u
   obtain⟨f1,f2',f3⟩:=Q9 (x:=.val (encS e.kb (e.kids.map Exp.enc))) (Q4 _ _) h (by omega) (Exp.cells_len u) (by decide)
   have f2:ixS 7 (.val (encS e.kb (e.kids.map Exp.enc))) (.val (.int .i64 (pre.length:Int)))=some (.val (.cp u.cells)):=f2'
   clear f2'
   obtain⟨r,e1⟩:=H u List.mem_cons_self left (IntKind.i64.wrap (deep+1)) s
   obtain⟨r2,ih⟩:=Qe7 e hl HC HD deep s suf (pre++[u]) r (pre.length+1) (by simpa using h) (by simp) (λw hw=>H w (List.mem_cons_of_mem _ hw))
   rw[cu] at f2
   simp only[Exp.enc,cu] at e1
   rw[Q5X]
   cases hn:decide (r<0) with
   |true=>simp only[go_sem,Int.reduceEq,Int.reduceNeg,Nat.reduceAdd,Nat.reduceLeDiff,ne_eq,not_false_eq_true,c,f1,f2,f3,e1,hn];exact⟨_,rfl⟩
   |false=>
     simp only[go_sem,Int.reduceEq,Int.reduceNeg,Nat.reduceAdd,Nat.reduceLeDiff,ne_eq,not_false_eq_true,c,f1,f2,f3,e1,hn] at ih ⊢
     exact⟨r2,ih⟩
theorem QhK:∀ m:Nat,(∀ e:Exp,e.size≤m→e.size<2^40→FewE e)∧(∀ d:Dec,d.size≤m→d.size<2^40→FewX d)
 |0=>⟨λe h=>by cases e;simp only[Exp.size] at h;omega,λd h=>by cases d;simp only[Dec.size] at h;omega⟩
 |m+1=>by
   obtain⟨HE,HD⟩:=QhK m
   have HC:∀ cs:List Case,Case.sizes cs≤m→Case.sizes cs<2^40→FewC cs:=λcs hs hs2=>by
    have:=Case.len_sizes cs
    refine Qjr (by omega) λc hc=>?_
    have h1:=Case.mem_sizes hc
    cases c with
    |mk p e=>
      simp only[Case.size] at h1
      exact⟨QfJ p.size p (Nat.le_refl _) (by omega),HE e (by omega) (by omega)⟩
   refine⟨λe h hb=>λleft deep s=>?_,λd h hb=>?_⟩
   ·cases e with
    |mk k a nm n kids kb cs cb ds db=>
      simp only[Exp.size] at h hb
      have z1:=Exp.len_sizes kids
      have z3:=Dec.len_sizes ds
      have HDs:FewD ds:=Qe6 (by omega) λd hd=>by have:=Dec.mem_sizes hd;exact HD d (by omega) (by omega)
      have HV:∀ u ∈ kids,FewE u:=λu hu=>by have:=Exp.mem_sizes hu;exact HE u (by omega) (by omega)
      rw[Qci]
      simp only[go_sem,Int.reduceEq,Int.reduceNeg,Nat.reduceAdd,ne_eq,not_false_eq_true,Exp.enc,Exp.cells_mk]
      generalize IntKind.i64.wrap (IntKind.i64.wrap (left - 1) - IntKind.i64.wrap ((nm.length:Int).tdiv 100))=x
      cases hA:decide (x<0) with
      |true=>simp only[go_sem,Int.reduceNeg,hA];exact⟨_,rfl⟩
      |false=>
        cases hB:decide (deep>130) with
        |true=>simp only[go_sem,Int.reduceNeg,hA,hB];exact⟨_,rfl⟩
        |false=>
          obtain⟨r,e1⟩:=Qe7 (.mk k a nm n kids kb cs cb ds db) (by simp only[Exp.kids];omega) (HC cs (by omega) (by omega)) HDs deep s kids [] x 0 rfl rfl HV
          rw[show ((0:Nat):Int)=0 from rfl] at e1
          simp only[go_sem,Exp.cells_mk,Exp.kids,hA,hB,Q4,List.length_map] at e1 ⊢
          exact⟨r,e1⟩
   ·cases d with
    |mk k a nm p cons nb cs cb fs fb=>
      simp only[Dec.size] at h hb
      have z1:=Con.len_sizes cons
      have z2:=Fun.len_sizes fs
      refine⟨HC cs (by omega) (by omega),λc hc=>?_,λf hf=>?_,by simp only[Dec.cons];omega,by simp only[Dec.funs];omega⟩
      ·have:=Con.mem_sizes hc
       simp only[Dec.cons] at this
       unfold Con.size at this
       exact QfK c.arg.size c.arg (Nat.le_refl _) (by omega)
      ·have h1:=Fun.mem_sizes hf
       cases f with
       |mk nm' a' c'=>
         simp only[Fun.size,Dec.funs] at h1
         exact HC [c'] (by simp only[Case.sizes];omega) (by simp only[Case.sizes];omega)
theorem Qdp(ds:List Dec)(b:Bool)(hs:Dec.sizes ds<2^40)(left:Int)(s:St):∃ r:Bool,cw (.f Q5A) [encS b (ds.map Dec.enc),.int .i64 left] s=some (.ret (.val (.bool r)),s):=by
 have hl:=Dec.len_sizes ds
 have H:FewD ds:=Qe6 (by omega) λd hd=>by
  have:=Dec.mem_sizes hd
  exact (QhK d.size).2 d (Nat.le_refl _) (by omega)
 obtain⟨r,e1⟩:=H b left 0 s
 rw[Qgt]
 simp only[go_sem,e1]
 exact⟨_,rfl⟩
end Go.Proofs.YtgfhplcmcdimiaaGreatDoor
namespace Go.Am
open Go
mutual
def wfV:AV→Bool
 |.int k x=>(Lit.int k x).wf
 |.sl l=>wfVs l
 |.agg l=>wfVs l
 |_=>true
def wfVs:List AV→Bool
 |[]=>true
 |v::l=>wfV v&&wfVs l
end
theorem QbK:∀ a b:List AV,wfVs (a++b)=(wfVs a&&wfVs b)
 |[],b=>by simp[wfVs]
 |v::a,b=>by simp only[List.cons_append,wfVs,QbK a b,Bool.and_assoc]
theorem Qad:∀ L:List (List AV),(∀ l ∈ L,wfVs l=true)→wfVs L.flatten=true
 |[],_=>rfl
 |l::L,h=>by
   rw[List.flatten_cons,QbK,h l List.mem_cons_self,Qad L λx hx=>h x (List.mem_cons_of_mem _ hx)];rfl
theorem Q37:∀ {l:List AV},wfVs l=true→∀ v ∈ l,wfV v=true
 |x::l,h,v,hv=>by
   simp only[wfVs,Bool.and_eq_true] at h
   rcases List.mem_cons.1 hv with rfl | hv
   ·exact h.1
   ·exact Q37 h.2 v hv
theorem Qi4:∀ {l:List AV},(∀ v ∈ l,wfV v=true)→wfVs l=true
 |[],_=>rfl
 |x::l,h=>by
   simp only[wfVs,h x List.mem_cons_self,Qi4 λv hv=>h v (List.mem_cons_of_mem _ hv),Bool.and_self]
theorem QiD{t:TI}{l:List AV}{v:AV}(h:ofCells t l=some v)(hl:wfVs l=true):wfV v=true:=by
 unfold ofCells at h
 cases ha:t.isAgg with
 |true=>
   rw[ha] at h
   simp only[cond_true] at h
   split at h
   ·cases h;exact hl
   ·cases h
 |false=>
   rw[ha] at h
   simp only[cond_false] at h
   split at h
   ·cases h
    simp only[wfVs,Bool.and_eq_true] at hl
    exact hl.1
   ·cases h
theorem Qbd{α β:Type}{f:α→Option β}{p:β→Prop}:∀ {l:List α} {xs:List β},l.mapM f=some xs→(∀ a b,f a=some b→p b)→∀ b ∈ xs,p b
 |[],xs,h,_=>by simp at h;subst h;simp
 |a::l,xs,h,H=>by
   rw[List.mapM_cons] at h
   cases h1:f a with
   |none=>simp[h1] at h
   |some b=>
     cases h2:l.mapM f with
     |none=>simp[h1,h2] at h
     |some ys=>
       simp[h1,h2] at h
       subst h
       intro c hc
       rcases List.mem_cons.1 hc with rfl | hc
       ·exact H a c h1
       ·exact Qbd h2 H c hc
theorem QcZ{H:Type}(ti:TypeId→TI):∀ (n:Nat) (t:TypeId) (d:DataW H) (l:List AV),conv ti n t d=some l→wfVs l=true
 |0,t,d,l,h=>by simp[conv] at h
 |n+1,t,d,l,h=>by
   simp only[conv] at h
   split at h
   ·cases h;rfl
   ·split at h
    ·rename_i hx
     cases h
     simp only[wfVs,wfV,hx.2,Bool.and_self]
    ·cases h
   ·split at h
    ·cases h;rfl
    ·cases h
   ·cases h;rfl
   ·split at h
    ·obtain⟨xs,h1,rfl⟩:=Option.map_eq_some_iff.1 h
     have:=Qbd (p:=λv=>wfV v=true) h1 (λd v hv=>by
      obtain⟨c,h2,h3⟩:=Option.bind_eq_some_iff.1 hv
      exact QiD h3 (QcZ ti n _ d c h2))
     simp only[wfVs,wfV,Qi4 this,Bool.and_self]
    ·cases h
   ·split at h
    ·obtain⟨xs,h1,rfl⟩:=Option.map_eq_some_iff.1 h
     exact Qad xs (Qbd (p:=λv=>wfVs v=true) h1 (λp v hv=>QcZ ti n _ _ v hv))
    ·cases h
   ·cases h
theorem Qqf{x:Int}(h:wfV (.int .i64 x)=true):-9223372036854775808≤x∧x≤9223372036854775807:=by
 have h:(Lit.int .i64 x).wf=true:=h
 simp only[Lit.wf,Bool.and_eq_true,decide_eq_true_eq] at h
 exact h
theorem QdF{b:Bool}{l:List AV}(h:wfV (encS b l)=true):wfVs l=true:=by
 cases l with
 |nil=>rfl
 |cons v l=>rw[QdZ] at h;exact h
mutual
theorem Qk2:∀ t:Ty,wfVs t.cells=true→allTy numB t=true
 |.mk k n s l b,h=>by
   rw[Ty.cells_mk] at h
   have h1:=Qqf (Q37 h (.int .i64 n) (by simp))
   have h2:=QdF (Q37 h (encS b (l.map Ty.enc)) (by simp))
   show (numI n&&allTys numB l)=true
   rw[Qga.2 h1,Qi5 l (λt ht=>Q37 h2 t.enc (List.mem_map.2 ⟨t,ht,rfl⟩))];rfl
theorem Qi5:∀ l:List Ty,(∀ t ∈ l,wfV t.enc=true)→allTys numB l=true
 |[],_=>rfl
 |t::l,h=>by
   simp only[allTys,Bool.and_eq_true]
   exact⟨Qk2 t (h t List.mem_cons_self),Qi5 l λx hx=>h x (List.mem_cons_of_mem _ hx)⟩
end
theorem Qqd{c:Con}(h:wfVs c.cells=true):allTy numB c.arg=true:=by
 have:c.cells=[.str c.name,.int .i64 c.at_,.bool c.has]++c.arg.cells:=rfl
 rw[this,QbK,Bool.and_eq_true] at h
 exact Qk2 _ h.2
theorem Qqe{d:Dec}(h:wfVs d.cells=true):∀ c ∈ d.cons,allTy numB c.arg=true:=λc hc=>by
 rw[Dec.cells_eq] at h
 have h2:=QdF (Q37 h (encS d.nb (d.cons.map Con.enc)) (by simp))
 exact Qqd (Q37 h2 c.enc (List.mem_map.2 ⟨c,hc,rfl⟩))
end Go.Am
namespace Go.Proofs.YtgfhplcmcdimiaaGreatDoor
open Go Go.Am Go.RowKit
set_option linter.unusedVariables false
section
variable {H:Type}
theorem QmF{L:List Dec}{b:Bool}(h:wfVs [encS b (L.map Dec.enc)]=true):∀ d ∈ L,∀ c ∈ d.cons,allTy numB c.arg=true:=λd hd=>by
 have h1:=QdF (Q37 h _ List.mem_cons_self)
 have h2:=Q37 h1 d.enc (List.mem_map.2 ⟨d,hd,rfl⟩)
 exact Qqe h2
theorem Qji(n:Nat)(d:DataW H)(l:List AV)(h:conv C.ti n Qw d=some l)(hb:Rows.uptoBulk d<2^30):∃ L b,l=[encS b (L.map Dec.enc)]∧(Dec.sizes L≤Rows.uptoBulk d∧∀ i,∀ nd ∈ nodesDecs i L,nd.ok)∧∀ d ∈ L,∀ c ∈ d.cons,allTy numB c.arg=true:=by
 have hw:=QcZ C.ti n Qw d l h
 obtain⟨L,b,rfl,h1⟩:=Qks n d l h hb
 exact⟨L,b,rfl,h1,QmF hw⟩
end
end Go.Proofs.YtgfhplcmcdimiaaGreatDoor
namespace Go.Proofs.YtgfhplcmcdimiaaGreatDoor
open Go Go.Am
set_option linter.unusedVariables false
set_option maxRecDepth 4000
theorem Q8G(l:List Dec)(nl:Bool)(s:St)(hs:Dec.sizes l<2^22)(H:∀ n ∈ nodesDecs false l,n.ok)(hn:RN (nodesDecs false l)→∀ d ∈ l,NumCons d.cons):Ret (cw (.f Q3m) [encS nl (l.map Dec.enc)] s) s (.bool true):=by
 obtain⟨b,e0⟩:=Qdp l nl (by omega) 700 s
 rw[Q9L]
 cases b with
 |false=>
   obtain⟨s1,e1,g1⟩:=Q72 s
   simp only[go_sem,e0,e1,Bool.not_false]
   exact⟨s1,rfl,g1⟩
 |true=>
   obtain⟨s1,e1,g1⟩:=Qav l nl s hs H hn
   obtain⟨s2,e2,g2⟩:=Q9U l nl s1 hs H hn
   obtain⟨s3,e3,g3⟩:=Q72 s2
   have q:decide (progS l=progS l)=true:=decide_eq_true rfl
   simp only[go_sem,e0,e1,e2,e3,q,Bool.not_true]
   exact⟨s3,rfl,(g1.trans g2).trans g3⟩
theorem QkY{l:List Dec}(hr:RN (nodesDecs false l))(h:∀ d ∈ l,∀ c ∈ d.cons,allTy numB c.arg=true):∀ d ∈ l,NumCons d.cons:=λd hd c hc hh=>by
 have h1:=RN.decs hr d hd
 refine Qgb c.arg (Q5r c.at_ c.arg λn hn=>?_) (h d hd c hc)
 cases d with
 |mk k a nm p cons nb cs cb fs fb=>
   simp only[nodesDec] at h1
   exact h1.t.r.r n (Q1N hc n (by unfold nodesCon;rw[hh];exact List.mem_cons_of_mem _ hn))
theorem Q9j{k0:Nat}(l:List Dec)(nl:Bool)(g:(Dec.sizes l≤k0∧∀ i,∀ nd ∈ nodesDecs i l,nd.ok)∧∀ d ∈ l,∀ c ∈ d.cons,allTy numB c.arg=true)(hb:k0+0≤1048576):Ret (cw (.f Q3m) [encS nl (l.map Dec.enc)] st0) st0 (.bool true):=
 Q8G l nl st0 (by have:=g.1.1;omega) (g.1.2 false) (λhr=>QkY hr g.2)
end Go.Proofs.YtgfhplcmcdimiaaGreatDoor