/- A part of the proof: STree5, STree6, STree7, SShow1, PShow, SShow2. -/
import Derived.Test.YtgfhplcmcdimiaaGreatDoorM3
import Derived.Test.YtgfhplcmcdimiaaGreatDoorM6
import Derived.Test.YtgfhplcmcdimiaaGreatDoorM7
import Derived.Test.YtgfhplcmcdimiaaGreatDoorM8
import Derived.Test.YtgfhplcmcdimiaaGreatDoorM9
import Derived.Lib.ItoaNum
set_option linter.unusedVariables false
set_option linter.unusedSimpArgs false
open Bool renaming and_eq_true→Yf
open List renaming length_cons→Ya,length_append→Yb,mem_cons_of_mem→Yc,mem_cons_self→Yd,length_nil→Ye,map_cons→Yh,length_map→Yi,append_assoc→Yj,cons_append→Yk,length_singleton→Yl,nil_append→Ym,mem_append_right→Yp,mem_append_left→Yq,append_nil→Yr,sum_cons→Yv
open Nat renaming le_refl→Yg
namespace Go.Proofs.YtgfhplcmcdimiaaGreatDoor
open Go Go.Am
set_option maxRecDepth 4000
section
variable {σ:Type} (step:TNode->σ->σ × Bool)
def walk:List TNode->σ->σ × Bool
 |[],st=>(st,true)
 |n::l,st=>bif (step n st).2 then walk l (step n st).1 else step n st
theorem Q2I(a b:List TNode)(st:σ):walk step (a++b) st=bif (walk step a st).2 then walk step b (walk step a st).1 else walk step a st:=by
 induction a generalizing st with
 |nil=>rfl
 |cons n a ih=>
   simp only[Yk,walk]
   cases h:(step n st).2
   ·simp only[cond_false,h]
   ·simp only[cond_true];exact ih _
variable (R:σ × Bool->St->Prop) (P:TNode->Prop) (loc:Nat)
def YOK:Prop:=∀ nd r st s,P nd->R (st,true) s->∃ s',cw (.y loc) [nd.thing r] s=some (.ret (.val (.bool (step nd st).2)),s')/\R (step nd st) s'
def WOK(f:Nat)(args:List AV)(l:List TNode):Prop:=(∀ n ∈ l,P n)->∀ st s,R (st,true) s->∃ s',cw (.f f) args s=some (.ret (.val (.bool (walk step l st).2)),s')/\R (walk step l st) s'
abbrev wk:AV:=.agg [.yld loc]
variable {step} {R} {P} {loc}
theorem ZZ{st:σ × Bool}{s':St}(hb:st.2=true)(h:R st s'):R (st.1,true) s':=by rw[<-hb];exact h
theorem Q7H(hY:YOK step R P loc)(a:Int)(t:Ty)(r:List AV)(hl:t.args.length<2^40):∀ (suf pre:List Ty) (st:σ) (s:St) (i:Nat),pre++suf=t.args->i=pre.length->(∀ u ∈ suf,∀ r,WOK step R P ZD [wk loc,.cp (u.cells++r),.int .i64 a] (nodesTy a u))->(∀ n ∈ nodesTys a suf,P n)->R (st,true) s->
  ∃ s',ZX (.val (.cp (t.cells++r))) (.val (.int .i64 a)) [.val (.yld loc)] (.val (.int .i64 t.args.length)) (.val (.int .i64 i)) s=some (.ret (.val (.bool (walk step (nodesTys a suf) st).2)),s')/\R (walk step (nodesTys a suf) st) s'
 |[],pre,st,s,i,h,hi,H,hP,hR=>by
   subst hi
   rw[Q3U];simp only[go_sem,Nat.reduceAdd,Nat.reduceLeDiff,Qg (by simpa using h),nodesTys,walk]
   exact⟨s,rfl,hR⟩
 |u::suf,pre,st,s,i,h,hi,H,hP,hR=>by
   subst hi
   obtain⟨f1,f2,f3⟩:=Qe (x:=.val (encS t.nl (t.args.map Ty.enc))) (Q4 _ _) h (by omega) (Ty.cells_len u) (by decide)
   simp only[nodesTys] at hP |-
   obtain⟨s1,e1,g1⟩:=H u (Yd) [] (λn hn=>hP n (Yq _ hn)) st s hR
   rw[Q3U]
   rw[Q2I]
   cases hb:(walk step (nodesTy a u) st).2 with
   |false=>
     rw[hb] at e1
     simp only[go_sem,Nat.reduceAdd,Nat.reduceLeDiff,Ty.cells_eq,f1] at e1 f2 |-
     simp only[go_sem,Nat.reduceAdd,Nat.reduceLeDiff,f2,e1,hb]
     exact⟨s1,rfl,g1⟩
   |true=>
     rw[hb] at e1
     obtain⟨s2,e2,g2⟩:=Q7H hY a t r hl suf (pre++[u]) (walk step (nodesTy a u) st).1 s1 (pre.length+1) (by simpa using h) (by simp) (λw hw=>H w (Yc _ hw)) (λn hn=>hP n (Yp _ hn)) (ZZ hb g1)
     refine⟨s2,?_,g2⟩
     rw[cond_true,<-e2]
     simp only[go_sem,Nat.reduceAdd,Nat.reduceLeDiff,Ty.cells_eq,f1] at e1 f2 |-
     simp only[go_sem,Nat.reduceAdd,Nat.reduceLeDiff,f2,e1,f3]
theorem Q7I(hY:YOK step R P loc):∀ (m:Nat) (a:Int) (t:Ty) (r:List AV),t.size<=m->t.size<2^40->WOK step R P ZD [wk loc,.cp (t.cells++r),.int .i64 a] (nodesTy a t)
 |0,a,.mk _ _ _ _ _,_,h,_=>by simp only[Ty.size] at h;omega
 |m+1,a,.mk k n nm l nl,r,h,h'=>λhP st s hR=>by
   simp only[Ty.size] at h h'
   have hl:=Ty.len_sizes l
   simp only[nodesTy] at hP |-
   obtain⟨s1,e1,g1⟩:=hY (.ty (.mk k n nm l nl) a) r st s (hP _ (Yd)) hR
   rw[Qab]
   simp only[walk]
   cases hb:(step (.ty (.mk k n nm l nl) a) st).2 with
   |false=>
     rw[hb] at e1
     simp only[go_sem,Nat.reduceAdd,Nat.reduceLeDiff,TNode.thing] at e1 |-
     simp only[go_sem,e1,hb]
     exact⟨s1,rfl,g1⟩
   |true=>
     rw[hb] at e1
     obtain⟨s2,e2,g2⟩:=Q7H hY a (.mk k n nm l nl) r (by simp only[Ty.args];omega) l [] (step (.ty (.mk k n nm l nl) a) st).1 s1 0 rfl rfl (λu hu r=>by have:=Ty.mem_sizes hu;exact Q7I hY m a u r (by omega) (by omega)) (λn hn=>hP n (Yc _ hn)) (ZZ hb g1)
     refine⟨s2,?_,g2⟩
     rw[cond_true,<-e2]
     simp only[go_sem,Nat.reduceAdd,Nat.reduceLeDiff,TNode.thing] at e1 |-
     simp only[go_sem,e1,Ty.args]
     rfl
theorem Q8x(hY:YOK step R P loc)(t:Pat)(r:List AV)(hl:t.kids.length<2^40):∀ (suf pre:List Pat) (st:σ) (s:St) (i:Nat),pre++suf=t.kids->i=pre.length->(∀ u ∈ suf,∀ r,WOK step R P Zn [wk loc,.cp (u.cells++r)] (nodesPat u))->(∀ n ∈ nodesPats suf,P n)->R (st,true) s->
  ∃ s',Q06 (.val (.cp (t.cells++r))) [.val (.yld loc)] (.val (.int .i64 t.kids.length)) (.val (.int .i64 i)) s=some (.ret (.val (.bool (walk step (nodesPats suf) st).2)),s')/\R (walk step (nodesPats suf) st) s'
 |[],pre,st,s,i,h,hi,H,hP,hR=>by
   subst hi
   rw[Q4r];simp only[go_sem,Nat.reduceAdd,Nat.reduceLeDiff,Qg (by simpa using h),nodesPats,walk]
   exact⟨s,rfl,hR⟩
 |u::suf,pre,st,s,i,h,hi,H,hP,hR=>by
   subst hi
   obtain⟨f1,f2,f3⟩:=Qe (x:=.val (encS t.kb (t.kids.map Pat.enc))) (Q4 _ _) h (by omega) (Pat.cells_len u) (by decide)
   simp only[nodesPats] at hP |-
   obtain⟨s1,e1,g1⟩:=H u (Yd) [] (λn hn=>hP n (Yq _ hn)) st s hR
   rw[Q4r]
   rw[Q2I]
   cases hb:(walk step (nodesPat u) st).2 with
   |false=>
     rw[hb] at e1
     simp only[go_sem,Nat.reduceAdd,Nat.reduceLeDiff,Pat.cells_eq,f1] at e1 f2 |-
     simp only[go_sem,Nat.reduceAdd,Nat.reduceLeDiff,f2,e1,hb]
     exact⟨s1,rfl,g1⟩
   |true=>
     rw[hb] at e1
     obtain⟨s2,e2,g2⟩:=Q8x hY t r hl suf (pre++[u]) (walk step (nodesPat u) st).1 s1 (pre.length+1) (by simpa using h) (by simp) (λw hw=>H w (Yc _ hw)) (λn hn=>hP n (Yp _ hn)) (ZZ hb g1)
     refine⟨s2,?_,g2⟩
     rw[cond_true,<-e2]
     simp only[go_sem,Nat.reduceAdd,Nat.reduceLeDiff,Pat.cells_eq,f1] at e1 f2 |-
     simp only[go_sem,Nat.reduceAdd,Nat.reduceLeDiff,f2,e1,f3]
theorem Q4U(hY:YOK step R P loc):∀ (m:Nat) (t:Pat) (r:List AV),t.size<=m->t.size<2^40->WOK step R P Zn [wk loc,.cp (t.cells++r)] (nodesPat t)
 |0,.mk _ _ _ _ _ _,_,h,_=>by simp only[Pat.size] at h;omega
 |m+1,.mk k a nm n l nl,r,h,h'=>λhP st s hR=>by
   simp only[Pat.size] at h h'
   have hl:=Pat.len_sizes l
   simp only[nodesPat] at hP |-
   obtain⟨s1,e1,g1⟩:=hY (.pat (.mk k a nm n l nl)) r st s (hP _ (Yd)) hR
   rw[QaA]
   simp only[walk]
   cases hb:(step (.pat (.mk k a nm n l nl)) st).2 with
   |false=>
     rw[hb] at e1
     simp only[go_sem,Nat.reduceAdd,Nat.reduceLeDiff,TNode.thing,Pat.at_] at e1 |-
     simp only[go_sem,e1,hb]
     exact⟨s1,rfl,g1⟩
   |true=>
     rw[hb] at e1
     obtain⟨s2,e2,g2⟩:=Q8x hY (.mk k a nm n l nl) r (by simp only[Pat.kids];omega) l [] (step (.pat (.mk k a nm n l nl)) st).1 s1 0 rfl rfl (λu hu r=>by have:=Pat.mem_sizes hu;exact Q4U hY m u r (by omega) (by omega)) (λn hn=>hP n (Yc _ hn)) (ZZ hb g1)
     refine⟨s2,?_,g2⟩
     rw[cond_true,<-e2]
     simp only[go_sem,Nat.reduceAdd,Nat.reduceLeDiff,TNode.thing,Pat.at_] at e1 |-
     simp only[go_sem,e1,Pat.kids]
     rfl
def WExp(step:TNode->σ->σ × Bool)(R:σ × Bool->St->Prop)(P:TNode->Prop)(loc:Nat)(t:Exp):Prop:=∀ r,WOK step R P ZR [wk loc,.cp (t.cells++r)] (nodesExp t)
def WCases(step:TNode->σ->σ × Bool)(R:σ × Bool->St->Prop)(P:TNode->Prop)(loc:Nat)(l:List Case):Prop:=∀ v,(Slot.val v).list? = some (l.map Case.enc)->WOK step R P ZC [wk loc,v] (nodesCases l)
def WDecs(step:TNode->σ->σ × Bool)(R:σ × Bool->St->Prop)(P:TNode->Prop)(loc:Nat)(l:List Dec):Prop:=∀ v inn,(Slot.val v).list? = some (l.map Dec.enc)->WOK step R P ZQ [wk loc,v,.bool inn] (nodesDecs inn l)
theorem Q43(hY:YOK step R P loc)(L:List Case)(x:Slot)(hx:x.list? = some (L.map Case.enc))(hl:L.length<2^40):∀ (suf pre:List Case) (st:σ) (s:St) (i:Nat),pre++suf=L->i=pre.length->(∀ u ∈ suf,WExp step R P loc u.exp/\u.size<2^40)->(∀ n ∈ nodesCases suf,P n)->R (st,true) s->
  ∃ s',ZW x [.val (.yld loc)] (.val (.int .i64 L.length)) (.val (.int .i64 i)) s=some (.ret (.val (.bool (walk step (nodesCases suf) st).2)),s')/\R (walk step (nodesCases suf) st) s'
 |[],pre,st,s,i,h,hi,H,hP,hR=>by
   subst hi
   rw[Q3T];simp only[go_sem,Nat.reduceAdd,Nat.reduceLeDiff,Qg (by simpa using h),nodesCases,walk]
   exact⟨s,rfl,hR⟩
 |.mk p e::suf,pre,st,s,i,h,hi,H,hP,hR=>by
   subst hi
   obtain⟨f1,f2,f3⟩:=Qe hx h (by omega) (Case.cells_len (.mk p e)) (by decide)
   simp only[nodesCases,nodesCase] at hP |-
   obtain⟨hE,hsz⟩:=H (.mk p e) (Yd)
   simp only[Case.exp,Case.size] at hE hsz
   obtain⟨s1,e1,g1⟩:=Q4U hY _ p e.cells (Yg _) (by omega) (λn hn=>hP n (Yq _ (Yq _ hn))) st s hR
   rw[Q3T]
   rw[Q2I,Q2I]
   cases hb:(walk step (nodesPat p) st).2 with
   |false=>
     rw[hb] at e1
     simp only[go_sem,Nat.reduceAdd,Nat.reduceLeDiff,f1,f2,e1,hb]
     exact⟨s1,rfl,g1⟩
   |true=>
     rw[hb] at e1
     rw[cond_true]
     obtain⟨s2,e2,g2⟩:=hE [] (λn hn=>hP n (Yq _ (Yp _ hn))) (walk step (nodesPat p) st).1 s1 (ZZ hb g1)
     cases hb2:(walk step (nodesExp e) (walk step (nodesPat p) st).1).2 with
     |false=>
       rw[hb2] at e2
       simp only[go_sem] at e2
       simp only[go_sem,Nat.reduceAdd,Nat.reduceLeDiff,Nat.reduceSub,f1,f2,e1,e2,hb2]
       exact⟨s2,rfl,g2⟩
     |true=>
       rw[hb2] at e2
       obtain⟨s3,e3,g3⟩:=Q43 hY L x hx hl suf (pre++[.mk p e]) (walk step (nodesExp e) (walk step (nodesPat p) st).1).1 s2 (pre.length+1) (by simpa using h) (by simp) (λw hw=>H w (Yc _ hw)) (λn hn=>hP n (Yp _ hn)) (ZZ hb2 g2)
       refine⟨s3,?_,g3⟩
       rw[cond_true,<-e3]
       simp only[go_sem] at e2
       simp only[go_sem,Nat.reduceAdd,Nat.reduceLeDiff,Nat.reduceSub,f1,f2,e1,e2,f3]
theorem Q8w(hY:YOK step R P loc)(t:Exp)(r:List AV)(hl:t.kids.length<2^40)(HC:WCases step R P loc t.cases):∀ (suf pre:List Exp) (st:σ) (s:St) (i:Nat),pre++suf=t.kids->i=pre.length->(∀ u ∈ suf,WExp step R P loc u)->(∀ n ∈ nodesExps suf++nodesCases t.cases,P n)->R (st,true) s->
  ∃ s',Q05 (.val (.cp (t.cells++r))) [.val (.yld loc)] (.val (.int .i64 t.kids.length)) (.val (.int .i64 i)) s=some (.ret (.val (.bool (walk step (nodesExps suf++nodesCases t.cases) st).2)),s')/\R (walk step (nodesExps suf++nodesCases t.cases) st) s'
 |[],pre,st,s,i,h,hi,H,hP,hR=>by
   subst hi
   simp only[nodesExps,Ym] at hP |-
   obtain⟨s1,e1,g1⟩:=HC (encS t.cb (t.cases.map Case.enc)) (by simp only[go_sem]) hP st s hR
   rw[Q4q];simp only[go_sem,Nat.reduceAdd,Nat.reduceLeDiff,Exp.cells_eq,Qg (by simpa using h),e1]
   exact⟨s1,rfl,g1⟩
 |u::suf,pre,st,s,i,h,hi,H,hP,hR=>by
   subst hi
   obtain⟨f1,f2,f3⟩:=Qe (x:=.val (encS t.kb (t.kids.map Exp.enc))) (Q4 _ _) h (by omega) (Exp.cells_len u) (by decide)
   simp only[nodesExps,Yj] at hP |-
   obtain⟨s1,e1,g1⟩:=H u (Yd) [] (λn hn=>hP n (Yq _ hn)) st s hR
   rw[Q4q]
   rw[Q2I]
   cases hb:(walk step (nodesExp u) st).2 with
   |false=>
     rw[hb] at e1
     simp only[go_sem,Nat.reduceAdd,Nat.reduceLeDiff,Exp.cells_eq,f1] at e1 f2 |-
     simp only[go_sem,Nat.reduceAdd,Nat.reduceLeDiff,f2,e1,hb]
     exact⟨s1,rfl,g1⟩
   |true=>
     rw[hb] at e1
     obtain⟨s2,e2,g2⟩:=Q8w hY t r hl HC suf (pre++[u]) (walk step (nodesExp u) st).1 s1 (pre.length+1) (by simpa using h) (by simp) (λw hw=>H w (Yc _ hw)) (λn hn=>hP n (Yp _ hn)) (ZZ hb g1)
     refine⟨s2,?_,g2⟩
     rw[cond_true,<-e2]
     simp only[go_sem,Nat.reduceAdd,Nat.reduceLeDiff,Exp.cells_eq,f1] at e1 f2 |-
     simp only[go_sem,Nat.reduceAdd,Nat.reduceLeDiff,f2,e1,f3]
theorem Qhi(hY:YOK step R P loc)(t:Exp)(hl:t.kids.length<2^40)(HD:WDecs step R P loc t.decs)(HC:WCases step R P loc t.cases)(HE:∀ u ∈ t.kids,WExp step R P loc u):WExp step R P loc t:=λr hP st s hR=>by
 obtain⟨k,a,nm,n,l,lb,c,cb,d,db⟩:=t
 simp only[Exp.kids,Exp.cases,Exp.decs] at hl HD HC HE
 simp only[nodesExp] at hP |-
 obtain⟨s1,e1,g1⟩:=hY (.exp (.mk k a nm n l lb c cb d db)) r st s (hP _ (Yd)) hR
 rw[Qaz]
 simp only[walk]
 cases hb:(step (.exp (.mk k a nm n l lb c cb d db)) st).2 with
 |false=>
   rw[hb] at e1
   simp only[go_sem,Nat.reduceAdd,Nat.reduceLeDiff,TNode.thing,Exp.at_] at e1 |-
   simp only[go_sem,e1,hb]
   exact⟨s1,rfl,g1⟩
 |true=>
   rw[hb] at e1
   rw[cond_true,Q2I]
   obtain⟨s2,e2,g2⟩:=HD (encS db (d.map Dec.enc)) true (by simp only[go_sem]) (λn hn=>hP n (Yc _ (Yq _ hn))) (step (.exp (.mk k a nm n l lb c cb d db)) st).1 s1 (ZZ hb g1)
   cases hb2:(walk step (nodesDecs true d) (step (.exp (.mk k a nm n l lb c cb d db)) st).1).2 with
   |false=>
     rw[hb2] at e2
     simp only[go_sem,Nat.reduceAdd,Nat.reduceLeDiff,TNode.thing,Exp.at_] at e1 |-
     simp only[go_sem,e1,e2,hb2]
     exact⟨s2,rfl,g2⟩
   |true=>
     rw[hb2] at e2
     obtain⟨s3,e3,g3⟩:=Q8w hY (.mk k a nm n l lb c cb d db) r (by simp only[Exp.kids];omega) HC l [] (walk step (nodesDecs true d) (step (.exp (.mk k a nm n l lb c cb d db)) st).1).1 s2 0 rfl rfl HE (λn hn=>hP n (Yc _ (Yp _ hn))) (ZZ hb2 g2)
     refine⟨s3,?_,g3⟩
     simp only[Exp.cases] at e3
     rw[cond_true,<-e3]
     simp only[go_sem,Nat.reduceAdd,Nat.reduceLeDiff,TNode.thing,Exp.at_] at e1 |-
     simp only[go_sem,e1,e2,Exp.kids]
     rfl
theorem Q3d(hY:YOK step R P loc)(d:Dec)(x1 x2 x14:Slot)(j:Nat)(hj:j<2^40)(hl:d.cons.length<2^40)(hsz:Con.sizes d.cons<2^40)(rest:List TNode)
  (K:∀ st s,R (st,true) s->(∀ n ∈ rest,P n)->∃ s',Ze x1 x2 [.val (.yld loc)] x14 (.val (.int .i64 (j+1:Nat))) s=some (.ret (.val (.bool (walk step rest st).2)),s')/\R (walk step rest st) s') :
  ∀ (suf pre:List Con) (st:σ) (s:St) (i:Nat),pre++suf=d.cons->i=pre.length->Con.sizes suf<2^40->(∀ n ∈ nodesCons suf++rest,P n)->R (st,true) s->
  ∃ s',Q04 x1 x2 [.val (.yld loc)] (.val (.cp d.cells)) x14 (.val (.int .i64 j)) (.val (.int .i64 d.cons.length)) (.val (.int .i64 i)) s=some (.ret (.val (.bool (walk step (nodesCons suf++rest) st).2)),s')/\R (walk step (nodesCons suf++rest) st) s'
 |[],pre,st,s,i,h,hi,hz,hP,hR=>by
   subst hi
   simp only[nodesCons,Ym] at hP |-
   obtain⟨s1,e1,g1⟩:=K st s hR hP
   refine⟨s1,?_,g1⟩
   rw[Q4p,<-e1];simp only[go_sem,Nat.reduceAdd,Nat.reduceLeDiff,Qg (by simpa using h)]
   rw[wrap64 (by omega) (by omega)];rfl
 |.mk nm a hs arg::suf,pre,st,s,i,h,hi,hz,hP,hR=>by
   subst hi
   obtain⟨f1,f2,f3⟩:=Qe (x:=.val (encS d.nb (d.cons.map Con.enc))) (Q4 _ _) h (by omega) (Con.cells_len ⟨nm,a,hs,arg⟩) (by decide)
   simp only[Con.sizes,Con.size] at hz
   simp only[nodesCons,nodesCon,Yj,Yk] at hP |-
   obtain⟨s1,e1,g1⟩:=hY (.con ⟨nm,a,hs,arg⟩) [] st s (hP _ (Yd)) hR
   rw[Q4p]
   simp only[walk]
   cases hb:(step (.con ⟨nm,a,hs,arg⟩) st).2 with
   |false=>
     rw[hb] at e1
     simp only[go_sem,Nat.reduceAdd,Nat.reduceLeDiff,Dec.cells_eq,Con.cells,TNode.thing,f1] at e1 f2 |-
     simp only[go_sem,Nat.reduceAdd,Nat.reduceLeDiff,f2,e1,hb]
     exact⟨s1,rfl,g1⟩
   |true=>
     rw[hb] at e1
     rw[cond_true]
     cases hs with
     |false=>
       obtain⟨s2,e2,g2⟩:=Q3d hY d x1 x2 x14 j hj hl hsz rest K suf (pre++[⟨nm,a,false,arg⟩]) (step (.con ⟨nm,a,false,arg⟩) st).1 s1 (pre.length+1) (by simpa using h) (by simp) (by omega) (λn hn=>hP n (Yc _ hn)) (ZZ hb g1)
       refine⟨s2,?_,g2⟩
       rw[cond_false,Ym,<-e2]
       simp only[go_sem,Nat.reduceAdd,Nat.reduceLeDiff,Dec.cells_eq,Con.cells,TNode.thing,f1] at e1 f2 |-
       simp only[go_sem,Nat.reduceAdd,Nat.reduceLeDiff,f2,e1,f3]
     |true=>
       rw[cond_true,Q2I]
       rw[cond_true] at hP
       obtain⟨s2,e2,g2⟩:=Q7I hY _ a arg [] (Yg _) (by omega) (λn hn=>hP n (Yc _ (Yq _ hn))) (step (.con ⟨nm,a,true,arg⟩) st).1 s1 (ZZ hb g1)
       cases hb2:(walk step (nodesTy a arg) (step (.con ⟨nm,a,true,arg⟩) st).1).2 with
       |false=>
         rw[hb2] at e2
         simp only[go_sem] at e2
         simp only[go_sem,Nat.reduceAdd,Nat.reduceLeDiff,Dec.cells_eq,Con.cells,TNode.thing,f1] at e1 f2 |-
         simp only[go_sem,Nat.reduceAdd,Nat.reduceLeDiff,f2,e1,e2,hb2]
         exact⟨s2,rfl,g2⟩
       |true=>
         rw[hb2] at e2
         obtain⟨s3,e3,g3⟩:=Q3d hY d x1 x2 x14 j hj hl hsz rest K suf (pre++[⟨nm,a,true,arg⟩]) (walk step (nodesTy a arg) (step (.con ⟨nm,a,true,arg⟩) st).1).1 s2 (pre.length+1) (by simpa using h) (by simp) (by omega) (λn hn=>hP n (Yc _ (Yp _ hn))) (ZZ hb2 g2)
         refine⟨s3,?_,g3⟩
         rw[cond_true,<-e3]
         simp only[go_sem] at e2
         simp only[go_sem,Nat.reduceAdd,Nat.reduceLeDiff,Dec.cells_eq,Con.cells,TNode.thing,f1] at e1 f2 |-
         simp only[go_sem,Nat.reduceAdd,Nat.reduceLeDiff,f2,e1,e2,f3]
theorem Q6b(hY:YOK step R P loc)(d:Dec)(x1 x2 x14:Slot)(j:Nat)(hj:j<2^40)(hl0:d.funs.length<2^40)(hl:d.cons.length<2^40)(hsz:Con.sizes d.cons<2^40)(rest:List TNode)
  (K:∀ st s,R (st,true) s->(∀ n ∈ rest,P n)->∃ s',Ze x1 x2 [.val (.yld loc)] x14 (.val (.int .i64 (j+1:Nat))) s=some (.ret (.val (.bool (walk step rest st).2)),s')/\R (walk step rest st) s') :
  ∀ (suf pre:List Fun) (st:σ) (s:St) (i:Nat),pre++suf=d.funs->i=pre.length->(∀ f ∈ suf,WCases step R P loc [f.case])->(∀ n ∈ nodesFuns suf++(nodesCons d.cons++rest),P n)->R (st,true) s->
  ∃ s',Q03 x1 x2 [.val (.yld loc)] (.val (.cp d.cells)) x14 (.val (.int .i64 j)) (.val (.int .i64 d.funs.length)) (.val (.int .i64 i)) s=some (.ret (.val (.bool (walk step (nodesFuns suf++(nodesCons d.cons++rest)) st).2)),s')/\R (walk step (nodesFuns suf++(nodesCons d.cons++rest)) st) s'
 |[],pre,st,s,i,h,hi,H,hP,hR=>by
   subst hi
   simp only[nodesFuns,Ym] at hP |-
   obtain⟨s1,e1,g1⟩:=Q3d hY d x1 x2 x14 j hj hl hsz rest K d.cons [] st s 0 rfl rfl hsz hP hR
   refine⟨s1,?_,g1⟩
   rw[Q4o,<-e1];simp only[go_sem,Nat.reduceAdd,Nat.reduceLeDiff,Dec.cells_eq,Qg (by simpa using h)]
   rfl
 |.mk nm a c::suf,pre,st,s,i,h,hi,H,hP,hR=>by
   subst hi
   obtain⟨f1,f2,f3⟩:=Qe (x:=.val (encS d.fb (d.funs.map Fun.enc))) (Q4 _ _) h (by omega) (Fun.cells_len (.mk nm a c)) (by decide)
   simp only[nodesFuns,nodesFun,Yj,Yk] at hP |-
   obtain⟨s1,e1,g1⟩:=hY (.fn (.mk nm a c)) [] st s (hP _ (Yd)) hR
   rw[Q4o]
   simp only[walk]
   cases hb:(step (.fn (.mk nm a c)) st).2 with
   |false=>
     rw[hb] at e1
     simp only[go_sem,Nat.reduceAdd,Nat.reduceLeDiff,Dec.cells_eq,TNode.thing,Fun.at_,f1] at e1 f2 |-
     simp only[go_sem,Nat.reduceAdd,Nat.reduceLeDiff,f2,e1,hb]
     exact⟨s1,rfl,g1⟩
   |true=>
     rw[hb] at e1
     rw[cond_true,Q2I]
     obtain⟨s2,e2,g2⟩:=H (.mk nm a c) (Yd) (.sl [c.enc]) (by simp only[go_sem,Fun.case]) (λn hn=>hP n (Yc _ (Yq _ (by simpa [nodesCases,Fun.case] using hn)))) (step (.fn (.mk nm a c)) st).1 s1 (ZZ hb g1)
     simp only[Fun.case,nodesCases,Yr] at e2 g2
     cases hb2:(walk step (nodesCase c) (step (.fn (.mk nm a c)) st).1).2 with
     |false=>
       rw[hb2] at e2
       simp only[go_sem,Nat.reduceAdd,Nat.reduceLeDiff,Dec.cells_eq,TNode.thing,Fun.at_,f1] at e1 f2 |-
       simp only[go_sem,Nat.reduceAdd,Nat.reduceLeDiff,f2,e1,e2,hb2]
       exact⟨s2,rfl,g2⟩
     |true=>
       rw[hb2] at e2
       obtain⟨s3,e3,g3⟩:=Q6b hY d x1 x2 x14 j hj hl0 hl hsz rest K suf (pre++[.mk nm a c]) (walk step (nodesCase c) (step (.fn (.mk nm a c)) st).1).1 s2 (pre.length+1) (by simpa using h) (by simp) (λw hw=>H w (Yc _ hw)) (λn hn=>hP n (Yc _ (Yp _ hn))) (ZZ hb2 g2)
       refine⟨s3,?_,g3⟩
       rw[cond_true,<-e3]
       simp only[go_sem,Nat.reduceAdd,Nat.reduceLeDiff,Dec.cells_eq,TNode.thing,Fun.at_,f1] at e1 f2 |-
       simp only[go_sem,Nat.reduceAdd,Nat.reduceLeDiff,f2,e1,e2,f3]
theorem Q4T(hY:YOK step R P loc)(L:List Dec)(x:Slot)(hx:x.list? = some (L.map Dec.enc))(inn:Bool)(hl:L.length<2^40):∀ (suf pre:List Dec) (st:σ) (s:St) (i:Nat),pre++suf=L->i=pre.length->(∀ d ∈ suf,d.size<2^40/\WCases step R P loc d.case/\∀ f ∈ d.funs,WCases step R P loc [f.case])->(∀ n ∈ nodesDecs inn suf,P n)->R (st,true) s->
  ∃ s',Ze x (.val (.bool inn)) [.val (.yld loc)] (.val (.int .i64 L.length)) (.val (.int .i64 i)) s=some (.ret (.val (.bool (walk step (nodesDecs inn suf) st).2)),s')/\R (walk step (nodesDecs inn suf) st) s'
 |[],pre,st,s,i,h,hi,H,hP,hR=>by
   subst hi
   rw[Q4n];simp only[go_sem,Nat.reduceAdd,Nat.reduceLeDiff,Qg (by simpa using h),nodesDecs,walk]
   exact⟨s,rfl,hR⟩
 |.mk k a nm p l nb c cb f fb::suf,pre,st,s,i,h,hi,H,hP,hR=>by
   subst hi
   obtain⟨f1,f2,f3⟩:=Qe hx h (by omega) (Dec.cells_len (.mk k a nm p l nb c cb f fb)) (by decide)
   obtain⟨hsz,HC,HF⟩:=H _ (Yd)
   simp only[Dec.case,Dec.funs,Dec.size] at hsz HC HF
   have q1:=Fun.len_sizes f
   have q2:=Con.len_sizes l
   have hlen:pre.length<L.length:=by rw[<-h];simp
   simp only[nodesDecs,nodesDec,Yj,Yk] at hP |-
   obtain⟨s1,e1,g1⟩:=hY (.dec inn (.mk k a nm p l nb c cb f fb)) [] st s (hP _ (Yd)) hR
   rw[Q4n]
   simp only[walk]
   cases hb:(step (.dec inn (.mk k a nm p l nb c cb f fb)) st).2 with
   |false=>
     rw[hb] at e1
     simp only[go_sem,Nat.reduceAdd,Nat.reduceLeDiff,TNode.thing,Dec.at_,f1] at e1 f2 |-
     simp only[go_sem,Nat.reduceAdd,Nat.reduceLeDiff,f2,e1,hb]
     exact⟨s1,rfl,g1⟩
   |true=>
     rw[hb] at e1
     rw[cond_true,Q2I]
     obtain⟨s2,e2,g2⟩:=HC (encS cb (c.map Case.enc)) (by simp only[go_sem]) (λn hn=>hP n (Yc _ (Yq _ hn))) (step (.dec inn (.mk k a nm p l nb c cb f fb)) st).1 s1 (ZZ hb g1)
     cases hb2:(walk step (nodesCases c) (step (.dec inn (.mk k a nm p l nb c cb f fb)) st).1).2 with
     |false=>
       rw[hb2] at e2
       simp only[go_sem,Nat.reduceAdd,Nat.reduceLeDiff,TNode.thing,Dec.at_,f1] at e1 f2 |-
       simp only[go_sem,Nat.reduceAdd,Nat.reduceLeDiff,f2,e1,e2,hb2]
       exact⟨s2,rfl,g2⟩
     |true=>
       rw[hb2] at e2
       obtain⟨s3,e3,g3⟩:=Q6b hY (.mk k a nm p l nb c cb f fb) x (.val (.bool inn)) (.val (.int .i64 L.length)) pre.length (by omega) (by simp only[Dec.funs];omega) (by simp only[Dec.cons];omega) (by simp only[Dec.cons];omega) (nodesDecs inn suf)
        (λst s hR hP=>Q4T hY L x hx inn hl suf (pre++[.mk k a nm p l nb c cb f fb]) st s (pre.length+1) (by simpa using h) (by simp) (λw hw=>H w (Yc _ hw)) hP hR)
        f [] (walk step (nodesCases c) (step (.dec inn (.mk k a nm p l nb c cb f fb)) st).1).1 s2 0 rfl rfl HF (λn hn=>hP n (Yc _ (Yp _ hn))) (ZZ hb2 g2)
       refine⟨s3,?_,g3⟩
       simp only[Dec.cons] at e3
       rw[cond_true,<-e3]
       simp only[go_sem,Nat.reduceAdd,Nat.reduceLeDiff,TNode.thing,Dec.at_,f1] at e1 f2 |-
       simp only[go_sem,Nat.reduceAdd,Nat.reduceLeDiff,f2,e1,e2,Dec.funs]
       rfl
theorem Qlp(hY:YOK step R P loc):∀ m:Nat,(∀ e:Exp,e.size<=m->e.size<2^40->WExp step R P loc e)/\(∀ l:List Case,Case.sizes l<=m->Case.sizes l<2^40->WCases step R P loc l)/\(∀ l:List Dec,Dec.sizes l<=m->Dec.sizes l<2^40->WDecs step R P loc l):=by
 intro m
 induction m with
 |zero=>
   refine⟨λe h _=>?_,λl h _ v hv hP st s hR=>?_,λl h _ v inn hv hP st s hR=>?_⟩
   ·obtain⟨k,a,nm,n,l,lb,c,cb,d,db⟩:=e
    simp only[Exp.size] at h;omega
   ·cases l with
    |cons c l=>obtain⟨p,e⟩:=c;simp only[Case.sizes,Case.size] at h;omega
    |nil=>
      rw[Q5T];simp only[go_sem,Nat.reduceAdd,hv]
      exact Q43 hY [] _ hv (by decide) [] [] st s 0 rfl rfl (by simp) hP hR
   ·cases l with
    |cons c l=>obtain⟨k,a,nm,p,l,nb,c,cb,f,fb⟩:=c;simp only[Dec.sizes,Dec.size] at h;omega
    |nil=>
      rw[Q6a];simp only[go_sem,Nat.reduceAdd,hv]
      exact Q4T hY [] _ hv inn (by decide) [] [] st s 0 rfl rfl (by simp) hP hR
 |succ m ih=>
   obtain⟨ihE,ihC,ihD⟩:=ih
   refine⟨λe h h'=>?_,λl h h' v hv hP st s hR=>?_,λl h h' v inn hv hP st s hR=>?_⟩
   ·refine Qhi hY e ?_ ?_ ?_ ?_<;>obtain⟨k,a,nm,n,l,lb,c,cb,d,db⟩:=e<;>simp only[Exp.size] at h h'<;>simp only[Exp.kids,Exp.cases,Exp.decs]
    ·have:=Exp.len_sizes l;omega
    ·exact ihD d (by omega) (by omega)
    ·exact ihC c (by omega) (by omega)
    ·exact λu hu=>ihE u (by have:=Exp.mem_sizes hu;omega) (by have:=Exp.mem_sizes hu;omega)
   ·have:=Case.len_sizes l
    rw[Q5T];simp only[go_sem,Nat.reduceAdd,hv]
    refine Q43 hY l _ hv (by omega) l [] st s 0 rfl rfl (λt ht=>?_) hP hR
    have h1:=Case.mem_sizes ht
    obtain⟨p,e⟩:=t
    simp only[Case.size,Case.exp] at h1 |-
    exact⟨ihE e (by omega) (by omega),by omega⟩
   ·have:=Dec.len_sizes l
    rw[Q6a];simp only[go_sem,Nat.reduceAdd,hv]
    refine Q4T hY l _ hv inn (by omega) l [] st s 0 rfl rfl (λt ht=>?_) hP hR
    have h1:=Dec.mem_sizes ht
    obtain⟨k,a,nm,p,l,nb,c,cb,f,fb⟩:=t
    simp only[Dec.size,Dec.case,Dec.funs] at h1 |-
    refine⟨by omega,ihC c (by omega) (by omega),λg hg=>?_⟩
    have h2:=Fun.mem_sizes hg
    obtain⟨nm,a,c'⟩:=g
    simp only[Fun.size,Fun.case] at h2 |-
    exact ihC [c'] (by simp only[Case.sizes];omega) (by simp only[Case.sizes];omega)
end
end Go.Proofs.YtgfhplcmcdimiaaGreatDoor
namespace Go.Am
open Go
abbrev TkB:=List Nat × List (Nat × TypeId)
def St.tb(s:St):TkB:=(s.toks,s.bl)
def lay0(L:List Obj)(cs:List Slot)(g:List Obj)(T:TkB):St:=⟨L++(.var cs::g),T.1,T.2⟩
def lay(L:List Obj)(cs:List Slot)(g:List Obj)(o:Obj)(a:List Obj)(T:TkB):St:=⟨L++(.var cs::(g++(o::a))),T.1,T.2⟩
def reL(st:LSt)(p:Option AExit):Obj->Obj
 |.loop _ _ f e ps a b=>.loop st p f e ps a b
 |o=>o
def isReady:Obj->Bool
 |.loop .ready none _ _ _ _ _=>true
 |_=>false
theorem Q7Q{o:Obj}(h:isReady o=true):∃ f e ps a b,o = .loop .ready none f e ps a b:=by
 cases o with
 |loop st p f e ps a b=>cases st<;>cases p<;>first|exact⟨f,e,ps,a,b,rfl⟩|cases h
 |_=>cases h
section
variable (L:List Obj) (cs cs':List Slot) (g a:List Obj) (o:Obj) (T:TkB) (t:TI) (p:Option AExit) (st:LSt)
@[go_sem] theorem Qnp:ldV t false (lay0 L cs g T) (.val (.vp L.length 0))=ofSlots t (cs.take t.size):=by
  simp[ldV,lay0]
@[go_sem] theorem Qz6:ldV t false (lay L cs g o a T) (.val (.vp L.length 0))=ofSlots t (cs.take t.size):=Qnp ..
variable {cs cs'} in
@[go_sem] theorem QiU(h:cs'.length=cs.length):stV (lay0 L cs g T) (.val (.vp L.length 0)) cs'=some (lay0 L cs' g T):=by
  simp[stV,lay0,putAt,h]
variable {cs cs'} in
@[go_sem] theorem Qfx(h:cs'.length=cs.length):stV (lay L cs g o a T) (.val (.vp L.length 0)) cs'=some (lay L cs' g o a T):=QiU _ _ _ h
theorem QaY:(lay L cs g o a T).locs[L.length+1+g.length]? = some o:=by
 simp only[lay]
 rw[List.getElem?_append_right (by omega),show L.length+1+g.length - L.length=g.length+1 by omega,List.getElem?_cons_succ,List.getElem?_append_right (by omega)]
 simp
theorem Qkl(o':Obj):(lay L cs g o a T).locs.set (L.length+1+g.length) o'=L++(.var cs::(g++(o'::a))):=by
 simp only[lay]
 rw[List.set_append_right _ _ (by omega),show L.length+1+g.length - L.length=g.length+1 by omega,List.set_cons_succ,List.set_append_right _ _ (by omega)]
 simp
variable {o} in
@[go_sem] theorem Qds(h:isReady o=true):beginL (L.length+1+g.length) (lay L cs g o a T)=some (lay L cs g (reL .busy none o) a T):=by
  obtain⟨f,e,ps,x,y,rfl⟩:=Q7Q h
  unfold beginL
  rw[QaY]
  simp only[Qkl];rfl
variable {o} in
theorem Q98(h:isReady o=true)(q:LSt)(r:Option AExit):setLoop (L.length+1+g.length) q r (lay L cs g (reL st p o) a T)=some (lay L cs g (reL q r o) a T):=by
 obtain⟨f,e,ps,x,y,rfl⟩:=Q7Q h
 unfold setLoop
 rw[QaY]
 simp only[reL,Qkl];rfl
variable {o} in
theorem Q6O(h:isReady o=true):reL .ready none o=o:=by
 obtain⟨f,e,ps,x,y,rfl⟩:=Q7Q h
 rfl
variable {o} in
theorem QhJ(h:isReady o=true)(hs:st≠.busy)(kn kr:St->Res)(ke:Nat->St->Res):endX (L.length+1+g.length) (lay L cs g (reL st p o) a T) kn kr ke=pendX p kn kr ke (lay L cs g (reL .exhausted p o) a T):=by
 have e1:=Q98 L cs g a T p st h .exhausted p
 obtain⟨f,e,ps,x,y,rfl⟩:=Q7Q h
 simp only[reL] at e1 |-
 unfold endX
 rw[QaY]
 cases st<;>first|(exact absurd rfl hs)|(simp only[e1];rfl)
theorem Qkk:(lay0 L cs g T).locs.length=L.length+1+g.length:=by simp[lay0];omega
theorem Qkj:(lay0 L cs g T).addLoc o=lay L cs g o [] T:=by simp[lay0,lay,St.addLoc]
end
theorem addVar(s:St)(cs:List Slot):s.addLoc (.var cs)=lay0 s.locs cs [] s.tb:=rfl
theorem Grew.lay0{s:St}(cs:List Slot)(g:List Obj){T:TkB}(h:∃ b,T.1=s.toks++b):Grew s (lay0 s.locs cs g T):=⟨⟨_,rfl⟩,h⟩
theorem Grew.lay{s:St}(cs:List Slot)(g:List Obj)(o:Obj)(a:List Obj){T:TkB}(h:∃ b,T.1=s.toks++b):Grew s (lay s.locs cs g o a T):=⟨⟨_,rfl⟩,h⟩
theorem Grew.layE{s:St}(cs:List Slot)(g:List Obj)(o:Obj)(a:List Obj):Grew s (Am.lay s.locs cs g o a s.tb):=⟨⟨_,rfl⟩,⟨[],by simp[Am.lay,St.tb]⟩⟩
theorem Grew.of_lay0{L:List Obj}{cs:List Slot}{T:TkB}{s:St}(h:Grew (Am.lay0 L cs [] T) s):∃ (g:List Obj) (T':TkB),s=Am.lay0 L cs g T'/\∃ b,T'.1=T.1++b:=by
 obtain⟨⟨a,ha⟩,b,hb⟩:=h
 refine⟨a,s.tb,?_,b,hb⟩
 obtain⟨l,t,u⟩:=s
 simp only[Am.lay0,St.tb] at ha |-
 rw[ha];simp
end Go.Am
namespace Go.Proofs.YtgfhplcmcdimiaaGreatDoor
open Go Go.Am
set_option maxRecDepth 4000
def cstep(most:Int)(n:TNode)(k:Int):Int × Bool:=(bif n.isNode then IntKind.i64.wrap (k+1) else k,!decide ((bif n.isNode then IntKind.i64.wrap (k+1) else k)≥most))
theorem Qaf(most:Int):∀ (l:List TNode) (n:Nat),(n:Int)<most->n+l.length<2^62->walk (cstep most) l n=(if ((n+countN l:Nat):Int)<most then (((n+countN l:Nat):Int),true) else (most,false))
 |[],n,h,_=>by simp[walk,countN,h]
 |u::l,n,h,hb=>by
   simp only[Ya] at hb
   have hw:IntKind.i64.wrap ((n:Int)+1)=((n+1:Nat):Int):=by rw[wrap64 (by omega) (by omega)];rfl
   simp only[walk,cstep]
   cases hu:u.isNode
   ·have e:countN (u::l)=countN l:=by simp[countN,hu]
    have e2:(!decide ((n:Int)≥most))=true:=by simpa using h
    simp only[cond_false,e2,cond_true,e]
    exact Qaf most l n h (by omega)
   ·have e:countN (u::l)=countN l+1:=by simp[countN,hu]
    simp only[cond_true,hw,e]
    by_cases h2:((n+1:Nat):Int)<most
    ·have e2:(!decide (((n+1:Nat):Int)≥most))=true:=by simpa using h2
     rw[e2,cond_true,Qaf most l (n+1) h2 (by omega),show n+1+countN l=n+(countN l+1) by omega]
    ·have e2:(!decide (((n+1:Nat):Int)≥most))=false:=by simpa using h2
     rw[e2,cond_false,if_neg (by omega)]
     congr 1;omega
def rstep(n:TNode)(b:TBad):TBad × Bool:=bif decide (n.bad.kind=0) then (b,true) else (n.bad,false)
theorem Qes:∀ (l:List TNode) (b:TBad),walk rstep l b=bif l.all (λn=>decide (n.bad.kind=0)) then (b,true) else (firstBad l,false)
 |[],b=>rfl
 |u::l,b=>by
   simp only[walk,rstep,List.all_cons,firstBad]
   cases hu:decide (u.bad.kind=0)
   ·rfl
   ·simp only[cond_true,Bool.true_and]
    exact Qes l b
theorem Qak:∀ l:List TNode,l.all (λn=>decide (n.bad.kind=0))=true->firstBad l = .zero
 |[],_=>rfl
 |u::l,h=>by
   rw[List.all_cons,Yf] at h
   rw[firstBad,h.1,cond_true]
   exact Qak l h.2
theorem Qgp(nd:TNode)(r:List AV):boxCells (C.ti Z7) (.val (nd.thing r))=some ((nd.thing r).cells.map .val):=by cases nd<;>simp only[go_sem,Nat.reduceAdd,TNode.thing]
theorem Qgq(nd:TNode)(r:List AV)(a b c d e f g h:Slot):putAt [a,b,c,d,e,f,g,h] 0 ((nd.thing r).cells.map .val)=some ((nd.thing r).cells.map .val):=by cases nd<;>rfl
theorem Qei(nd:TNode)(r:List AV):aggO (C.ti Z7) (avs (List.take 8 ((nd.thing r).cells.map .val)))=some (.val (nd.thing r)):=by cases nd<;>kernel_rfl
structure SeqOK (h:AV) (nodes:List TNode):Prop where
 ok:∃ g l,h = .fn g l/\(C.ext g).isSome=false/\∀ (σ:Type) (step:TNode->σ->σ × Bool) (R:σ × Bool->St->Prop) (P:TNode->Prop) (loc:Nat),YOK step R P loc->(∀ n ∈ nodes,P n)->∀ st s,R (st,true) s->
  ∃ v s',cw (.f g) (.yld loc::l) s=some (.ret v,s')/\R (walk step nodes st) s'
theorem SeqOK.range{h:AV}{nodes:List TNode}(H:SeqOK h nodes){σ:Type}{step:TNode->σ->σ × Bool}{R:σ × Bool->St->Prop}{P:TNode->Prop}{loc:Nat}(hY:YOK step R P loc)(hP:∀ n ∈ nodes,P n){st:σ}{s:St}(hR:R (st,true) s)(k:St->Res) :
  ∃ s',rangeC C cw (.val h) loc s k=k s'/\R (walk step nodes st) s':=by
 obtain⟨g,l,rfl,he,H⟩:=H.ok
 obtain⟨v,s',e,g'⟩:=H σ step R P loc hY hP st s hR
 refine⟨s',?_,g'⟩
 unfold rangeC
 have:tgtV (.val (.fn g l)) []=some (.f g,l):=rfl
 rw[this]
 simp only[he,cond_false,e]
 rfl
theorem Qa9(t:Exp)(s:St)(h:t.size<2^40):∃ q,cw (.f Q3Z) [t.enc] s=some (.ret (.val q),s)/\SeqOK q (nodesExp t):=by
 refine⟨.fn Q3a [.cp t.cells],?_,⟨_,_,rfl,by kernel_rfl,λσ step R P loc hY hP st s hR=>?_⟩⟩
 ·rw[Qbp];simp only[go_sem]
 ·obtain⟨s',e,g⟩:=(Qlp hY t.size).1 t (Yg _) h [] hP st s hR
  rw[Yr] at e
  rw[Qa8];simp only[go_sem,Nat.reduceAdd,Nat.reduceLeDiff,e]
  exact⟨_,s',rfl,g⟩
theorem QbZ(t:Pat)(s:St)(h:t.size<2^40):∃ q,cw (.f Q6h) [t.enc] s=some (.ret (.val q),s)/\SeqOK q (nodesPat t):=by
 refine⟨.fn Q4I [.cp t.cells],?_,⟨_,_,rfl,by kernel_rfl,λσ step R P loc hY hP st s hR=>?_⟩⟩
 ·rw[Qeo];simp only[go_sem]
 ·obtain⟨s',e,g⟩:=Q4U hY t.size t [] (Yg _) h hP st s hR
  rw[Yr] at e
  rw[QbY];simp only[go_sem,Nat.reduceAdd,Nat.reduceLeDiff,e]
  exact⟨_,s',rfl,g⟩
theorem Qel{h:AV}{nodes:List TNode}(H:SeqOK h nodes)(most:Nat)(hm:0<most)(hl:nodes.length<2^61)(s:St):Ret (cw (.f Q5r) [h,.int .i64 most] s) s (.int .i64 (min (countN nodes) most:Nat)):=by
 let o:=Q7f (.val (.cp [.int .i64 most])) (.val (.vp s.locs.length 0))
 have ho:isReady o=true:=rfl
 let R:Int × Bool->St->Prop:=λp s1=>s1=lay s.locs [.val (.int .i64 p.1)] [] (bif p.2 then o else reL .done (some (.exit 0)) o) [] s.tb
 have hY:YOK (cstep most) R (λ_=>True) (s.locs.length+1):=by
  rintro nd r st s1 - rfl
  simp only[cond_true]
  have b0:=QaY s.locs [.val (.int .i64 st)] [] [] o s.tb
  rw[Ye,Nat.add_zero] at b0
  rw[cw,QfG b0]
  rw[Qde]
  have b1:=Qds s.locs [.val (.int .i64 st)] [] [] s.tb ho
  have b2:∀ n st p q r,setLoop (s.locs.length+1) q r (lay s.locs [.val (.int .i64 n)] [] (reL st p o) [] s.tb)=_:=λn st p q r=>Q98 s.locs [.val (.int .i64 n)] [] [] s.tb p st ho q r
  simp only[Ye,Nat.add_zero] at b1
  simp only[go_sem,Nat.reduceAdd,Nat.reduceLeDiff,Qgp,Qgq,Qei,b1]
  simp only[go_sem,Nat.reduceAdd,Nat.reduceLeDiff,QW (show (Slot.val (nd.thing r)).av=some (nd.thing r) from rfl),Qaa]
  have b3:∀ n st p v',stV (lay s.locs [.val (.int .i64 n)] [] (reL st p o) [] s.tb) (.val (.vp s.locs.length 0)) [.val v']=_:=λn st p v'=>Qfx s.locs [] [] (reL st p o) s.tb rfl
  cases hn:nd.isNode
  ·simp only[go_sem,b2,cstep,hn]
   cases hd:decide (st≥(most:Int))
   ·simp only[go_sem];exact⟨_,rfl,by simp only[R,Bool.not_false,cond_true,Q6O ho]⟩
   ·simp only[go_sem];exact⟨_,rfl,by simp only[R,Bool.not_true,cond_false]⟩
  ·simp only[go_sem,b2,b3,cstep,hn]
   cases hd:decide (IntKind.i64.wrap (st+1)≥(most:Int))
   ·simp only[go_sem];exact⟨_,rfl,by simp only[R,Bool.not_false,cond_true,Q6O ho]⟩
   ·simp only[go_sem];exact⟨_,rfl,by simp only[R,Bool.not_true,cond_false]⟩
 rw[Qhb]
 simp only[go_sem,Nat.reduceAdd,addVar,Qkk,Qkj]
 obtain⟨s',e,g⟩:=H.range hY (λ_ _=>trivial) (st:=0) (s:=lay s.locs [.val (.int .i64 0)] [] o [] s.tb) rfl (λs_10=>endX (s.locs.length+1) s_10 (λs_11=>bind1 (ldV (C.ti Q1) false s_11 (.val (.vp s.locs.length 0))) λv16=>some (.ret v16,s_11)) (λs_12=>some (.ret (.val (.int .i64 0)),s_12)) (λj s_13=>bif Nat.beq j 0 then (bind1 (ldV (C.ti Q1) false s_13 (.val (.vp s.locs.length 0))) λv16_1=>some (.ret v16_1,s_13)) else none))
 refine (congrArg (λr=>Ret r s (.int .i64 (min (countN nodes) most:Nat))) (Eq.trans rfl e)).mpr ?_
 have:=Qaf most nodes 0 (by omega) (by omega)
 rw[Nat.zero_add] at this
 rw[show ((0:Nat):Int)=0 from rfl] at this
 rw[this] at g
 have b2:∀ n st p,st≠.busy->∀ kn kr ke,endX (s.locs.length+1) (lay s.locs [.val (.int .i64 n)] [] (reL st p o) [] s.tb) kn kr ke=_:=λn st p hs kn kr ke=>QhJ s.locs [.val (.int .i64 n)] [] [] s.tb p st ho hs kn kr ke
 subst g
 by_cases hc:(countN nodes:Int)<most
 ·rw[if_pos hc]
  simp only[cond_true]
  rw[<-Q6O ho,b2 _ _ _ (by intro h;cases h),show min (countN nodes) most=countN nodes by omega]
  simp only[go_sem,Nat.reduceAdd,Nat.reduceLeDiff,pendX]
  exact Ret.mk (.layE _ _ _ _)
 ·rw[if_neg hc]
  simp only[cond_false]
  rw[b2 _ _ _ (by intro h;cases h),show min (countN nodes) most=most by omega]
  simp only[go_sem,Nat.reduceAdd,Nat.reduceLeDiff,pendX,Nat.beq]
  exact Ret.mk (.layE _ _ _ _)
def NumOK(d:AV)(n:Int):Prop:=∃ g l,d = .fn g l/\∀ s,cw (.f g) l s=some (.ret (.val (.int .i64 n)),s)
theorem QmZ(b:TBad):aggO (C.ti Qa) (avs (List.take 3 (b.cells.map .val)))=some (.val b.enc):=by kernel_rfl
theorem Q8T{h d:AV}{nodes:List TNode}{n:Int}(H:SeqOK h nodes)(HD:NumOK d n)(hl:nodes.length<2^61)(hn:∀ nd ∈ nodes,nd.name.length<2^40)(s:St):Ret (cw (.f Q3q) [h,d] s) s (rightN nodes n).enc:=by
 rw[Qhf]
 obtain⟨s1,e1,g1⟩:=Qel H 8193 (by decide) hl (s.addLoc (.var (TBad.zero.cells.map .val)))
 obtain⟨gf,gl,rfl,hd⟩:=HD
 rw[addVar] at e1 g1
 obtain⟨g,T,rfl,hT⟩:=g1.of_lay0
 have e0:s.addLoc (.var (List.map .val (C.ti Qa).zero))=lay0 s.locs (TBad.zero.cells.map .val) [] s.tb:=rfl
 rw[e0]
 rw[show ((8193:Nat):Int)=8193 from rfl] at e1
 have k1:∀ v:List AV,v.length=3->∀ r,Ret (some (.ret (.val r),lay0 s.locs (v.map .val) g T)) s r:=λv _ r=>Ret.mk (.lay0 _ _ hT)
 have k2:∀ (v:List AV) o a r,Ret (some (.ret (.val r),lay s.locs (v.map .val) g o a T)) s r:=λv o a r=>Ret.mk (.lay _ _ _ _ hT)
 have hst0:∀ x y z:AV,stV (lay0 s.locs (TBad.zero.cells.map .val) g T) (.val (.vp s.locs.length 0)) [.val x,.val y,.val z]=some (lay0 s.locs ([x,y,z].map .val) g T):=λx y z=>QiU _ _ _ rfl
 have hst:∀ (c:TBad) o x y z,stV (lay s.locs (c.cells.map .val) g o [] T) (.val (.vp s.locs.length 0)) [.val x,.val y,.val z]=some (lay s.locs ([x,y,z].map .val) g o [] T):=λc o x y z=>Qfx _ _ _ _ _ rfl
 have hb:∀ x y z:AV,aggO (C.ti Qa) (avs (List.take 3 ([x,y,z].map .val)))=some (.val (.agg [x,y,z])):=λx y z=>by kernel_rfl
 simp only[go_sem,Nat.reduceAdd,Nat.reduceLeDiff,e1,QW (show (Slot.val h).av=some h from rfl),hd,hst0,hb]
 have hc:decide (((min (countN nodes) 8193:Nat):Int)>8192)=decide (countN nodes>8192):=by simp only[gt_iff_lt];congr 1;rw[eq_iff_iff];omega
 rw[hc]
 unfold rightN
 cases decide (countN nodes>8192) with
 |true=>simp only[go_sem];exact k1 [_,_,_] rfl _
 |false=>
   cases decide (n>100) with
   |true=>simp only[go_sem];exact k1 [_,_,_] rfl _
   |false=>
     simp only[go_sem,Qkk,Qkj]
     let o:=Q7g (.val (.vp s.locs.length 0))
     have ho:isReady o=true:=rfl
     let R:TBad × Bool->St->Prop:=λp s1=>s1=lay s.locs (p.1.cells.map .val) g (bif p.2 then o else reL .done (some .ret) o) [] T
     have hY:YOK rstep R (λnd=>nd.name.length<2^40) (s.locs.length+1+g.length):=by
      rintro nd r st s1 hP rfl
      simp only[cond_true]
      rw[cw,QfG (QaY _ _ _ _ _ _),Qdf]
      have b1:=Qds s.locs (st.cells.map .val) g [] T ho
      have b2:∀ (c:List AV) st p q r,setLoop (s.locs.length+1+g.length) q r (lay s.locs (c.map .val) g (reL st p o) [] T)=_:=λc st p q r=>Q98 s.locs (c.map .val) g [] T p st ho q r
      simp only[go_sem,Nat.reduceAdd,Nat.reduceLeDiff,Qgp,Qgq,Qei,b1]
      simp only[go_sem,QW (show (Slot.val (nd.thing r)).av=some (nd.thing r) from rfl),Q9z _ _ _ hP]
      unfold rstep
      generalize nd.bad=bd
      obtain⟨k,a,nm⟩:=bd
      obtain⟨k0,a0,nm0⟩:=st
      have b3:∀ p x y z x' y' z',stV (lay s.locs [.val x',.val y',.val z'] g (reL .busy p o) [] T) (.val (.vp s.locs.length 0)) [.val x,.val y,.val z]=some (lay s.locs ([x,y,z].map .val) g (reL .busy p o) [] T):=λp x y z x' y' z'=>Qfx _ _ _ _ _ rfl
      have b4:=b2 [.int .i64 k0,.int .i64 a0,.str nm0]
      have b5:=b2 [.int .i64 k,.int .i64 a,.str nm]
      simp only[List.map] at b3 b4 b5
      simp only[go_sem,Nat.reduceAdd,Nat.reduceLeDiff,TBad.enc,TBad.cells,b3,b4,b5]
      cases hk:decide (k=0)
      ·simp only[go_sem];exact⟨_,rfl,by simp only[R,cond_false];rfl⟩
      ·simp only[go_sem];exact⟨_,rfl,by simp only[R,cond_true,Q6O ho];rfl⟩
     obtain⟨s',e,gR⟩:=H.range hY hn (st:=TBad.zero) (s:=lay s.locs (TBad.zero.cells.map .val) g o [] T) rfl (λs_11=>endX (s.locs.length+1+g.length) s_11 (λs_12=>bindS (stV s_12 (.val (.vp s.locs.length 0)) [.val (.int .i64 0),.val (.int .i64 0),.val (.str [])]) λs_15=>bind1 (ldV (C.ti Qa) false s_15 (.val (.vp s.locs.length 0))) λv=>some (.ret v,s_15)) (λs_13=>bind1 (ldV (C.ti Qa) false s_13 (.val (.vp s.locs.length 0))) λv=>some (.ret v,s_13)) (λj s_14=>bif Nat.beq j 0 then ( bindS (stV s_14 (.val (.vp s.locs.length 0)) [.val (.int .i64 0),.val (.int .i64 0),.val (.str [])]) λs_16=>bind1 (ldV (C.ti Qa) false s_16 (.val (.vp s.locs.length 0))) λv=>some (.ret v,s_16)) else ( (none:Res))))
     refine (congrArg (λr=>Ret r s (firstBad nodes).enc) e).mpr ?_
     have b2:∀ (c:List AV) st p,st≠.busy->∀ kn kr ke,endX (s.locs.length+1+g.length) (lay s.locs (c.map .val) g (reL st p o) [] T) kn kr ke=_:=λc st p hs kn kr ke=>QhJ s.locs (c.map .val) g [] T p st ho hs kn kr ke
     rw[Qes] at gR
     simp only[R] at gR
     subst gR
     cases ha:nodes.all λnd=>decide (nd.bad.kind=0)
     ·simp only[cond_false]
      rw[b2 _ _ _ (by intro h;cases h)]
      simp only[go_sem,pendX,QmZ]
      exact k2 _ _ _ _
     ·simp only[cond_true]
      rw[<-Q6O ho,b2 _ _ _ (by intro h;cases h),Qak _ ha]
      simp only[go_sem,Nat.reduceAdd,Nat.reduceLeDiff,pendX,hst,hb]
      exact k2 [_,_,_] _ _ _
end Go.Proofs.YtgfhplcmcdimiaaGreatDoor
namespace Go.Am
open Go
def varOf(p:Pat):List Str:=bif decide (p.kind=2) || decide (p.kind=6) then [p.name] else []
mutual
def varsPat:Pat->List Str
 |.mk k a s n l b=>varOf (.mk k a s n l b)++varsPats l
def varsPats:List Pat->List Str
 |[]=>[]
 |t::l=>varsPat t++varsPats l
end
theorem TNode.ok_name{n:TNode}(h:n.ok):n.name.length<2^40:=by
 cases n<;>first|exact h|exact h.1
@[go_sem] theorem QyW(f:FuncId)(v:AV):fnS f [.val v]=some (.val (.fn f [v])):=id rfl
end Go.Am
namespace Go.Proofs.YtgfhplcmcdimiaaGreatDoor
open Go Go.Am
set_option maxRecDepth 4000
section
variable (R:Nat->List Str->St->Prop) (loc:Nat)
variable {R} {loc}
end
theorem Qbm(t:Exp)(s:St)(h:t.size<2^26)(H:∀ n ∈ nodesExp t,n.ok):Ret (cw (.f Q5p) [t.enc] s) s (rightN (nodesExp t) (deepExp t)).enc:=by
 obtain⟨q,e1,hq⟩:=Qa9 t s (by omega)
 have hlen:=Q2c t
 have hd:NumOK (.fn Q3X [.cp t.cells]) (deepExp t):=⟨_,_,rfl,λs=>by
  rw[Qbl];simp only[go_sem,Nat.reduceLeDiff,QbX t s (by omega)]⟩
 obtain⟨s',e2,g2⟩:=Q8T hq hd (by omega) (λnd hn=>TNode.ok_name (H nd hn)) s
 revert e2
 generalize rightN _ _=b
 intro e2
 obtain⟨k,a,nm⟩:=b
 rw[Qdc];simp only[go_sem,Nat.reduceAdd,Nat.reduceLeDiff,e1,QW (show (Slot.val q).av=some q from rfl),e2,TBad.enc,TBad.cells]
 exact Ret.mk g2
theorem Qbo(t:Pat)(s:St)(h:t.size<2^26)(H:∀ n ∈ nodesPat t,n.ok):Ret (cw (.f Q5q) [t.enc] s) s (rightN (nodesPat t) (deepPat t)).enc:=by
 obtain⟨q,e1,hq⟩:=QbZ t s (by omega)
 have hlen:=Q2d t
 have hd:NumOK (.fn Q3Y [.cp t.cells]) (deepPat t):=⟨_,_,rfl,λs=>by
  rw[Qbn];simp only[go_sem,Nat.reduceLeDiff,Q42 _ t s (Yg _) (by omega)]⟩
 obtain⟨s',e2,g2⟩:=Q8T hq hd (by omega) (λnd hn=>TNode.ok_name (H nd hn)) s
 revert e2
 generalize rightN _ _=b
 intro e2
 obtain⟨k,a,nm⟩:=b
 rw[Qdd];simp only[go_sem,Nat.reduceAdd,Nat.reduceLeDiff,e1,QW (show (Slot.val q).av=some q from rfl),e2,TBad.enc,TBad.cells]
 exact Ret.mk g2
end Go.Proofs.YtgfhplcmcdimiaaGreatDoor
namespace Go.Am
open Go
theorem HeldIs.congr{e:TypeId}{s s':St}{x:Slot}{l:List AV}{h:List Nat}(a:HeldIs e s x l h)(ht:s'.toks=s.toks):HeldIs e s' x l h:=a.stab λk _=>by rw[ht]
theorem QaD{e:TypeId}{t:TI}{s s':St}{x y x':Slot}(h:appendS e t s x y=some (x',s'))(hx:∀ l,x≠.full l):(∀ l,x'≠.full l)/\s'.bl=s.bl:=by
 unfold appendS at h
 split at h
 ·split at h
  ·cases h;exact⟨hx,rfl⟩
  ·cases h
 ·cases ho:okSz t.size _ with
  |false=>rw[ho] at h;cases h
  |true=>
    rw[ho] at h
    simp only[cond_true] at h
    split at h
    ·rename_i k e' l
     cases hq:okSz t.size l with
     |false=>rw[hq] at h;cases h
     |true=>
       rw[hq] at h
       simp only[cond_true] at h
       split at h
       ·cases h;exact⟨λl hl=>(by cases hl),rfl⟩
       ·cases h
    ·exact absurd rfl (hx _)
    ·split at h
     ·cases h;exact⟨λl hl=>(by cases hl),rfl⟩
     ·cases h
    ·cases h
 ·cases h
end Go.Am
namespace Go.Proofs.YtgfhplcmcdimiaaGreatDoor
open Go Go.Am
set_option maxRecDepth 4000
theorem Q4K{f:Nat}{g:List AV->St->Option (Slot × St)}(e:C.ext f=some g){l:List AV}{s s':St}{v:Slot}(h:g l s=some (v,s')):cw (.f f) l s=some (.ret v,s'):=by
 rw[cw,Q3];unfold callR;rw[e];simp only[h]
theorem Q0o(l:List UInt8):(strAV l).length=l.length:=by simp[strAV]
theorem Qgm(a b:List UInt8):strAV (a++b)=strAV a++strAV b:=by simp[strAV]
theorem Q8Q(l:List UInt8):∀ v ∈ strAV l,v.cells.length=1:=λv hv=>by obtain⟨b,_,rfl⟩:=List.mem_map.1 hv;rfl
theorem Qah:∀ l:List UInt8,bytesAV (strAV l)=some l
 |[]=>rfl
 |b::r=>by
   have:=Qah r
   have hb:=b.toNat_lt
   simp only[strAV,Yh,bytesAV] at this |-
   rw[if_pos ⟨by omega,by omega⟩,this]
   simp
structure BldIs (s:St) (loc:Nat) (bs:List UInt8) (h:List Nat):Prop where
 bl:isBld Zz s loc=true
 cells:∃ a x,s.locs[loc]? = some (.var [a,x])/\(a = .val .nilp\/a = .val (.vp loc 0))/\HeldIs Qb s x (strAV bs) h/\∀ l,x≠.full l
theorem Qc2{s:St}{loc:Nat}{bs:List UInt8}{h:List Nat}(H:BldIs s loc bs h):∃ s' x,cw (.f Zy) [.vp loc 0] s=some (.ret (.val (.tup [])),s')/\s'.locs[loc]? = some (.var [.val (.vp loc 0),x])/\HeldIs Qb s' x (strAV bs) h/\(∀ l,x≠.full l)/\Moves [loc] h h s s'/\isBld Zz s' loc=true:=by
 obtain⟨hb,a,x,hl,ha,hx,hk⟩:=H
 have e:C.ext Zy=some (extCopyCheck Zz):=by kernel_rfl
 rcases ha with rfl|rfl
 ·refine⟨{ s with locs:=s.locs.set loc (.var [.val (.vp loc 0),x]) },x,Q4K e ?_,?_,hx.congr rfl,hk,(Moves.refl _ _ s).setLoc (.inl (by simp)) _,hb⟩
  ·simp only[extCopyCheck,hb,cond_true,hl]
  ·exact List.getElem?_set_self (List.getElem?_eq_some_iff.1 hl).1
 ·refine⟨s,x,Q4K e ?_,hl,hx,hk,.refl _ _ s,hb⟩
  simp only[extCopyCheck,hb,cond_true,hl,Nat.beq_refl]
theorem Q7i{s:St}{loc:Nat}{bs:List UInt8}{h:List Nat}(H:BldIs s loc bs h)(t:List UInt8)(hl:bs.length+t.length<2^40) :
  ∃ s' h',cw (.f Zl) [.vp loc 0,.str t] s=some (.ret (.val (.tup [.int .i64 t.length,.nili])),s')/\BldIs s' loc (bs++t) h'/\Moves [loc] h h' s s':=by
 obtain⟨s1,x,e1,l1,x1,k1,m1,b1⟩:=Qc2 H
 have z1:(C.ti Qb).size=1:=by kernel_rfl
 have z2:(C.ti Qb).bytes=1:=by kernel_rfl
 obtain⟨x',s2,h',e2,x2,l2,m2⟩:=x1.append (m:=strAV t) (y:=.val (.sl (strAV t))) (t:=C.ti Qb) rfl (by rw[z1];exact Q8Q bs) (by rw[z1];exact Q8Q t) (by rw[z1];decide) (by rw[z2,Q0o,Q0o];omega) (by rw[Q0o,Q0o];omega)
 rw[<-Qgm] at x2
 obtain⟨f1,f2⟩:=QaD e2 k1
 have l3:s2.locs[loc]? = some (.var [.val (.vp loc 0),x]):=by rw[l2];exact l1
 have e3:appendStr Qb (C.ti Qb) s1 x (.val (.str t))=some (x',s2):=by
  unfold appendStr
  simp only[go_sem]
  rcases x1 with ⟨rfl,_⟩|⟨rfl,_⟩|⟨k,rfl,_⟩
  ·exact e2
  ·exact absurd rfl (k1 _)
  ·exact e2
 have e4:=Q4b (t:=C.ti QQ) (off:=1) l1
 have e5:stV s2 (.val (.vp loc 1)) [x']=some { s2 with locs:=s2.locs.set loc (.var [.val (.vp loc 0),x']) }:=Q8s l3 (by simp)
 have e6:ofSlots (C.ti QQ) (List.take (C.ti QQ).size (List.drop 1 [Slot.val (.vp loc 0),x]))=some x:=by
  rw[Q9c];rfl
 rw[e6] at e4
 refine⟨{ s2 with locs:=s2.locs.set loc (.var [.val (.vp loc 0),x']) },h',?_,⟨?_,?_⟩,?_⟩
 ·rw[Q5R]
  simp only[go_sem,Nat.reduceAdd,e1,e3,e4,e5,x2.cellOk]
 ·have b2:s2.bl=s1.bl:=f2
  unfold isBld at b1 |-
  rw[b2]
  exact b1
 ·exact⟨_,x',List.getElem?_set_self (List.getElem?_eq_some_iff.1 l3).1,.inr rfl,x2.congr rfl,f1⟩
 ·exact (m1.trans (m2.wider (by simp))).setLoc (.inl (by simp)) _
theorem Qdt{s:St}{loc:Nat}{bs:List UInt8}{h:List Nat}(H:BldIs s loc bs h)(b:UInt8)(hl:bs.length+1<2^40) :
  ∃ s' h',cw (.f Q0i) [.vp loc 0,.int .u8 b.toNat] s=some (.ret (.val .nili),s')/\BldIs s' loc (bs++[b]) h'/\Moves [loc] h h' s s':=by
 obtain⟨s1,x,e1,l1,x1,k1,m1,b1⟩:=Qc2 H
 have z1:(C.ti Qb).size=1:=by kernel_rfl
 have z2:(C.ti Qb).bytes=1:=by kernel_rfl
 obtain⟨x',s2,h',e2,x2,l2,m2⟩:=x1.append (m:=[.int .u8 b.toNat]) (y:=.full [.int .u8 b.toNat]) (t:=C.ti Qb) rfl (by rw[z1];exact Q8Q bs) (by rw[z1];exact Q8Q [b]) (by rw[z1];decide) (by rw[z2,Q0o];simp;omega) (by rw[Q0o];simp;omega)
 have x3:HeldIs Qb s2 x' (strAV (bs++[b])) h':=by rw[Qgm];exact x2
 obtain⟨f1,f2⟩:=QaD e2 k1
 have l3:s2.locs[loc]? = some (.var [.val (.vp loc 0),x]):=by rw[l2];exact l1
 have e4:=Q4b (t:=C.ti QQ) (off:=1) l1
 have e5:stV s2 (.val (.vp loc 1)) [x']=some { s2 with locs:=s2.locs.set loc (.var [.val (.vp loc 0),x']) }:=Q8s l3 (by simp)
 have e6:ofSlots (C.ti QQ) (List.take (C.ti QQ).size (List.drop 1 [Slot.val (.vp loc 0),x]))=some x:=by
  rw[Q9c];rfl
 rw[e6] at e4
 refine⟨{ s2 with locs:=s2.locs.set loc (.var [.val (.vp loc 0),x']) },h',?_,⟨?_,?_⟩,?_⟩
 ·rw[Q6v]
  simp only[go_sem,Nat.reduceAdd,e1,e2,e4,e5,x2.cellOk]
 ·have b2:s2.bl=s1.bl:=f2
  unfold isBld at b1 |-
  rw[b2]
  exact b1
 ·exact⟨_,x',List.getElem?_set_self (List.getElem?_eq_some_iff.1 l3).1,.inr rfl,x3.congr rfl,f1⟩
 ·exact (m1.trans (m2.wider (by simp))).setLoc (.inl (by simp)) _
theorem Qhs{s:St}{loc:Nat}{bs:List UInt8}{h:List Nat}(H:BldIs s loc bs h) :
  ∃ s',cw (.f Q15) [.vp loc 0] s=some (.ret (.val (.str bs)),s')/\Moves [] h h s s':=by
 obtain⟨hb,a,x,hl,ha,hx,hk⟩:=H
 have e:C.ext Q15=some (extBString Qb):=by kernel_rfl
 rcases hx with ⟨rfl,h1,rfl⟩|⟨rfl,_⟩|⟨k,rfl,rfl,h3,h4⟩
 ·have:bs=[]:=by simpa [strAV] using h1
  subst this
  refine⟨s,Q4K e ?_,.refl _ _ s⟩
  simp only[extBString,hl]
 ·exact absurd rfl (hk _)
 ·refine⟨{ s with toks:=s.toks.set k (bs.length+1) },Q4K e ?_,⟨by simp,λj hj hn=>?_,λ_ h=>.inl h,Yg _,λ_ _ _=>rfl⟩⟩
  ·have hne:bs.isEmpty=false:=by cases bs with|nil=>exact absurd rfl h4|cons b r=>rfl
   rw[Q0o] at h3
   simp only[extBString,hl,Qah,hne,Nat.beq_refl,Bool.not_true,Bool.or_self,cond_false,Q0o,h3,if_true]
  ·simp only[List.mem_singleton] at hn
   exact List.getElem?_set_ne (Ne.symm hn)
end Go.Proofs.YtgfhplcmcdimiaaGreatDoor
namespace Go.Am
open Go
def glueL:List Str:=[[40],[126],[33]]
def glueR:List Str:=[[41],[44],[59]]
def sepB(p:Option Str)(s:Str):Bool:=match p with
 |none=>false
 |some q=>!hasL glueL q && !hasL glueR s
def textGo:Option Str->List Str->Str
 |_,[]=>[]
 |p,s::r=>(bif sepB p s then 32::s else s)++textGo (some s) r
def textB(l:List Str):Str:=textGo none l
def tokSum(l:List Str):Nat:=(l.map λs=>s.length+1).sum
theorem Q4l(s:Str)(l:List Str):tokSum (s::l)=s.length+1+tokSum l:=by simp[tokSum]
theorem Qej:∀ l:List Str,l.length<=tokSum l
 |[]=>by simp
 |s::l=>by have:=Qej l;rw[Q4l,Ya];omega
def joinT(sign:Str):List (List Str)->Bool->List Str
 |[],_=>[]
 |l::r,fst=>(bif fst then l else sign::l)++joinT sign r false
theorem QR(sign:Str):∀ (L:List (List Str)) (f:Bool),(joinT sign L f).length<=(L.map (·.length)).sum+L.length
 |[],_=>by simp[joinT]
 |l::r,f=>by
   have:=QR sign r false
   cases f<;>simp[joinT]<;>omega
def letT(n:Int):Str:=UInt8.ofNat (97+n % 26).toNat::(bif decide (n>25) then Go.Lib.itoa (n / 26) else [])
def parT(b:Bool)(l:List Str):List Str:=bif b then [40]::(l++[[41]]) else l
mutual
def typT:Ty->Int->List Str
 |.mk k n nm ags _,lv=>
   bif decide (k=1) then [39::letT n]
   else bif decide (nm=[45,62]) then parT (decide (0<lv)) ((typTs ags 1).getD 0 []++[[45,62]]++(typTs ags 0).getD 1 [])
   else bif decide (nm=[42]) then parT (decide (1<lv)) (joinT [42] (typTs ags 2) true)
   else bif decide (ags.length=0) then [nm]
   else bif decide (ags.length=1) then (typTs ags 2).getD 0 []++[nm]
   else [40]::(joinT [44] (typTs ags 0) true++[[41]])++[nm]
def typTs:List Ty->Int->List (List Str)
 |[],_=>[]
 |t::l,lv=>typT t lv::typTs l lv
end
theorem Q6w:∀ (l:List Ty) (lv:Int),typTs l lv=l.map λt=>typT t lv
 |[],_=>rfl
 |t::l,lv=>by simp only[typTs,Yh,Q6w l lv]
theorem Q1U(b:Bool)(l:List Str):(parT b l).length<=l.length+2:=by cases b<;>simp[parT]
theorem Q9N:∀ (L:List (List Str)) (i:Nat),(L.getD i []).length<=(L.map (·.length)).sum
 |[],i=>by simp
 |l::L,0=>by simp
 |l::L,i+1=>by have:=Q9N L i;simp at this |-;omega
mutual
theorem Q1i:∀ (t:Ty) (lv:Int),(typT t lv).length+1<=6*t.size
 |.mk k n nm ags b,lv=>by
   have h0:=Q56 ags 0
   have h1:=Q56 ags 1
   have h2:=Q56 ags 2
   simp only[typT,Ty.size]
   cases decide (k=1) with
   |true=>simp;omega
   |false=>
     cases decide (nm=[45,62]) with
     |true=>
       have g:=QmE ags
       have:=Q1U (decide (0<lv)) ((typTs ags 1).getD 0 []++[[45,62]]++(typTs ags 0).getD 1 [])
       simp only[Yb,Yl,cond_true,cond_false] at this |-
       omega
     |false=>
       cases decide (nm=[42]) with
       |true=>
         have:=Q1U (decide (1<lv)) (joinT [42] (typTs ags 2) true)
         have:=QR [42] (typTs ags 2) true
         simp only[cond_true,cond_false]
         omega
       |false=>
         cases decide (ags.length=0) with
         |true=>simp;omega
         |false=>
           cases decide (ags.length=1) with
           |true=>
             have:=Q9N (typTs ags 2) 0
             simp only[Yb,Yl,cond_true,cond_false]
             omega
           |false=>
             have:=QR [44] (typTs ags 0) true
             simp only[Yb,Ya,Ye,cond_true,cond_false]
             omega
theorem Q56:∀ (l:List Ty) (lv:Int),((typTs l lv).map (·.length)).sum+(typTs l lv).length<=6*Ty.sizes l
 |[],lv=>by simp[typTs,Ty.sizes]
 |t::l,lv=>by
   have h1:=Q1i t lv
   have h2:=Q56 l lv
   simp only[typTs,Yh,Yv,Ya,Ty.sizes]
   omega
theorem QmE:∀ (l:List Ty),((typTs l 1).getD 0 []).length+((typTs l 0).getD 1 []).length<=6*Ty.sizes l
 |[]=>by simp[typTs]
 |[t]=>by have:=Q1i t 1;simp[typTs,Ty.sizes];omega
 |t::u::l=>by have:=Q1i t 1;have:=Q1i u 0;simp[typTs,Ty.sizes];omega
end
def tokB(nm:Str):Bool:=decide ((lxScan nm).2.1=0)&&(decide ((lxScan nm).1.length=1)&&(decide (((lxScan nm).1.headD default).kind=2)&&decide (((lxScan nm).1.headD default).text=nm)))
def tellN(nm:Str)(len:Nat):Bool:=
 bif decide (nm=[105,110,116]) || (decide (nm=[98,111,111,108]) || (decide (nm=[117,110,105,116]) || decide (nm=[101,120,110]))) then decide (len=0)
 else bif decide (nm=[114,101,102]) then decide (len=1)
 else bif decide (nm=[45,62]) then decide (len=2)
 else bif decide (nm=[42]) then decide (2<=len)&&decide (len<=8)
 else tokB nm&&decide (len<=8)
def tellB(t:Ty):Bool:=
 bif decide (t.kind=1) then decide (0<=t.n)&&(decide (t.n<=1000)&&(decide (t.name=[])&&decide (t.args.length=0)))
 else bif !decide (t.kind=2) || !decide (t.n=0) then false else tellN t.name t.args.length
def toldB(t:Ty):Bool:=decide (t.size<=256)&&allTy tellB t
def typeT(t:Ty):Str:=bif toldB t then textB (typT t 0) else []
end Go.Am
namespace Go.Proofs.YtgfhplcmcdimiaaGreatDoor
open Go Go.Am
set_option maxRecDepth 4000
theorem Qno{L pre suf:List Str}{q s:Str}{x:Slot}(hx:x.list? = some (L.map AV.str))(h:(pre++[q])++s::suf=L):ixS 1 x (.val (.int .i64 (pre.length:Int)))=some (.val (.cp [.str q])):=
 Q0X (v:=.str q) hx (by rw[<-h];simp) rfl (by decide)
theorem Q9s(L:List Str)(v:AV)(hv:(Slot.val v).list? = some (L.map AV.str))(hL:L.length<2^40)(loc:Nat)(s0:St)(hloc:s0.locs.length<=loc):∀ (suf pre:List Str) (bs:Str) (h:List Nat) (s:St) (i:Nat),BldIs s loc bs h->Moves [] [] [] s0 s->(∀ k ∈ h,s0.toks.length<=k)->pre++suf=L->i=pre.length->bs.length+tokSum suf<2^40->
  Ret (ZI (.val v) (.val (.vp loc 0)) (.val v) (.val (.int .i64 L.length)) (.val (.int .i64 i)) s) s0 (.str (bs++textGo pre.getLast? suf))
 |[],pre,bs,h,s,i,H,m,hk,hp,hi,hb=>by
   subst hi
   obtain⟨s',e1,m1⟩:=Qhs H
   rw[Q8N];simp only[go_sem,Nat.reduceAdd,Qg (by simpa using hp),e1,textGo,Yr]
   exact⟨s',rfl,(m.since m1 (by simp) (λk h'=>.inr (hk k h'))).toGrew⟩
 |t::suf,pre,bs,h,s,i,H,m,hk,hp,hi,hb=>by
   subst hi
   rw[Q4l] at hb
   obtain⟨f1,f2,f3⟩:=Qe (f:=AV.str) (sz:=1) hv hp (by omega) rfl (by decide)
   have hnew:∀ {h':List Nat} {s':St},Moves [loc] h h' s s'->Moves [] [] [] s0 s'/\∀ k ∈ h',s0.toks.length<=k:=λ{h' s'} c=>
    ⟨m.since c (λi hi=>by simp only[List.mem_singleton] at hi;subst hi;exact .inr hloc) (λk h'=>.inr (hk k h')),λk hk'=>(c.new k hk').elim (hk k) (λh=>Nat.le_trans m.tl h)⟩
   have c1:∀ x s,cw (.f Qz) [.sl [.str [40],.str [126],.str [33]],.str x] s=some (.ret (.val (.bool (hasL glueL x))),s):=λx s=>Q4y x glueL (by decide) s
   have c2:∀ x s,cw (.f Qz) [.sl [.str [41],.str [44],.str [59]],.str x] s=some (.ret (.val (.bool (hasL glueR x))),s):=λx s=>Q4y x glueR (by decide) s
   have fin:∀ {bs':Str} {h':List Nat} {s':St},BldIs s' loc bs' h'->Moves [loc] h h' s s'->bs'.length+tokSum suf<2^40->Ret (ZI (.val v) (.val (.vp loc 0)) (.val v) (.val (.int .i64 L.length)) (.val (.int .i64 ((pre.length+1:Nat):Int))) s') s0 (.str (bs'++textGo (some t) suf)):=λ{bs' h' s'} H' c hb'=>by
    have:=Q9s L v hv hL loc s0 hloc suf (pre++[t]) bs' h' s' (pre.length+1) H' (hnew c).1 (hnew c).2 (by simpa using hp) (by simp) hb'
    simpa using this
   obtain⟨s1,h1,e1,H1,m1⟩:=Q7i H t (by omega)
   obtain⟨s2,h2,e2,H2,m2⟩:=Qdt H 32 (by omega)
   obtain⟨s3,h3,e3,H3,m3⟩:=Q7i H2 t (by simp;omega)
   have r1:=fin H1 m1 (by simp;omega)
   have r3:=fin H3 (m2.trans m3) (by simp;omega)
   rw[show ((32:UInt8).toNat:Int)=32 from rfl] at e2
   rw[Q8N]
   rcases List.eq_nil_or_concat pre with rfl|⟨pre',q,rfl⟩
   ·have z:(((([]:List Str).length:Nat)):Int)=0:=rfl
    rw[z] at f1 f2 f3 |-
    have z1:decide ((0:Int)>0)=false:=rfl
    have r2:Ret (ZI (.val v) (.val (.vp loc 0)) (.val v) (.val (.int .i64 L.length)) (.val (.int .i64 ((([]:List Str).length+1:Nat):Int))) s1) s0 (.str (bs++textGo ([]:List Str).getLast? (t::suf))):=by
     simpa [textGo,sepB] using r1
    simp only[go_sem,Int.reduceAdd,Int.reduceGT,Nat.reduceAdd,Nat.reduceLeDiff,f1,f2,f3,z1,e1,Qp,c1,c2]
    exact r2
   ·have hp1:decide (((pre'.concat q).length:Int)>0)=true:=by simp
    have hp2:IntKind.i64.wrap (((pre'.concat q).length:Int) - 1)=(pre'.length:Int):=by
     rw[<-hp] at hL
     simp only[List.concat_eq_append,Yb,Yl,Ya,Ye] at hL |-
     rw[wrap64 (by omega) (by omega)]
     omega
    have hp3:=Qno (pre:=pre') (q:=q) (s:=t) (suf:=suf) hv (by simpa using hp)
    have hq:(pre'.concat q).getLast? = some q:=by simp
    have g1:hasL glueL q=true\/(hasL glueL q=false/\hasL glueR t=true)->Ret (ZI (.val v) (.val (.vp loc 0)) (.val v) (.val (.int .i64 L.length)) (.val (.int .i64 (((pre'.concat q).length+1:Nat):Int))) s1) s0 (.str (bs++textGo (pre'.concat q).getLast? (t::suf))):=λh=>by
     rw[hq]
     rcases h with h|⟨h,k⟩
     ·simpa [textGo,sepB,h] using r1
     ·simpa [textGo,sepB,h,k] using r1
    have g2:hasL glueL q=false->hasL glueR t=false->Ret (ZI (.val v) (.val (.vp loc 0)) (.val v) (.val (.int .i64 L.length)) (.val (.int .i64 (((pre'.concat q).length+1:Nat):Int))) s3) s0 (.str (bs++textGo (pre'.concat q).getLast? (t::suf))):=λh k=>by
     rw[hq]
     simpa [textGo,sepB,h,k] using r3
    cases hA:hasL glueL q with
    |true=>
      have g:=g1 (.inl hA)
      simp only[go_sem,Nat.reduceAdd,Nat.reduceLeDiff,f1,f2,f3,hp1,hp2,hp3,e1,Qp,c1,c2,hA]
      exact g
    |false=>
      cases hB:hasL glueR t with
      |true=>
        have g:=g1 (.inr ⟨hA,hB⟩)
        simp only[go_sem,Nat.reduceAdd,Nat.reduceLeDiff,f1,f2,f3,hp1,hp2,hp3,e1,Qp,c1,c2,hA,hB]
        exact g
      |false=>
        have g:=g2 hA hB
        simp only[go_sem,Nat.reduceAdd,Nat.reduceLeDiff,f1,f2,f3,hp1,hp2,hp3,e1,e2,e3,Qp,c1,c2,hA,hB]
        exact g
theorem Q3S(L:List Str)(v:AV)(hv:(Slot.val v).list? = some (L.map AV.str))(hL:tokSum L<2^40)(s:St):Ret (cw (.f Q30) [v] s) s (.str (textB L)):=by
 have hlen:=Qej L
 have H:BldIs (St.addLocT s (.var (List.map .val (C.ti Zz).zero)) Zz) s.locs.length [] []:=by
  refine⟨by simp[isBld,St.addLocT],.val .nilp,.val .nils,?_,.inl rfl,.inl ⟨rfl,rfl,rfl⟩,λl h=>by cases h⟩
  simp only[St.addLocT,QeA]
  rw[List.getElem?_append_right (Yg _)]
  simp
 have m:Moves [] [] [] s (St.addLocT s (.var (List.map .val (C.ti Zz).zero)) Zz):=Moves.grew _ _ ⟨⟨_,rfl⟩,⟨[],by simp[St.addLocT]⟩⟩
 have:=Q9s L v hv (by omega) s.locs.length s (Yg _) L [] [] [] _ 0 H m (by simp) rfl rfl (by simpa using hL)
 rw[QiQ]
 simp only[go_sem,hv,Yi]
 exact this
end Go.Proofs.YtgfhplcmcdimiaaGreatDoor