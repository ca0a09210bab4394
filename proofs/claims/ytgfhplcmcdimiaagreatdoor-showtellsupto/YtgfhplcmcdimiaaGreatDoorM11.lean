/- A part of the proof: SRef2, SRef5, SRef8, SRef10c, SShow5, SSch2, SSch3, PTy2, PSch2, PSch3, SRef01, PShow3, PShow4, PWithin, PRight, PRN, PExp, PExp2. -/
import Derived.Test.YtgfhplcmcdimiaaGreatDoorM3
import Derived.Test.YtgfhplcmcdimiaaGreatDoorM6
import Derived.Test.YtgfhplcmcdimiaaGreatDoorM7
import Derived.Test.YtgfhplcmcdimiaaGreatDoorM8
import Derived.Test.YtgfhplcmcdimiaaGreatDoorM9
import Derived.Test.YtgfhplcmcdimiaaGreatDoorM10
import Derived.Lib.IndexMore
import Derived.Lib.ItoaMem
import Derived.Lib.Bytealg
set_option linter.unusedVariables false
set_option linter.unusedSimpArgs false
namespace Go.Proofs.YtgfhplcmcdimiaaGreatDoor
open Go Go.Am
set_option linter.unusedVariables false
set_option maxRecDepth 4000
theorem Q7d(n:Int)(s:St)(h:-9223372036854775808≤n)(h':n≤9223372036854775807):cw (.f Q3Q) [.int .i64 n] s=some (.ret (.val (.bool (isIntB n))),s):=by
 rw[Qdm]
 have h1:-2147483648<n.tmod 2147483648:=Int.lt_tmod_of_pos n (by decide)
 have h2:n.tmod 2147483648<2147483648:=Int.tmod_lt_of_pos n (by decide)
 have h3:n=2147483648*n.tdiv 2147483648+n.tmod 2147483648:=(Int.mul_tdiv_add_tmod n 2147483648).symm
 have h4:0≤n→0≤n.tmod 2147483648:=λh=>Int.tmod_nonneg _ h
 have h5:n≤0→n.tmod 2147483648≤0:=λh=>by have:=Int.tmod_nonneg (2147483648) (show 0≤-n by omega);rw[Int.neg_tmod] at this;omega
 simp only[go_sem,Qc7]
 generalize n.tmod 2147483648=m at *
 generalize n.tdiv 2147483648=d at *
 refine congrArg (λb=>some (Out.ret (Slot.val (AV.bool b)),s)) ?_
 rw[Bool.eq_iff_iff]
 simp only[isIntB,Bool.and_eq_true,decide_eq_true_eq,Bool.cond_decide]
 split <;> split <;> omega
theorem Qdk(e:Exp)(s:St)(hn:e.name.length<2^62)(hl:e.kids.length<2^40)(h:-9223372036854775808≤e.n)(h':e.n≤9223372036854775807):cw (.f Q7O) [e.enc] s=some (.ret (.val (.int .i64 (wrongExpB e))),s):=by
 obtain⟨k,a,nm,n,l,lb,c,cb,d,db⟩:=e
 rw[Qgq]
 have hl':l.length<2^40:=hl
 have hi:=λs=>Q7d n s h h'
 have hk:k=1∨k=2∨k=3∨k=4∨k=5∨k=6∨k=7∨k=8∨k=9∨k=10∨k=11∨k=12∨k=13∨k=14∨k=15∨k=16∨k=17∨k=18∨k=19∨k=20∨(k<1∨k>20):=by omega
 rcases hk with rfl | rfl | rfl | rfl | rfl | rfl | rfl | rfl | rfl | rfl | rfl | rfl | rfl | rfl | rfl | rfl | rfl | rfl | rfl | rfl | hk
 rotate_left 20
 ·have h:(decide (k<1) || decide (k>20))=true:=by simpa using hk
  have e:wrongExpB (Exp.mk k a nm n l lb c cb d db)=29:=by
   show (bif (decide (k<1) || decide (k>20) || _ || _ || _ || _ || _) then (29:Int) else _)=29
   rw[h];rfl
  simp only[go_sem,Nat.reduceAdd,Nat.reduceLeDiff,h,e]
 all_goals
  simp only[go_sem,Int.reduceEq,Int.reduceGT,Int.reduceLT,Nat.reduceAdd,Nat.reduceLeDiff,QeS,Qbr,Qbs,Q1O nm _ hn,Q8d nm _ hn,hi,Q3V,wrongExpB,expLM,Exp.kind,Exp.name,Exp.n,Exp.kids,Exp.cases,Exp.decs,Q9N,Qjg,isR]
  try rfl
 all_goals grind
theorem Qdn(t:Pat)(s:St)(hn:t.name.length<2^62)(h:-9223372036854775808≤t.n)(h':t.n≤9223372036854775807):cw (.f Q7P) [t.enc] s=some (.ret (.val (.int .i64 (wrongPatB t))),s):=by
 obtain⟨k,a,nm,n,l,nl⟩:=t
 rw[Qgs]
 have hi:=λs=>Q7d n s h h'
 have hk:k=1∨k=2∨k=3∨k=4∨k=5∨k=6∨(k<1∨k>6):=by omega
 rcases hk with rfl | rfl | rfl | rfl | rfl | rfl | hk
 rotate_left 6
 ·have h:(decide (k<1) || decide (k>6))=true:=by simpa using hk
  have e:wrongPatB (Pat.mk k a nm n l nl)=29:=by
   show (bif (decide (k<1) || decide (k>6)) then (29:Int) else _)=29
   rw[h];rfl
  simp only[go_sem,Nat.reduceAdd,Nat.reduceLeDiff,h,e]
 all_goals
  simp only[go_sem,Int.reduceEq,Int.reduceGT,Int.reduceLT,Nat.reduceAdd,Nat.reduceLeDiff,Q1O nm _ hn,Q8d nm _ hn,hi,Q3V,wrongPatB,patLM,Pat.kind,Pat.name,Pat.n,Pat.kids,Q9N,Qjg,isR]
  try rfl
 all_goals grind
def argsR(nm:Str):Int × Int:=
 bif decide (nm=[105,110,116]) || decide (nm=[98,111,111,108]) || decide (nm=[117,110,105,116]) || decide (nm=[101,120,110]) then (0,0) else bif decide (nm=[114,101,102]) then (1,1) else bif decide (nm=[45,62]) then (2,2) else bif decide (nm=[42]) then (2,8) else (0,8)
theorem Qc8(nm:Str)(s:St):cw (.f Q4o) [.str nm] s=some (.ret (.val (.tup [.int .i64 (argsR nm).1,.int .i64 (argsR nm).2])),s):=by
 rw[QeP]
 simp only[go_sem,Qbh]
 delta argsR
 generalize decide (nm=[105,110,116])=x1
 generalize decide (nm=[98,111,111,108])=x2
 generalize decide (nm=[117,110,105,116])=x3
 generalize decide (nm=[101,120,110])=x4
 generalize decide (nm=[114,101,102])=x5
 generalize decide (nm=[45,62])=x6
 generalize decide (nm=[42])=x7
 cases x1 <;> cases x2 <;> cases x3 <;> cases x4 <;> cases x5 <;> cases x6 <;> cases x7 <;> rfl
theorem Qaq(t:Ty)(s:St):cw (.f Q5g) [t.enc] s=some (.ret (.val (.bool (decide (t.kind=0)&&decide (t.n=0)&&decide (t.name=[])&&decide ((t.args.length:Int)=0)))),s):=by
 rw[Qcg]
 simp only[go_sem,Nat.reduceAdd,Nat.reduceLeDiff,Ty.cells_eq]
theorem QeU(t:Ty)(s:St)(hn:t.name.length<2^62):cw (.f Q8s) [t.enc] s=some (.ret (.val (.int .i64 (wrongTyB t))),s):=by
 obtain⟨k,n,nm,l,nl⟩:=t
 rw[Qhj]
 simp only[go_sem,Nat.reduceAdd,Nat.reduceLeDiff,Qc8,Q1O nm _ hn,Q3V,Q9N]
 show _=some (Out.ret (.val (.int .i64 (wrongTyC k n nm l.length))),s)
 by_cases h1:nm=[105,110,116]
 ·subst h1;simp (decide:=true) only[wrongTyC,tyLM,argsR,isR,Qmr];grind
 by_cases h2:nm=[98,111,111,108]
 ·subst h2;simp (decide:=true) only[wrongTyC,tyLM,argsR,isR,QkP];grind
 by_cases h3:nm=[117,110,105,116]
 ·subst h3;simp (decide:=true) only[wrongTyC,tyLM,argsR,isR,QkQ];grind
 by_cases h4:nm=[101,120,110]
 ·subst h4;simp (decide:=true) only[wrongTyC,tyLM,argsR,isR,Qmq];grind
 simp only[wrongTyC,tyLM,argsR,isR,h1,h2,h3,h4]
 grind
theorem Qdi(d:Dec)(inn:Bool)(s:St)(hn:d.name.length<2^62):cw (.f Q7N) [d.enc,.bool inn] s=some (.ret (.val (.int .i64 (wrongDecB d inn))),s):=by
 obtain⟨k,a,nm,p,l,nb,c,cb,f,fb⟩:=d
 rw[Qgp]
 simp only[go_sem,Nat.reduceAdd,Nat.reduceLeDiff,Q1O nm _ hn,Q3V,Q9N,isR]
 show _=some (Out.ret (.val (.int .i64 (wrongDecC k nm p l.length c.length f.length inn))),s)
 have hk:k=1∨k=2∨k=3∨k=4∨(k≠1∧k≠2∧k≠3∧k≠4):=by omega
 simp only[wrongDecC]
 rcases hk with rfl | rfl | rfl | rfl | ⟨h1,h2,h3,h4⟩
 all_goals grind
end Go.Proofs.YtgfhplcmcdimiaaGreatDoor
namespace Go.Proofs.YtgfhplcmcdimiaaGreatDoor
open Go Go.Am
set_option linter.unusedVariables false
set_option maxRecDepth 4000
abbrev Nodes(r:Res)(s:St)(l:List TNode):Prop:=RetA r Qc s (l.map TNode.enc)
abbrev NAcc(s0 s:St)(x:Slot)(l:List TNode):Prop:=AccR Qc s0 s x (l.map TNode.enc)
theorem nacc{s0 s:St}{x y:Slot}{A B:List TNode}(h:NAcc s0 s x A)(hy:y.list? = some (B.map TNode.enc))(b:A.length+B.length<2^30):∃ x' s',appendS Qc (C.ti Qc) s x y=some (x',s')∧NAcc s0 s' x' (A++B):=
 AccR.appendF h hy (λa=>by rw[Q6g];exact TNode.cells_len a) (by rw[Q6g];decide) b (by rw[Q9p];decide)
theorem Q7A(a:Int)(t:Ty)(hl:t.args.length<2^40)(s0:St):∀ (suf pre:List Ty) (A:List TNode) (x:Slot) (s:St) (i:Nat),NAcc s0 s x A→pre++suf=t.args→i=pre.length→(∀ t ∈ suf,∀ s,Nodes (cw (.f Q1w) [t.enc,.int .i64 a] s) s (nodesTy a t))→A.length+Ty.sizes suf<2^30→
  Nodes (Q2p (.val (.int .i64 a)) (t.cells.map .val) x (.val (.int .i64 i)) s) s0 (A++nodesTys a suf)
 |[],pre,A,x,s,i,hx,h,hi,H,hb=>by
   subst hi
   rw[Q7b];simp only[go_sem,Nat.reduceAdd,Nat.reduceLeDiff,Ty.cells_eq,Qa (by simpa using h),nodesTys]
   exact RetA.mk hx
 |u::suf,pre,A,x,s,i,hx,h,hi,H,hb=>by
   subst hi
   obtain⟨f1,f2,f3⟩:=Q9 (x:=.val (encS t.nl (t.args.map Ty.enc))) (Q4 _ _) h (by omega) (Ty.cells_len u) (by decide)
   obtain⟨y,s1,e1,g1⟩:=H u (List.mem_cons_self) s
   have hlen:=Q5E a u
   simp only[Ty.sizes] at hb
   obtain⟨x',s2,e2,g2⟩:=nacc (hx.move g1.grew) g1.list? (by omega)
   have:=Q7A a t hl s0 suf (pre++[u]) (A++nodesTy a u) x' s2 (pre.length+1) g2 (by simpa using h) (by simp) (λw hw=>H w (List.mem_cons_of_mem _ hw)) (by rw[List.length_append];omega)
   rw[Q7b];rw[Ty.cells_eq] at this ⊢;simp only[go_sem,Nat.reduceAdd,Nat.reduceLeDiff,f1,f2,f3,e1,e2] at this ⊢
   simp only[nodesTys]
   exact this
theorem Q7B:∀ (m:Nat) (a:Int) (t:Ty) (s:St),t.size≤m→t.size<2^28→Nodes (cw (.f Q1w) [t.enc,.int .i64 a] s) s (nodesTy a t)
 |0,a,.mk _ _ _ _ _,_,h,_=>by simp only[Ty.size] at h;omega
 |m+1,a,.mk k n nm l nl,s,h,h'=>by
   simp only[Ty.size] at h h'
   have hl:=Ty.len_sizes l
   have:=Q7A a (.mk k n nm l nl) (by simp only[Ty.args];omega) s l [] [.ty (.mk k n nm l nl) a] (.full [(TNode.ty (.mk k n nm l nl) a).enc]) s 0 (AccR.full _ _ _) rfl rfl (λu hu s=>by have:=Ty.mem_sizes hu;exact Q7B m a u s (by omega) (by omega)) (by simp only[List.length_singleton];omega)
   rw[QeQ];simp only[go_sem,Nat.reduceAdd,Nat.reduceLeDiff,Ty.enc,TNode.cells,Dec.zero,Exp.zero,Pat.zero,Fun.zero,Case.zero,Con.zero,Ty.zero,Con.cells,TNode.enc,nodesTy] at this ⊢
   exact this
theorem Q79(t:Pat)(hl:t.kids.length<2^40)(s0:St):∀ (suf pre:List Pat) (A:List TNode) (x:Slot) (s:St) (i:Nat),NAcc s0 s x A→pre++suf=t.kids→i=pre.length→(∀ t ∈ suf,∀ s,Nodes (cw (.f Q0X) [t.enc] s) s (nodesPat t))→A.length+Pat.sizes suf<2^30→
  Nodes (Q1U (t.cells.map .val) x (.val (.int .i64 i)) s) s0 (A++nodesPats suf)
 |[],pre,A,x,s,i,hx,h,hi,H,hb=>by
   subst hi
   rw[Q6m];simp only[go_sem,Nat.reduceAdd,Nat.reduceLeDiff,Pat.cells_eq,Qa (by simpa using h),nodesPats]
   exact RetA.mk hx
 |u::suf,pre,A,x,s,i,hx,h,hi,H,hb=>by
   subst hi
   obtain⟨f1,f2,f3⟩:=Q9 (x:=.val (encS t.kb (t.kids.map Pat.enc))) (Q4 _ _) h (by omega) (Pat.cells_len u) (by decide)
   obtain⟨y,s1,e1,g1⟩:=H u (List.mem_cons_self) s
   have hlen:=Q2W u
   simp only[Pat.sizes] at hb
   obtain⟨x',s2,e2,g2⟩:=nacc (hx.move g1.grew) g1.list? (by omega)
   have:=Q79 t hl s0 suf (pre++[u]) (A++nodesPat u) x' s2 (pre.length+1) g2 (by simpa using h) (by simp) (λw hw=>H w (List.mem_cons_of_mem _ hw)) (by rw[List.length_append];omega)
   rw[Q6m];rw[Pat.cells_eq] at this ⊢;simp only[go_sem,Nat.reduceAdd,Nat.reduceLeDiff,f1,f2,f3,e1,e2] at this ⊢
   simp only[nodesPats]
   exact this
theorem Q7a:∀ (m:Nat) (t:Pat) (s:St),t.size≤m→t.size<2^28→Nodes (cw (.f Q0X) [t.enc] s) s (nodesPat t)
 |0,.mk _ _ _ _ _ _,_,h,_=>by simp only[Pat.size] at h;omega
 |m+1,.mk k a nm n l nl,s,h,h'=>by
   simp only[Pat.size] at h h'
   have hl:=Pat.len_sizes l
   have:=Q79 (.mk k a nm n l nl) (by simp only[Pat.kids];omega) s l [] [.pat (.mk k a nm n l nl)] (.full [(TNode.pat (.mk k a nm n l nl)).enc]) s 0 (AccR.full _ _ _) rfl rfl (λu hu s=>by have:=Pat.mem_sizes hu;exact Q7a m u s (by omega) (by omega)) (by simp only[List.length_singleton];omega)
   rw[Qdd];simp only[go_sem,Nat.reduceAdd,Nat.reduceLeDiff,Pat.enc,TNode.cells,Dec.zero,Exp.zero,Pat.zero,Fun.zero,Case.zero,Con.zero,Ty.zero,Con.cells,TNode.enc,nodesPat,Pat.at_] at this ⊢
   exact this
def ofExpOK(t:Exp):Prop:=∀ s,Nodes (cw (.f Q0n) [t.enc] s) s (nodesExp t)
def ofCaseOK(t:Case):Prop:=∀ s,Nodes (cw (.f Q1v) [t.enc] s) s (nodesCase t)
def ofDecOK(t:Dec):Prop:=∀ inn s,Nodes (cw (.f Q0m) [t.enc,.bool inn] s) s (nodesDec inn t)
theorem Qcb(p:Pat)(e:Exp)(h:ofExpOK e)(hs:(Case.mk p e).size<2^28):ofCaseOK (.mk p e):=λs=>by
 simp only[Case.size] at hs
 obtain⟨y,s1,e1,g1⟩:=Q7a _ p s (Nat.le_refl _) (by omega)
 obtain⟨z,s2,e2,g2⟩:=h s1
 have h1:=Q2W p
 have h2:=Q2V e
 obtain⟨x',s3,e3,g3⟩:=nacc (g1.move g2.grew) g2.list? (by omega)
 rw[Qca];simp only[go_sem,Nat.reduceAdd,Nat.reduceLeDiff,Nat.reduceSub,e1,e2,e3]
 simp only[nodesCase]
 exact RetA.mk g3
theorem Q53(t:Exp)(hl:t.cases.length<2^40)(s0:St):∀ (suf pre:List Case) (A:List TNode) (x:Slot) (s:St) (i:Nat),NAcc s0 s x A→pre++suf=t.cases→i=pre.length→(∀ t ∈ suf,ofCaseOK t)→A.length+Case.sizes suf<2^30→
  Nodes (Q1T (t.cells.map .val) x (.val (.int .i64 i)) s) s0 (A++nodesCases suf)
 |[],pre,A,x,s,i,hx,h,hi,H,hb=>by
   subst hi
   rw[Q6l];simp only[go_sem,Exp.cells_eq,Qa (by simpa using h),nodesCases]
   exact RetA.mk hx
 |u::suf,pre,A,x,s,i,hx,h,hi,H,hb=>by
   subst hi
   obtain⟨f1,f2,f3⟩:=Q9 (x:=.val (encS t.cb (t.cases.map Case.enc))) (Q4 _ _) h (by omega) (Case.cells_len u) (by decide)
   obtain⟨y,s1,e1,g1⟩:=H u (List.mem_cons_self) s
   have hlen:=Q2l u
   simp only[Case.sizes] at hb
   obtain⟨x',s2,e2,g2⟩:=nacc (hx.move g1.grew) g1.list? (by omega)
   have:=Q53 t hl s0 suf (pre++[u]) (A++nodesCase u) x' s2 (pre.length+1) g2 (by simpa using h) (by simp) (λw hw=>H w (List.mem_cons_of_mem _ hw)) (by rw[List.length_append];omega)
   rw[Q6l];rw[Exp.cells_eq] at this ⊢;simp only[go_sem,Nat.reduceLeDiff,f1,f2,f3,e1,e2] at this ⊢
   simp only[nodesCases]
   exact this
theorem Q52(t:Exp)(hl:t.kids.length<2^40)(hl2:t.cases.length<2^40)(Hc:∀ c ∈ t.cases,ofCaseOK c)(s0:St):∀ (suf pre:List Exp) (A:List TNode) (x:Slot) (s:St) (i:Nat),NAcc s0 s x A→pre++suf=t.kids→i=pre.length→(∀ t ∈ suf,ofExpOK t)→A.length+Exp.sizes suf+Case.sizes t.cases<2^30→
  Nodes (Q1S (t.cells.map .val) x (.val (.int .i64 i)) s) s0 (A++(nodesExps suf++nodesCases t.cases))
 |[],pre,A,x,s,i,hx,h,hi,H,hb=>by
   subst hi
   have:=Q53 t hl2 s0 t.cases [] A x s 0 hx rfl rfl Hc (by omega)
   rw[Q6k];rw[Exp.cells_eq] at this ⊢;simp only[go_sem,Qa (by simpa using h),nodesExps] at this ⊢
   exact this
 |u::suf,pre,A,x,s,i,hx,h,hi,H,hb=>by
   subst hi
   obtain⟨f1,f2,f3⟩:=Q9 (x:=.val (encS t.kb (t.kids.map Exp.enc))) (Q4 _ _) h (by omega) (Exp.cells_len u) (by decide)
   obtain⟨y,s1,e1,g1⟩:=H u (List.mem_cons_self) s
   have hlen:=Q2V u
   simp only[Exp.sizes] at hb
   obtain⟨x',s2,e2,g2⟩:=nacc (hx.move g1.grew) g1.list? (by omega)
   have:=Q52 t hl hl2 Hc s0 suf (pre++[u]) (A++nodesExp u) x' s2 (pre.length+1) g2 (by simpa using h) (by simp) (λw hw=>H w (List.mem_cons_of_mem _ hw)) (by rw[List.length_append];omega)
   rw[Q6k];rw[Exp.cells_eq] at this ⊢;simp only[go_sem,Nat.reduceLeDiff,f1,f2,f3,e1,e2] at this ⊢
   simp only[go_sem,nodesExps]
   exact this
theorem Q51(t:Exp)(hl0:t.decs.length<2^40)(hl:t.kids.length<2^40)(hl2:t.cases.length<2^40)(He:∀ c ∈ t.kids,ofExpOK c)(Hc:∀ c ∈ t.cases,ofCaseOK c)(s0:St):∀ (suf pre:List Dec) (A:List TNode) (x:Slot) (s:St) (i:Nat),NAcc s0 s x A→pre++suf=t.decs→i=pre.length→(∀ t ∈ suf,ofDecOK t)→A.length+Dec.sizes suf+Exp.sizes t.kids+Case.sizes t.cases<2^30→
  Nodes (Q1R (t.cells.map .val) x (.val (.int .i64 i)) s) s0 (A++(nodesDecs true suf++(nodesExps t.kids++nodesCases t.cases)))
 |[],pre,A,x,s,i,hx,h,hi,H,hb=>by
   subst hi
   have:=Q52 t hl hl2 Hc s0 t.kids [] A x s 0 hx rfl rfl He (by omega)
   rw[Q6j];rw[Exp.cells_eq] at this ⊢;simp only[go_sem,Nat.reduceAdd,Nat.reduceLeDiff,Qa (by simpa using h),nodesDecs] at this ⊢
   exact this
 |u::suf,pre,A,x,s,i,hx,h,hi,H,hb=>by
   subst hi
   obtain⟨f1,f2,f3⟩:=Q9 (x:=.val (encS t.db (t.decs.map Dec.enc))) (Q4 _ _) h (by omega) (Dec.cells_len u) (by decide)
   obtain⟨y,s1,e1,g1⟩:=H u (List.mem_cons_self) true s
   have hlen:=Q73 true u
   simp only[Dec.sizes] at hb
   obtain⟨x',s2,e2,g2⟩:=nacc (hx.move g1.grew) g1.list? (by omega)
   have:=Q51 t hl0 hl hl2 He Hc s0 suf (pre++[u]) (A++nodesDec true u) x' s2 (pre.length+1) g2 (by simpa using h) (by simp) (λw hw=>H w (List.mem_cons_of_mem _ hw)) (by rw[List.length_append];omega)
   rw[Q6j];rw[Exp.cells_eq] at this ⊢;simp only[go_sem,Nat.reduceAdd,Nat.reduceLeDiff,f1,f2,f3,e1,e2] at this ⊢
   simp only[go_sem,nodesDecs]
   exact this
theorem Q2D(t:Dec)(hl:t.cons.length<2^40)(s0:St):∀ (suf pre:List Con) (A:List TNode) (x:Slot) (s:St) (i:Nat),NAcc s0 s x A→pre++suf=t.cons→i=pre.length→A.length+Con.sizes suf<2^28→
  Nodes (Q0F (t.cells.map .val) x (.val (.int .i64 i)) s) s0 (A++nodesCons suf)
 |[],pre,A,x,s,i,hx,h,hi,hb=>by
   subst hi
   rw[Q3s];simp only[go_sem,Nat.reduceAdd,Nat.reduceLeDiff,Dec.cells_eq,Qa (by simpa using h),nodesCons]
   exact RetA.mk hx
 |.mk nm a hs arg::suf,pre,A,x,s,i,hx,h,hi,hb=>by
   subst hi
   obtain⟨f1,f2,f3⟩:=Q9 (x:=.val (encS t.nb (t.cons.map Con.enc))) (Q4 _ _) h (by omega) (Con.cells_len ⟨nm,a,hs,arg⟩) (by decide)
   have hlen:=Q5E a arg
   simp only[Con.sizes,Con.size] at hb
   obtain⟨x',s2,e2,g2⟩:=nacc (B:=[.con ⟨nm,a,hs,arg⟩]) (y:=.full [(TNode.con ⟨nm,a,hs,arg⟩).enc]) hx rfl (by simp only[List.length_singleton];omega)
   cases hs with
   |false=>
     have:=Q2D t hl s0 suf (pre++[⟨nm,a,false,arg⟩]) (A++[.con ⟨nm,a,false,arg⟩]) x' s2 (pre.length+1) g2 (by simpa using h) (by simp) (by simp only[List.length_append,List.length_singleton];omega)
     rw[Q3s];rw[Dec.cells_eq] at this ⊢;simp only[go_sem,Nat.reduceAdd,Nat.reduceLeDiff,f1,f2,f3,TNode.cells,Dec.zero,Exp.zero,Pat.zero,Fun.zero,Case.zero,Con.zero,Ty.zero,Con.cells,TNode.enc] at e2 this ⊢
     simp only[go_sem,e2,nodesCons,nodesCon]
     exact this
   |true=>
     obtain⟨y,s1,e1,g1⟩:=Q7B _ a arg s2 (Nat.le_refl _) (by omega)
     obtain⟨x3,s3,e3,g3⟩:=nacc (g2.move g1.grew) g1.list? (by simp only[List.length_append,List.length_singleton];omega)
     have:=Q2D t hl s0 suf (pre++[⟨nm,a,true,arg⟩]) (A++[.con ⟨nm,a,true,arg⟩]++nodesTy a arg) x3 s3 (pre.length+1) g3 (by simpa using h) (by simp) (by simp only[List.length_append,List.length_singleton];omega)
     rw[Q3s];rw[Dec.cells_eq] at this ⊢;simp only[go_sem,Nat.reduceAdd,Nat.reduceLeDiff,f1,f2,f3,TNode.cells,Dec.zero,Exp.zero,Pat.zero,Fun.zero,Case.zero,Con.zero,Ty.zero,Con.cells,TNode.enc] at e2 this ⊢
     simp only[go_sem,e2,e1,e3,nodesCons,nodesCon]
     exact this
theorem Q50(t:Dec)(hl:t.funs.length<2^40)(hl2:t.cons.length<2^40)(s0:St):∀ (suf pre:List Fun) (A:List TNode) (x:Slot) (s:St) (i:Nat),NAcc s0 s x A→pre++suf=t.funs→i=pre.length→(∀ f ∈ suf,ofCaseOK f.case)→A.length+Fun.sizes suf+Con.sizes t.cons<2^28→
  Nodes (Q1Q (t.cells.map .val) x (.val (.int .i64 i)) s) s0 (A++(nodesFuns suf++nodesCons t.cons))
 |[],pre,A,x,s,i,hx,h,hi,H,hb=>by
   subst hi
   have:=Q2D t hl2 s0 t.cons [] A x s 0 hx rfl rfl (by omega)
   rw[Q6i];rw[Dec.cells_eq] at this ⊢;simp only[go_sem,Nat.reduceAdd,Nat.reduceLeDiff,Qa (by simpa using h),nodesFuns] at this ⊢
   exact this
 |.mk nm a c::suf,pre,A,x,s,i,hx,h,hi,H,hb=>by
   subst hi
   obtain⟨f1,f2,f3⟩:=Q9 (x:=.val (encS t.fb (t.funs.map Fun.enc))) (Q4 _ _) h (by omega) (Fun.cells_len (.mk nm a c)) (by decide)
   have hlen:=Q2l c
   simp only[Fun.sizes,Fun.size] at hb
   obtain⟨x',s2,e2,g2⟩:=nacc (B:=[.fn (.mk nm a c)]) (y:=.full [(TNode.fn (.mk nm a c)).enc]) hx rfl (by simp only[List.length_singleton];omega)
   obtain⟨y,s1,e1,g1⟩:=H (.mk nm a c) (List.mem_cons_self) s2
   simp only[Fun.case] at e1 g1
   obtain⟨x3,s3,e3,g3⟩:=nacc (g2.move g1.grew) g1.list? (by simp only[List.length_append,List.length_singleton];omega)
   have:=Q50 t hl hl2 s0 suf (pre++[.mk nm a c]) (A++[.fn (.mk nm a c)]++nodesCase c) x3 s3 (pre.length+1) g3 (by simpa using h) (by simp) (λw hw=>H w (List.mem_cons_of_mem _ hw)) (by simp only[List.length_append,List.length_singleton];omega)
   rw[Q6i];rw[Dec.cells_eq] at this ⊢;simp only[go_sem,Nat.reduceAdd,Nat.reduceLeDiff,f1,f2,f3,TNode.cells,Dec.zero,Exp.zero,Pat.zero,Fun.zero,Case.zero,Con.zero,Ty.zero,Con.cells,TNode.enc,Fun.at_] at e2 this ⊢
   simp only[go_sem,e2,e1,e3,nodesFuns,nodesFun]
   exact this
theorem Q4Z(t:Dec)(hl0:t.case.length<2^40)(hl:t.funs.length<2^40)(hl2:t.cons.length<2^40)(Hf:∀ f ∈ t.funs,ofCaseOK f.case)(s0:St):∀ (suf pre:List Case) (A:List TNode) (x:Slot) (s:St) (i:Nat),NAcc s0 s x A→pre++suf=t.case→i=pre.length→(∀ f ∈ suf,ofCaseOK f)→A.length+Case.sizes suf+Fun.sizes t.funs+Con.sizes t.cons<2^28→
  Nodes (Q1P (t.cells.map .val) x (.val (.int .i64 i)) s) s0 (A++(nodesCases suf++(nodesFuns t.funs++nodesCons t.cons)))
 |[],pre,A,x,s,i,hx,h,hi,H,hb=>by
   subst hi
   have:=Q50 t hl hl2 s0 t.funs [] A x s 0 hx rfl rfl Hf (by omega)
   rw[Q6h];rw[Dec.cells_eq] at this ⊢;simp only[go_sem,Qa (by simpa using h),nodesCases] at this ⊢
   exact this
 |u::suf,pre,A,x,s,i,hx,h,hi,H,hb=>by
   subst hi
   obtain⟨f1,f2,f3⟩:=Q9 (x:=.val (encS t.cb (t.case.map Case.enc))) (Q4 _ _) h (by omega) (Case.cells_len u) (by decide)
   obtain⟨y,s1,e1,g1⟩:=H u (List.mem_cons_self) s
   have hlen:=Q2l u
   simp only[Case.sizes] at hb
   obtain⟨x',s2,e2,g2⟩:=nacc (hx.move g1.grew) g1.list? (by omega)
   have:=Q4Z t hl0 hl hl2 Hf s0 suf (pre++[u]) (A++nodesCase u) x' s2 (pre.length+1) g2 (by simpa using h) (by simp) (λw hw=>H w (List.mem_cons_of_mem _ hw)) (by rw[List.length_append];omega)
   rw[Q6h];rw[Dec.cells_eq] at this ⊢;simp only[go_sem,Nat.reduceLeDiff,f1,f2,f3,e1,e2] at this ⊢
   simp only[go_sem,nodesCases]
   exact this
theorem Qgr:∀ m:Nat,(∀ e:Exp,e.size≤m→e.size<2^26→ofExpOK e)∧(∀ l:Dec,l.size≤m→l.size<2^26→ofDecOK l):=by
 intro m
 induction m with
 |zero=>
   refine⟨λe h _=>?_,λl h _=>?_⟩
   ·obtain⟨k,a,nm,n,l,lb,c,cb,d,db⟩:=e
    simp only[Exp.size] at h;omega
   ·obtain⟨k,a,nm,p,l,nb,c,cb,f,fb⟩:=l;simp only[Dec.size] at h;omega
 |succ m ih=>
   obtain⟨ihE,ihD⟩:=ih
   have hcase1:∀ t:Case,t.size≤m+1→t.size<2^26→ofCaseOK t:=λt h h'=>by
    obtain⟨p,e⟩:=t
    exact Qcb p e (ihE e (by simp only[Case.size] at h;omega) (by simp only[Case.size] at h';omega)) (by omega)
   have hcase:∀ (c:List Case),Case.sizes c≤m+1→Case.sizes c<2^26→∀ t ∈ c,ofCaseOK t:=λc h h' t ht=>by
    have:=Case.mem_sizes ht
    exact hcase1 t (by omega) (by omega)
   refine⟨λe h h' s=>?_,λd h h' inn s=>?_⟩
   ·obtain⟨k,a,nm,n,l,lb,c,cb,d,db⟩:=e
    simp only[Exp.size] at h h'
    have hl:=Exp.len_sizes l
    have hl2:=Case.len_sizes c
    have hl3:=Dec.len_sizes d
    have:=Q51 (.mk k a nm n l lb c cb d db) (by simp only[Exp.decs];omega) (by simp only[Exp.kids];omega) (by simp only[Exp.cases];omega) (λt ht=>by have:=Exp.mem_sizes ht;simp only[Exp.kids] at this;exact ihE t (by omega) (by omega)) (hcase c (by omega) (by omega)) s d [] [.exp (.mk k a nm n l lb c cb d db)] (.full [(TNode.exp (.mk k a nm n l lb c cb d db)).enc]) s 0 (AccR.full _ _ _) rfl rfl (λt ht=>ihD t (by have:=Dec.mem_sizes ht;omega) (by have:=Dec.mem_sizes ht;omega)) (by simp only[List.length_singleton,Exp.kids,Exp.cases];omega)
    rw[Qdc];simp only[go_sem,Nat.reduceAdd,Nat.reduceLeDiff,Exp.enc,TNode.cells,Dec.zero,Exp.zero,Pat.zero,Fun.zero,Case.zero,Con.zero,Ty.zero,Con.cells,TNode.enc,nodesExp,Exp.at_,Exp.kids,Exp.cases] at this ⊢
    exact this
   ·obtain⟨k,a,nm,p,l,nb,c,cb,f,fb⟩:=d
    simp only[Dec.size] at h h'
    have hl:=Con.len_sizes l
    have hl2:=Case.len_sizes c
    have hl3:=Fun.len_sizes f
    have:=Q4Z (.mk k a nm p l nb c cb f fb) (by simp only[Dec.case];omega) (by simp only[Dec.funs];omega) (by simp only[Dec.cons];omega) (λt ht=>by
     have h2:=Fun.mem_sizes ht
     obtain⟨nm,a,c'⟩:=t
     simp only[Dec.funs,Fun.size] at h2
     exact hcase1 c' (by omega) (by omega)) s c [] [.dec inn (.mk k a nm p l nb c cb f fb)] (.full [(TNode.dec inn (.mk k a nm p l nb c cb f fb)).enc]) s 0 (AccR.full _ _ _) rfl rfl (hcase c (by omega) (by omega)) (by simp only[List.length_singleton,Dec.funs,Dec.cons];omega)
    rw[Qdb];simp only[go_sem,Nat.reduceAdd,Nat.reduceLeDiff,Dec.enc,TNode.cells,Dec.zero,Exp.zero,Pat.zero,Fun.zero,Case.zero,Con.zero,Ty.zero,Con.cells,TNode.enc,nodesDec,Dec.at_,Dec.funs,Dec.cons] at this ⊢
    exact this
theorem Q9e(L:List Dec)(z:Slot)(hz:z.list? = some (L.map Dec.enc))(hl:L.length<2^40)(s0:St):∀ (suf pre:List Dec) (A:List TNode) (x:Slot) (s:St) (i:Nat),NAcc s0 s x A→pre++suf=L→i=pre.length→A.length+Dec.sizes suf<2^26→
  Nodes (Q3z z x (.val (.int .i64 i)) s) s0 (A++nodesDecs false suf)
 |[],pre,A,x,s,i,hx,h,hi,hb=>by
   subst hi
   rw[Q8e];simp only[go_sem,hz,Qa (by simpa using h),nodesDecs]
   exact RetA.mk hx
 |u::suf,pre,A,x,s,i,hx,h,hi,hb=>by
   subst hi
   obtain⟨f1,f2,f3⟩:=Q9 hz h (by omega) (Dec.cells_len u) (by decide)
   simp only[Dec.sizes] at hb
   obtain⟨y,s1,e1,g1⟩:=(Qgr u.size).2 u (Nat.le_refl _) (by omega) false s
   have hlen:=Q73 false u
   obtain⟨x',s2,e2,g2⟩:=nacc (hx.move g1.grew) g1.list? (by omega)
   have:=Q9e L z hz hl s0 suf (pre++[u]) (A++nodesDec false u) x' s2 (pre.length+1) g2 (by simpa using h) (by simp) (by rw[List.length_append];omega)
   rw[Q8e];simp only[go_sem,Nat.reduceLeDiff,hz,f1,f2,f3,e1,e2,nodesDecs] at this ⊢
   exact this
theorem QeR(l:List Dec)(nl:Bool)(s:St)(h:Dec.sizes l<2^26):Nodes (cw (.f Q6C) [encS nl (l.map Dec.enc)] s) s (nodesDecs false l):=by
 have hl:=Dec.len_sizes l
 have:=Q9e l (.val (encS nl (l.map Dec.enc))) (by simp only[go_sem]) (by omega) s l [] [] (.val .nils) s 0 (AccR.nil _ _) rfl rfl (by simp only[List.length_nil];omega)
 rw[Qhh]
 exact this
end Go.Proofs.YtgfhplcmcdimiaaGreatDoor
namespace Go.Am
open Go
@[go_sem] theorem QwJ(b:Bool)(sz:Nat)(x:Slot)(r:List Slot):gd b (fullO (bslS sz (gdV b x::r)))=gd b (fullO (bslS sz (x::r))):=by cases b <;> rfl
end Go.Am
namespace Go.Proofs.YtgfhplcmcdimiaaGreatDoor
open Go Go.Am
set_option linter.unusedVariables false
set_option maxRecDepth 4000
end Go.Proofs.YtgfhplcmcdimiaaGreatDoor
namespace Go.Am
open Go
def levelT(t:Ty):Int:=bif decide (t.kind=2)&&decide (t.name=[45,62]) then 0 else bif decide (t.kind=2)&&decide (t.name=[42]) then 1 else 2
end Go.Am
namespace Go.Proofs.YtgfhplcmcdimiaaGreatDoor
open Go Go.Am
set_option linter.unusedVariables false
set_option maxRecDepth 4000
end Go.Proofs.YtgfhplcmcdimiaaGreatDoor
namespace Go.Proofs.YtgfhplcmcdimiaaGreatDoor
open Go Go.Am
set_option linter.unusedVariables false
set_option maxRecDepth 4000
section
variable (L:Nat)
def AtL(m:Int)(s:St):Prop:=s.locs[L]? = some (.var [.val (.int .i64 m)])
end
end Go.Proofs.YtgfhplcmcdimiaaGreatDoor
namespace Go.Am
open Go
mutual
def rebT(f:Int→Ty):Ty→Ty
 |.mk k n s l _=>bif decide (k=1) then f n else .mk k n s (rebTs f l) true
def rebTs(f:Int→Ty):List Ty→List Ty
 |[]=>[]
 |t::l=>rebT f t::rebTs f l
end
def varB(pb:Int→Bool)(u:Ty):Bool:=!decide (u.kind=1) || pb u.n
end Go.Am
namespace Go.Proofs.YtgfhplcmcdimiaaGreatDoor
open Go Go.Am
set_option linter.unusedVariables false
set_option maxRecDepth 4000
end Go.Proofs.YtgfhplcmcdimiaaGreatDoor
namespace Go.Am
open Go
def showF(vars n:Int):Ty:=bif decide (n<vars) then tvar n else ofTy (95::(letT ((n - vars) % 26)++bif decide ((n - vars) / 26=0) then [] else Go.Lib.itoa ((n - vars) / 26))) []
end Go.Am
namespace Go.Proofs.YtgfhplcmcdimiaaGreatDoor
open Go Go.Am
set_option linter.unusedVariables false
set_option maxRecDepth 4000
end Go.Proofs.YtgfhplcmcdimiaaGreatDoor
namespace Go.Am
open Go
theorem Qjx{k n:Int}{s:Str}{l:List Ty}{b:Bool}(h:goodB (.mk k n s l b)=true)(hk:k=1):0≤n∧s=[]∧l=[]:=by
 have h:goodC k n s l.length (lowB s)=true:=h
 unfold goodC at h
 simp only[decide_eq_true hk,cond_true,Bool.and_eq_true,decide_eq_true_eq] at h
 exact⟨h.1.1,h.1.2,List.eq_nil_of_length_eq_zero (by omega)⟩
theorem Ty.size_pos(t:Ty):1≤t.size:=by cases t;simp only[Ty.size];omega
section
variable {σ:Type} (to:Int→σ→Ty × σ) (B:Nat)
end
end Go.Am
namespace Go.Am
open Go
theorem QfW{k n:Int}{s:Str}{l:List Ty}{b:Bool}(h:goodB (.mk k n s l b)=true)(hk:decide (k=1)=true):0≤n∧s=[]∧l=[]:=Qjx h (of_decide_eq_true hk)
theorem Q7p{p:Int→Bool}{k n:Int}{s:Str}{l:List Ty}{b:Bool}(h:varB p (.mk k n s l b)=true)(hk:decide (k=1)=true):p n=true:=by
 have h:(!decide (k=1) || p n)=true:=h
 rw[hk] at h
 exact h
end Go.Am
namespace Go.Am
open Go
mutual
theorem QmA(f:Int→Ty):∀ t:Ty,rebT f (ownTy t)=rebT f t
 |.mk k n s l b=>by simp only[ownTy,rebT,Qgm f l]
theorem Qgm(f:Int→Ty):∀ l:List Ty,rebTs f (ownTys l)=rebTs f l
 |[]=>rfl
 |t::l=>by simp only[ownTys,rebTs,QmA f t,Qgm f l]
end
theorem Qer(f:Int→Ty):∀ l:List Ty,rebTs f l=l.map (rebT f)
 |[]=>rfl
 |t::l=>by simp only[rebTs,List.map_cons,Qer f l]
def sub(av bv:Int)(σ:Int→Ty)(n:Int):Ty:=bif decide (n<av) then σ n else tvar (n - av+bv)
theorem Q5H{p:Ty→Bool}:∀ {l:List Ty},allTys p l=true→∀ t ∈ l,allTy p t=true
 |x::l,h,t,ht=>by
   simp only[allTys,Bool.and_eq_true] at h
   rcases List.mem_cons.1 ht with rfl | ht
   ·exact h.1
   ·exact Q5H h.2 t ht
def numI(n:Int):Bool:=decide (-9223372036854775808≤n)&&decide (n≤9223372036854775807)
theorem Qga{n:Int}:numI n=true↔-9223372036854775808≤n∧n≤9223372036854775807:=by unfold numI;rw[Bool.and_eq_true,decide_eq_true_eq,decide_eq_true_eq]
def numB(u:Ty):Bool:=numI u.n
structure Sch where
 vars:Int
 ty:Ty
namespace Sch
def cells(x:Sch):List AV:=.int .i64 x.vars::x.ty.cells
abbrev enc(x:Sch):AV:=.agg x.cells
end Sch
mutual
theorem Qgb:∀ t:Ty,allTy goodB t=true→allTy numB t=true→allTy (varB λn=>decide (0≤n)&&decide (n≤9223372036854775807)) t=true
 |.mk k n s l b,hg,hn=>by
   simp only[allTy,Bool.and_eq_true] at hg hn ⊢
   refine⟨?_,Qek l hg.2 hn.2⟩
   show (!decide (k=1) || (decide (0≤n)&&decide (n≤9223372036854775807)))=true
   cases hk:decide (k=1) with
   |true=>
     have h1:=Qga.1 (show numI n=true from hn.1)
     rw[decide_eq_true (QfW hg.1 hk).1,decide_eq_true h1.2];rfl
   |false=>rfl
theorem Qek:∀ l:List Ty,allTys goodB l=true→allTys numB l=true→allTys (varB λn=>decide (0≤n)&&decide (n≤9223372036854775807)) l=true
 |[],_,_=>rfl
 |t::l,hg,hn=>by
   simp only[allTys,Bool.and_eq_true] at hg hn ⊢
   exact⟨Qgb t hg.1 hn.1,Qek l hg.2 hn.2⟩
end
end Go.Am
namespace Go.Am
open Go
def leadD(u:Nat):Str:=if u=0 then [] else Go.Lib.decDigits u
theorem Q8H(u:Nat):leadD (u / 10)++[UInt8.ofNat (48+u % 10)]=Go.Lib.decDigits u:=by
 rw[Go.Lib.decDigits]
 unfold leadD
 by_cases h:u<10
 ·rw[if_pos (by omega),dif_pos h,Nat.mod_eq_of_lt h];rfl
 ·rw[if_neg (by omega),dif_neg h]
end Go.Am
namespace Go.Proofs.YtgfhplcmcdimiaaGreatDoor
open Go Go.Am
set_option linter.unusedVariables false
set_option maxRecDepth 4000
theorem QdL(m:Nat)(h:m<256):convS (C.ti Z5) (C.ti Qg) (.val (.int .u64 m))=some (.val (.int .u8 m)):=by
 have k1:(C.ti Z5).k = .int .u64:=by kernel_rfl
 have k2:(C.ti Qg).k = .int .u8:=by kernel_rfl
 have w:IntKind.u8.wrap (m:Int)=m:=by simp[IntKind.wrap,IntKind.bits,IntKind.signed];omega
 simp only[convS,k1,k2,w]
theorem Q8w(m:Nat)(h:m<256):convS (C.ti QM) (C.ti Q1) (.full [.int .u8 m]) (.int .u8)=some (.val (.str [UInt8.ofNat m])):=by
 have k1:(C.ti QM).k = .slice Qg:=by kernel_rfl
 have k2:(C.ti Q1).k = .str:=by kernel_rfl
 simp only[convS,convStr,k1,k2,Slot.list?,u8s,List.map_cons,List.map_nil,Int.toNat_natCast]
theorem QaJ(u:Nat)(h:u<2^63):(u:Int).tmod 10=((u % 10:Nat):Int)∧IntKind.u64.wrap (48+((u % 10:Nat):Int))=((48+u % 10:Nat):Int)∧IntKind.u64.wrap ((u:Int).tdiv 10)=((u / 10:Nat):Int):=by
 refine⟨?_,?_,?_⟩
 ·rw[Int.tmod_eq_emod_of_nonneg (by omega)];omega
 ·simp only[IntKind.wrap,IntKind.bits,IntKind.signed];simp;omega
 ·rw[Int.tdiv_eq_ediv_of_nonneg (by omega)]
  simp only[IntKind.wrap,IntKind.bits,IntKind.signed];simp;omega
theorem Qc6(n:Int)(hn:0≤n)(s:St):∀ (k u:Nat) (acc:Str),u≤k→u<2^63→(leadD u).length+acc.length<2^40→
  Q2m (.val (.int .i64 n)) (.val (.int .u64 u)) (.val (.str acc)) s=some (.ret (.val (.str (leadD u++acc))),s):=by
 have hneg:decide (n<0)=false:=decide_eq_false (by omega)
 intro k
 induction k with
 |zero=>
   intro u acc hk hu hl
   obtain rfl:u=0:=by omega
   have z:decide (((0:Nat):Int)>0)=false:=rfl
   rw[Q45]
   simp only[go_sem,Int.reduceEq,ne_eq,not_false_eq_true,z,hneg]
   rfl
 |succ k ih=>
   intro u acc hk hu hl
   by_cases h0:u=0
   ·subst h0
    have z:decide (((0:Nat):Int)>0)=false:=rfl
    rw[Q45]
    simp only[go_sem,Int.reduceEq,ne_eq,not_false_eq_true,z,hneg]
    rfl
   ·obtain⟨f1,f2,f3⟩:=QaJ u hu
    have z:decide ((u:Int)>0)=true:=decide_eq_true (by omega)
    have e1:=QdL (48+u % 10) (by omega)
    have e2:=Q8w (48+u % 10) (by omega)
    have hs:leadD u=leadD (u / 10)++[UInt8.ofNat (48+u % 10)]:=by rw[Q8H];unfold leadD;rw[if_neg h0]
    rw[hs,List.length_append,List.length_singleton] at hl
    have a1:binS (C.ti Q1) .add (.val (.str [UInt8.ofNat (48+u % 10)])) (.val (.str acc))=some (.val (.str (UInt8.ofNat (48+u % 10)::acc))):=Zi (by simp;omega)
    have e3:=ih (u / 10) (UInt8.ofNat (48+u % 10)::acc) (by omega) (by omega) (by simp only[List.length_cons];omega)
    rw[Q45]
    simp only[go_sem,Int.reduceEq,Nat.reduceAdd,ne_eq,not_false_eq_true,z,f1,f2,f3,e1,e2,a1,e3]
    rw[hs];simp
theorem Q4H(n:Int)(h0:0≤n)(h:n<2^62)(s:St):cw (.f Q0J) [.int .i64 n] s=some (.ret (.val (.str (Go.Lib.itoa n))),s):=by
 obtain⟨u,rfl⟩:=Int.eq_ofNat_of_zero_le h0
 have hneg:decide ((u:Int)<0)=false:=decide_eq_false (by omega)
 obtain⟨f1,f2,f3⟩:=QaJ u (by omega)
 have e1:=QdL (48+u % 10) (by omega)
 have e2:=Q8w (48+u % 10) (by omega)
 have k0:convS (C.ti Q2) (C.ti Z5) (.val (.int .i64 u))=some (.val (.int .u64 u)):=by
  have k1:(C.ti Z5).k = .int .u64:=by kernel_rfl
  have k2:(C.ti Q2).k = .int .i64:=by kernel_rfl
  have w:IntKind.u64.wrap (u:Int)=u:=by simp only[IntKind.wrap,IntKind.bits,IntKind.signed];simp;omega
  simp only[convS,k1,k2,w]
 have hlen:=Go.Lib.itoa_length_le (u:Int) (by omega) (by omega)
 rw[Go.Lib.itoa_nonneg,←Q8H,List.length_append,List.length_singleton] at hlen
 have e3:=Qc6 u h0 s (u / 10) (u / 10) [UInt8.ofNat (48+u % 10)] (Nat.le_refl _) (by omega) (by simp only[List.length_singleton];omega)
 rw[Q8H] at e3
 rw[Go.Lib.itoa_nonneg,QeN]
 simp only[go_sem,Int.reduceEq,Nat.reduceAdd,ne_eq,not_false_eq_true,k0,hneg,Qbf,f1,f2,f3,e1,e2,e3]
theorem Q8f(n:Int)(h0:0≤n)(h:n<2^63)(s:St):cw (.f Q3v) [.int .i64 n] s=some (.ret (.val (.str (letT n))),s):=by
 have a1:n.tmod 26=n % 26:=Int.tmod_eq_emod_of_nonneg h0
 have a2:n.tdiv 26=n / 26:=Int.tdiv_eq_ediv_of_nonneg h0
 have b1:IntKind.i64.wrap (97+n % 26)=97+n % 26:=wrap64 (by omega) (by omega)
 have b2:IntKind.i64.wrap (n / 26)=n / 26:=wrap64 (by omega) (by omega)
 have e1:=Q4H (n / 26) (by omega) (by omega) s
 obtain⟨m,hm⟩:=Int.eq_ofNat_of_zero_le (show 0≤97+n % 26 by omega)
 have e2:=Q8w m (by omega)
 have k0:convS (C.ti Q2) (C.ti Qg) (.val (.int .i64 (97+n % 26)))=some (.val (.int .u8 m)):=by
  have k1:(C.ti Qg).k = .int .u8:=by kernel_rfl
  have k2:(C.ti Q2).k = .int .i64:=by kernel_rfl
  have w:IntKind.u8.wrap (97+n % 26)=m:=by rw[hm];simp[IntKind.wrap,IntKind.bits,IntKind.signed];omega
  simp only[convS,k1,k2,w]
 have hl:=QfX (n / 26) (by omega) (by omega)
 have hb:UInt8.ofNat (97+n % 26).toNat=UInt8.ofNat m:=by rw[hm];rfl
 rw[Qgu]
 unfold letT
 rw[hb]
 cases hn:decide (n>25) with
 |false=>simp only[go_sem,Int.reduceEq,Nat.reduceAdd,ne_eq,not_false_eq_true,a1,b1,k0,e2,hn]
 |true=>
   have c1:binS (C.ti Q1) .add (.val (.str [UInt8.ofNat m])) (.val (.str (Go.Lib.itoa (n / 26))))=some (.val (.str (UInt8.ofNat m::Go.Lib.itoa (n / 26)))):=Zi (by simp;omega)
   simp only[go_sem,Int.reduceEq,Nat.reduceAdd,ne_eq,not_false_eq_true,a1,a2,b1,b2,k0,e2,hn,e1,c1]
end Go.Proofs.YtgfhplcmcdimiaaGreatDoor
namespace Go.Am
open Go
def joinS(sep:Str):List Str→Bool→Str
 |[],_=>[]
 |s::r,f=>(bif f then s else sep++s)++joinS sep r false
def parS(b:Bool)(s:Str):Str:=bif b then 40::(s++[41]) else s
mutual
def txt10(vars:Int):Ty→Str
 |.mk k n nm ags _=>
   bif decide (k=1) then (bif decide (n<vars) then 39::letT n else 95::letT (n - vars))
   else bif decide (ags.length=0) then nm
   else bif decide (nm=[45,62]) then (ats10 vars ags 1).getD 0 []++([32,45,62,32]++(ats10 vars ags 0).getD 1 [])
   else bif decide (nm=[42]) then joinS [32,42,32] (ats10 vars ags 2) true
   else bif decide (ags.length=1) then (ats10 vars ags 2).getD 0 []++(32::nm)
   else 40::(joinS [44,32] (ats10 vars ags 0) true++(41::32::nm))
def ats10(vars:Int):List Ty→Int→List Str
 |[],_=>[]
 |t::l,lv=>parS (decide (levelT t<lv)) (txt10 vars t)::ats10 vars l lv
end
def at10(vars:Int)(t:Ty)(lv:Int):Str:=parS (decide (levelT t<lv)) (txt10 vars t)
theorem Q7t(vars:Int)(lv:Int):∀ l:List Ty,ats10 vars l lv=l.map λt=>at10 vars t lv
 |[]=>rfl
 |t::l=>by simp only[ats10,List.map_cons,Q7t vars lv l,at10]
structure NiceT (l:List Str):Prop where
 fst:∃ s r,l=s::r∧hasL glueR s=false
 lst:∃ q z,l=q++[z]∧hasL glueL z=false
theorem Qjw(z:Str)(b:List Str):∀ (q:List Str) (p:Option Str),textGo p (q++z::b)=textGo p (q++[z])++textGo (some z) b
 |[],p=>by simp[textGo]
 |s::q,p=>by simp only[List.cons_append,textGo,Qjw z b q,List.append_assoc]
theorem NiceT.app{l:List Str}(h:NiceT l):∃ z,hasL glueL z=false∧∀ p b,textGo p (l++b)=textGo p l++textGo (some z) b:=by
 obtain⟨q,z,rfl,hz⟩:=h.lst
 exact⟨z,hz,λp b=>by rw[List.append_assoc,List.singleton_append,Qjw]⟩
theorem NiceT.some{l:List Str}(h:NiceT l)(q:Str):textGo (some q) l=bif hasL glueL q then textB l else 32::textB l:=by
 obtain⟨s,r,rfl,hs⟩:=h.fst
 simp only[textB,textGo,sepB,hs,Bool.not_false,Bool.and_true,cond_false]
 cases hasL glueL q <;> rfl
theorem NiceT.one{s:Str}(h1:hasL glueR s=false)(h2:hasL glueL s=false):NiceT [s]:=⟨⟨s,[],rfl,h1⟩,⟨[],s,rfl,h2⟩⟩
theorem NiceT.cat{a b c:List Str}(ha:NiceT a)(hc:NiceT c):NiceT (a++(b++c)):=by
 obtain⟨s,r,rfl,h1⟩:=ha.fst
 obtain⟨q,z,rfl,h2⟩:=hc.lst
 exact⟨⟨s,r++(b++(q++[z])),by simp,h1⟩,⟨(s::r)++(b++q),z,by simp,h2⟩⟩
theorem NiceT.par{l:List Str}(b:Bool)(h:NiceT l):NiceT (parT b l):=by
 cases b with
 |false=>exact h
 |true=>exact⟨⟨[40],l++[[41]],rfl,by decide⟩,⟨[40]::l,[41],by simp[parT],by decide⟩⟩
theorem Q0V{l:List Str}(b:Bool)(h:NiceT l):textB (parT b l)=parS b (textB l):=by
 cases b with
 |false=>rfl
 |true=>
   obtain⟨z,hz,ha⟩:=h.app
   show textGo none ([40]::(l++[[41]]))=40::(textB l++[41])
   have h1:=h.some [40]
   rw[show hasL glueL [40]=true by decide,cond_true] at h1
   simp only[textGo,sepB,cond_false]
   rw[ha,h1]
   simp only[textGo,sepB]
   rw[show hasL glueR [41]=true by decide]
   simp
theorem Qlh{a b:List Str}(m:Str)(ha:NiceT a)(hb:NiceT b)(h1:hasL glueR m=false)(h2:hasL glueL m=false):textB (a++([m]++b))=textB a++(32::(m++32::textB b)):=by
 obtain⟨z,hz,h⟩:=ha.app
 unfold textB at *
 rw[h]
 simp only[List.singleton_append,textGo,sepB,h1,hz,Bool.not_false,Bool.and_self,cond_true]
 rw[hb.some m,h2]
 rfl
theorem QgM{a:List Str}(m:Str)(ha:NiceT a)(h1:hasL glueR m=false):textB (a++[m])=textB a++(32::m):=by
 obtain⟨z,hz,h⟩:=ha.app
 unfold textB at *
 rw[h]
 simp only[textGo,sepB,h1,hz,Bool.not_false,Bool.and_self,cond_true,List.append_nil]
theorem Q8m(sign sep:Str)(hg:hasL glueL sign=false)(hsep:∀ z,hasL glueL z=false→textGo (some z) [sign]++[32]=sep):∀ (L:List (List Str)) (z:Str),(∀ l ∈ L,NiceT l)→hasL glueL z=false→textGo (some z) (joinT sign L false)=joinS sep (L.map textB) false
 |[],z,_,_=>rfl
 |l::L,z,hL,hz=>by
   have hl:=hL l List.mem_cons_self
   obtain⟨w,hw,h⟩:=hl.app
   have ih:=Q8m sign sep hg hsep L w (λx hx=>hL x (List.mem_cons_of_mem _ hx)) hw
   have e:=hsep z hz
   simp only[textGo,List.append_nil] at e
   simp only[joinT,cond_false,List.cons_append,textGo,h,ih,List.map_cons,joinS,hl.some sign,hg]
   rw[←e]
   simp
theorem Q35(sign sep:Str)(hg:hasL glueL sign=false)(hsep:∀ z,hasL glueL z=false→textGo (some z) [sign]++[32]=sep)(L:List (List Str))(hL:∀ l ∈ L,NiceT l):textB (joinT sign L true)=joinS sep (L.map textB) true:=by
 cases L with
 |nil=>rfl
 |cons l L=>
   have hl:=hL l List.mem_cons_self
   obtain⟨w,hw,h⟩:=hl.app
   have ih:=Q8m sign sep hg hsep L w (λx hx=>hL x (List.mem_cons_of_mem _ hx)) hw
   unfold textB at *
   simp only[joinT,cond_true,h,ih,List.map_cons,joinS]
theorem Qla:∀ z,hasL glueL z=false→textGo (some z) [[42]]++[32]=[32,42,32]:=by
 intro z hz
 simp only[textGo,sepB,hz]
 rw[show hasL glueR [42]=false by decide];rfl
theorem Q7F:∀ z,hasL glueL z=false→textGo (some z) [[44]]++[32]=[44,32]:=by
 intro z hz
 simp only[textGo,sepB,hz]
 rw[show hasL glueR [44]=true by decide];rfl
theorem Qej(sign:Str):∀ (L:List (List Str)) (f:Bool),L≠[]→(∀ l ∈ L,NiceT l)→∃ q z,joinT sign L f=q++[z]∧hasL glueL z=false
 |[l],f,_,hL=>by
   obtain⟨q,z,rfl,hz⟩:=(hL l List.mem_cons_self).lst
   cases f with
   |true=>exact⟨q,z,by simp[joinT],hz⟩
   |false=>exact⟨sign::q,z,by simp[joinT],hz⟩
 |l::m::L,f,_,hL=>by
   obtain⟨q,z,e,hz⟩:=Qej sign (m::L) false (by simp) (λx hx=>hL x (List.mem_cons_of_mem _ hx))
   exact⟨(bif f then l else sign::l)++q,z,by rw[joinT,e,List.append_assoc],hz⟩
theorem NiceT.join(sign:Str){L:List (List Str)}(h:L≠[])(hL:∀ l ∈ L,NiceT l):NiceT (joinT sign L true):=by
 refine⟨?_,Qej sign L true h hL⟩
 cases L with
 |nil=>exact absurd rfl h
 |cons l L=>
   obtain⟨s,r,rfl,hs⟩:=(hL l List.mem_cons_self).fst
   exact⟨s,r++joinT sign L false,by simp[joinT],hs⟩
theorem Qiw:∀ w ∈ glueL++glueR,((givenB w).2.2 || lowB w)=false:=by decide +kernel
theorem QjK{nm:Str}(h:((givenB nm).2.2 || lowB nm)=true):hasL glueL nm=false∧hasL glueR nm=false:=by
 have hw:∀ w ∈ glueL++glueR,nm≠w:=λw hm e=>by
  have:=Qiw w hm
  rw[←e,h] at this;cases this
 unfold hasL
 rw[List.any_eq_false,List.any_eq_false]
 exact⟨λw hm=>by simpa using hw w (List.mem_append_left _ hm),λw hm=>by simpa using hw w (List.mem_append_right _ hm)⟩
theorem Q6Y{k n:Int}{nm:Str}{l:List Ty}{b:Bool}(h:goodB (.mk k n nm l b)=true)(hk:decide (k=1)=false):k=2∧n=0∧((givenB nm).1≤l.length∧(l.length:Int)≤(givenB nm).2.1)∧((givenB nm).2.2 || lowB nm)=true:=by
 have h:goodC k n nm l.length (lowB nm)=true:=h
 unfold goodC at h
 rw[hk,cond_false] at h
 cases h2:decide (k=2) with
 |false=>rw[h2] at h;cases h
 |true=>
   rw[h2] at h
   simp only[cond_true,Bool.and_eq_true,decide_eq_true_eq] at h
   exact⟨of_decide_eq_true h2,h.1.1.1,⟨h.1.1.2,h.1.2⟩,h.2⟩
theorem Qba:givenB [45,62]=(2,2,true):=by decide +kernel
theorem Qc0:givenB [42]=(2,8,true):=by decide +kernel
theorem Qii:∀ u:Nat,(Go.Lib.decDigits u).all amoC=true:=by
 intro u
 induction u using Nat.strongRecOn with
 |_ u ih=>
   have hd:∀ m,m<10→amoC (UInt8.ofNat (48+m))=true:=by
    intro m hm
    have:m=0∨m=1∨m=2∨m=3∨m=4∨m=5∨m=6∨m=7∨m=8∨m=9:=by omega
    rcases this with rfl | rfl | rfl | rfl | rfl | rfl | rfl | rfl | rfl | rfl <;> decide
   rw[Go.Lib.decDigits]
   by_cases h:u<10
   ·rw[dif_pos h]
    simp only[List.all_cons,List.all_nil,Bool.and_true]
    exact hd u h
   ·rw[dif_neg h,List.all_append,ih (u / 10) (by omega)]
    simp only[List.all_cons,List.all_nil,Bool.and_true,Bool.true_and]
    exact hd _ (by omega)
def keptN(m:Int):Str:=95::(letT (m % 26)++bif decide (m / 26=0) then [] else Go.Lib.itoa (m / 26))
theorem QiB{m:Int}(h:0≤m):letT (m % 26)=[UInt8.ofNat (97+(m % 26).toNat)]:=by
 unfold letT
 rw[decide_eq_false (by omega),cond_false]
 congr 2
 omega
theorem QkJ{m:Int}(h:0≤m):keptN m=95::letT m:=by
 unfold keptN
 rw[QiB h]
 unfold letT
 have h1:(97+m % 26).toNat=97+(m % 26).toNat:=by omega
 rw[h1]
 by_cases hm:m>25
 ·rw[decide_eq_true hm,decide_eq_false (by omega)];rfl
 ·rw[decide_eq_false hm,decide_eq_true (by omega)];rfl
theorem Qeg(m:Int):hasL glueL (keptN m)=false∧hasL glueR (keptN m)=false:=by
 unfold hasL keptN glueL glueR
 simp
theorem Q90(n:Int):hasL glueL (39::letT n)=false∧hasL glueR (39::letT n)=false:=by
 unfold hasL glueL glueR
 simp
end Go.Am
namespace Go.Am
open Go
def ShowsT(vars:Int)(t:Ty):Prop:=∀ lv:Int,lv≤2→NiceT (typT (rebT (showF vars) t) lv)∧textB (typT (rebT (showF vars) t) lv)=at10 vars t lv
def VarOK(t:Ty):Prop:=allTy (varB λn=>decide (0≤n)&&decide (n≤9223372036854775807)) t=true
theorem Q7M(vars lv:Int):∀ l:List Ty,typTs (rebTs (showF vars) l) lv=l.map λt=>typT (rebT (showF vars) t) lv
 |[]=>rfl
 |t::l=>by simp only[rebTs,typTs,List.map_cons,Q7M vars lv l]
theorem Q4Q{vars lv:Int}(hlv:lv≤2){l:List Ty}(h:∀ t ∈ l,ShowsT vars t):(∀ x ∈ typTs (rebTs (showF vars) l) lv,NiceT x)∧(typTs (rebTs (showF vars) l) lv).map textB=ats10 vars l lv:=by
 rw[Q7M,Q7t]
 refine⟨λx hx=>?_,?_⟩
 ·obtain⟨t,ht,rfl⟩:=List.mem_map.1 hx
  exact (h t ht lv hlv).1
 ·rw[List.map_map]
  exact List.map_congr_left λt ht=>(h t ht lv hlv).2
theorem Qeq(f:Int→Ty)(l:List Ty):(rebTs f l).length=l.length:=by rw[Qer,List.length_map]
theorem Qev(vars:Int)(hv:0≤vars):∀ (m:Nat) (t:Ty),t.size≤m→allTy goodB t=true→VarOK t→ShowsT vars t
 |0,t,h,_,_=>by have:=Ty.size_pos t;omega
 |m+1,.mk k n nm ags b,h,hg,hp=>λlv hlv=>by
   have hg0:=hg
   simp only[allTy,Bool.and_eq_true] at hg
   unfold VarOK at hp
   simp only[allTy,Bool.and_eq_true] at hp
   simp only[Ty.size] at h
   simp only[rebT]
   cases hk:decide (k=1) with
   |true=>
     obtain⟨h0,rfl,rfl⟩:=QfW hg.1 hk
     have hn:=Q7p hp.1 hk
     simp only[Bool.and_eq_true,decide_eq_true_eq] at hn
     obtain rfl:=of_decide_eq_true hk
     have hlev:levelT (.mk 1 n [] [] b)=2:=rfl
     have hat:at10 vars (.mk 1 n [] [] b) lv=bif decide (n<vars) then 39::letT n else 95::letT (n - vars):=by
      unfold at10 parS
      rw[hlev,decide_eq_false (by omega),cond_false]
      simp only[txt10,decide_true,cond_true]
     rw[hat,cond_true]
     unfold showF
     cases hd:decide (n<vars) with
     |true=>
       simp only[cond_true,tvar,typT,decide_true]
       exact⟨.one (Q90 n).2 (Q90 n).1,by simp[textB,textGo,sepB]⟩
     |false=>
       have hd':=of_decide_eq_false hd
       have hkn:(95::(letT ((n - vars) % 26)++bif decide ((n - vars) / 26=0) then [] else Go.Lib.itoa ((n - vars) / 26)))=keptN (n - vars):=rfl
       have hne1:decide (keptN (n - vars)=[45,62])=false:=by unfold keptN;simp
       have hne2:decide (keptN (n - vars)=[42])=false:=by unfold keptN;simp
       simp only[cond_false,hkn,ofTy,List.map_nil,typT,hne1,hne2]
       rw[show decide ((2:Int)=1)=false from rfl,show decide (([]:List Ty).length=0)=true from rfl]
       simp only[cond_false,cond_true]
       exact⟨.one (Qeg _).2 (Qeg _).1,by rw[←QkJ (by omega)];simp[textB,textGo,sepB]⟩
   |false=>
     obtain⟨rfl,rfl,⟨hl1,hl2⟩,hnm⟩:=Q6Y hg.1 hk
     have HV:∀ u ∈ ags,ShowsT vars u:=λu hu=>by
      have h2:=Ty.mem_sizes hu
      exact Qev vars hv m u (by omega) (Q5H hg.2 u hu) (Q5H hp.2 u hu)
     obtain⟨g1,g2⟩:=QjK hnm
     simp only[cond_false,typT,Qeq,hk]
     have hat:at10 vars (.mk 2 0 nm ags b) lv=parS (decide (levelT (.mk 2 0 nm ags b)<lv)) (txt10 vars (.mk 2 0 nm ags b)):=rfl
     rw[hat]
     simp only[txt10,hk,cond_false]
     have hlev:levelT (.mk 2 0 nm ags b)=bif decide (nm=[45,62]) then 0 else bif decide (nm=[42]) then 1 else 2:=rfl
     rw[hlev]
     cases c1:decide (nm=[45,62]) with
     |true=>
       obtain rfl:=of_decide_eq_true c1
       rw[Qba] at hl1 hl2
       obtain⟨a1,a2⟩:=Q4Q (vars:=vars) (lv:=1) (by decide) HV
       obtain⟨b1,b2⟩:=Q4Q (vars:=vars) (lv:=0) (by decide) HV
       match ags,hl1,hl2 with
       |[x,y],_,_=>
         simp only[rebTs,typTs,List.map_cons,List.map_nil,ats10,List.cons.injEq,and_true] at a1 a2 b1 b2
         have ha:=a1 (typT (rebT (showF vars) x) 1) (by simp)
         have hb:=b1 (typT (rebT (showF vars) y) 0) (by simp)
         have hm:=Qlh [45,62] ha hb (by decide) (by decide)
         have hN:NiceT (typT (rebT (showF vars) x) 1++([[45,62]]++typT (rebT (showF vars) y) 0)):=.cat ha hb
         simp only[rebTs,typTs,ats10,List.getD_cons_zero,List.getD_cons_succ,cond_true,cond_false,List.append_assoc]
         rw[show decide (([x,y]:List Ty).length=0)=false from rfl,cond_false]
         refine⟨.par _ hN,?_⟩
         rw[Q0V _ hN,hm,a2.1,b2.2]
         rfl
       |[],h,_=>simp at h
       |[_],h,_=>simp at h
       |_::_::_::_,_,h=>simp at h;omega
     |false=>
       cases c2:decide (nm=[42]) with
       |true=>
         obtain rfl:=of_decide_eq_true c2
         rw[Qc0] at hl1
         have hne:ags≠[]:=by rintro rfl;simp at hl1
         obtain⟨a1,a2⟩:=Q4Q (vars:=vars) (lv:=2) (by decide) HV
         have hne':typTs (rebTs (showF vars) ags) 2≠[]:=by rw[Q7M];simpa using hne
         have hN:=NiceT.join [42] hne' a1
         simp only[cond_true,cond_false]
         have hz:decide (ags.length=0)=false:=decide_eq_false (by simpa using hne)
         simp only[hz,cond_false]
         refine⟨.par _ hN,?_⟩
         rw[Q0V _ hN,Q35 [42] [32,42,32] (by decide) Qla _ a1,a2]
       |false=>
         simp only[cond_false]
         have hlv2:decide ((2:Int)<lv)=false:=decide_eq_false (by omega)
         cases c3:decide (ags.length=0) with
         |true=>
           simp only[cond_true,hlv2,parS,cond_false]
           exact⟨.one g2 g1,by simp[textB,textGo,sepB]⟩
         |false=>
           simp only[cond_false,hlv2,parS]
           cases c4:decide (ags.length=1) with
           |true=>
             obtain⟨a1,a2⟩:=Q4Q (vars:=vars) (lv:=2) (by decide) HV
             match ags,of_decide_eq_true c4 with
             |[x],_=>
               simp only[rebTs,typTs,List.map_cons,List.map_nil,ats10,List.cons.injEq,and_true] at a1 a2
               have ha:=a1 (typT (rebT (showF vars) x) 2) (by simp)
               simp only[rebTs,typTs,ats10,List.getD_cons_zero,cond_true]
               refine⟨by simpa using NiceT.cat (b:=[]) ha (.one g2 g1),?_⟩
               rw[QgM nm ha g2,a2]
           |false=>
             obtain⟨a1,a2⟩:=Q4Q (vars:=vars) (lv:=0) (by decide) HV
             have hne:ags≠[]:=by rintro rfl;simp at c3
             have hne':typTs (rebTs (showF vars) ags) 0≠[]:=by rw[Q7M];simpa using hne
             have hN:=NiceT.join [44] hne' a1
             have hP:NiceT ([40]::(joinT [44] (typTs (rebTs (showF vars) ags) 0) true++[[41]])):=hN.par true
             have hT:=Q0V true hN
             simp only[parT,cond_true] at hT
             simp only[cond_false]
             refine⟨by simpa using NiceT.cat (b:=[]) hP (.one g2 g1),?_⟩
             rw[QgM nm hP g2,hT,Q35 [44] [44,32] (by decide) Q7F _ a1,a2]
             simp[parS]
end Go.Am
namespace Go.Am
open Go
theorem Q9F:∀ l:List TNode,firstBad l = .zero→∀ n ∈ l,n.bad.kind=0
 |[],_,n,hn=>by cases hn
 |u::l,h,n,hn=>by
   rw[firstBad] at h
   by_cases hu:u.bad.kind=0
   ·rw[decide_eq_true hu,cond_true] at h
    rcases List.mem_cons.1 hn with rfl | hn
    ·exact hu
    ·exact Q9F l h n hn
   ·rw[decide_eq_false hu,cond_false] at h
    rw[h] at hu
    exact absurd rfl hu
end Go.Am
namespace Go.Am
open Go
set_option linter.unusedVariables false
theorem Qhm{l:List TNode}{D:Int}(h:rightN l D = .zero):firstBad l = .zero:=by
 unfold rightN at h
 cases h1:decide (countN l>8192) with
 |true=>rw[h1,cond_true] at h;cases h
 |false=>
   rw[h1,cond_false] at h
   cases h2:decide (D>100) with
   |true=>rw[h2,cond_true] at h;cases h
   |false=>rw[h2,cond_false] at h;exact h
theorem wrong0{n:TNode}(h:n.bad.kind=0):n.wrong.1=0:=by
 unfold TNode.bad mkBad at h
 by_cases e:n.wrong.1=0
 ·exact e
 ·rw[decide_eq_false e,cond_false] at h;exact h
theorem Qhn{l:List TNode}{D:Int}(h:rightN l D = .zero):∀ n ∈ l,n.wrong.1=0:=λn hn=>wrong0 (Q9F l (Qhm h) n hn)
theorem Q97:∀ l:List TNode,(firstBad l).kind=0→firstBad l = .zero
 |[],_=>rfl
 |n::l,h=>by
   rw[firstBad] at h ⊢
   by_cases e:n.bad.kind=0
   ·rw[decide_eq_true e,cond_true] at h ⊢;exact Q97 l h
   ·rw[decide_eq_false e,cond_false] at h;exact absurd h e
theorem QiH{l:List TNode}{D:Int}:(rightN l D).kind=0↔rightN l D = .zero:=by
 constructor
 ·unfold rightN
  cases decide (countN l>8192) with
  |true=>intro h;cases h
  |false=>
    cases decide (D>100) with
    |true=>intro h;cases h
    |false=>exact Q97 l
 ·intro h;rw[h];rfl
structure DecIs (k:Int) (nm:Str) (p nl nc nf:Int) (inn:Bool):Prop where
 kind:k=1∨k=2∨k=3∨k=4
 val:k=1→nc=1∧¬ nf>0∧¬ nl>0
 fn:k=2→¬ nc>0∧¬ nl>0∧nf>0
 data:k=3→¬ nc>0∧¬ nf>0∧0≤p∧p≤8∧lowB nm=true∧nl>0∧nl≤64
 exn:k=4→¬ nc>0∧¬ nf>0∧nl=1
 bare:k≠3→p=0∧nm=[]
 inn:inn=true→k=1∨k=2
theorem Qm5{k:Int}{nm:Str}{p nl nc nf:Int}{inn:Bool}(h:wrongDecC k nm p nl nc nf inn=0):DecIs k nm p nl nc nf inn:=by
 unfold wrongDecC at h
 by_cases h1:k=1
 ·subst h1
  simp only[decide_true,cond_true,Int.reduceEq,decide_false,cond_false] at h
  grind [DecIs]
 ·by_cases h2:k=2
  ·subst h2
   simp only[decide_true,cond_true,Int.reduceEq,decide_false,cond_false] at h
   grind [DecIs]
  ·by_cases h3:k=3
   ·subst h3
    simp only[decide_true,cond_true,Int.reduceEq,decide_false,cond_false] at h
    grind [DecIs]
   ·by_cases h4:k=4
    ·subst h4
     simp only[decide_true,cond_true,Int.reduceEq,decide_false,cond_false] at h
     grind [DecIs]
    ·simp only[decide_eq_false h1,decide_eq_false h2,decide_eq_false h3,decide_eq_false h4,cond_false,Bool.not_false,Bool.true_or,cond_true] at h
     cases h
theorem Q9y{d:Dec}{inn:Bool}(h:wrongDecB d inn=0):DecIs d.kind d.name d.params d.cons.length d.case.length d.funs.length inn:=Qm5 h
theorem len0{α:Type}{l:List α}(h:¬ ((l.length:Int)>0)):l=[]:=List.eq_nil_of_length_eq_zero (by omega)
end Go.Am
namespace Go.Proofs.YtgfhplcmcdimiaaGreatDoor
open Go Go.Am
set_option linter.unusedVariables false
def RN(l:List TNode):Prop:=∀ n ∈ l,n.wrong.1=0
theorem RN.l{a b:List TNode}(h:RN (a++b)):RN a:=λn hn=>h n (List.mem_append_left _ hn)
theorem RN.r{a b:List TNode}(h:RN (a++b)):RN b:=λn hn=>h n (List.mem_append_right _ hn)
theorem RN.t{x:TNode}{a:List TNode}(h:RN (x::a)):RN a:=λn hn=>h n (List.mem_cons_of_mem _ hn)
theorem RN.exps:∀ {l:List Exp},RN (nodesExps l)→∀ e ∈ l,RN (nodesExp e)
 |x::l,h,e,he=>by
   simp only[nodesExps] at h
   rcases List.mem_cons.1 he with rfl | he
   ·exact h.l
   ·exact h.r.exps e he
theorem RN.cases:∀ {l:List Case},RN (nodesCases l)→∀ e ∈ l,RN (nodesCase e)
 |x::l,h,e,he=>by
   simp only[nodesCases] at h
   rcases List.mem_cons.1 he with rfl | he
   ·exact h.l
   ·exact h.r.cases e he
theorem RN.decs{i:Bool}:∀ {l:List Dec},RN (nodesDecs i l)→∀ e ∈ l,RN (nodesDec i e)
 |x::l,h,e,he=>by
   simp only[nodesDecs] at h
   rcases List.mem_cons.1 he with rfl | he
   ·exact h.l
   ·exact h.r.decs e he
theorem RN.funs:∀ {l:List Fun},RN (nodesFuns l)→∀ e ∈ l,RN (nodesCase e.case)
 |x::l,h,e,he=>by
   simp only[nodesFuns] at h
   rcases List.mem_cons.1 he with rfl | he
   ·cases e;simp only[nodesFun] at h;exact h.l.t
   ·exact h.r.funs e he
end Go.Proofs.YtgfhplcmcdimiaaGreatDoor
namespace Go.Am
open Go
def digT(n:Int):List Str:=bif decide (n<0) then [[126],Go.Lib.itoa (-n)] else [Go.Lib.itoa n]
def digS(n:Int):Str:=bif decide (n<0) then 126::Go.Lib.itoa (-n) else Go.Lib.itoa n
mutual
def patT:Pat→Int→List Str
 |.mk k _ nm n kids _,lv=>
   bif decide (k=2) then [nm]
   else bif decide (k=3) then digT n
   else bif decide (k=4) then (bif decide (kids.length>0) then parT (decide (1<lv)) ([nm]++(patTs kids 2).getD 0 []) else [nm])
   else bif decide (k=5) then [40]::(joinT [44] (patTs kids 0) true++[[41]])
   else bif decide (k=6) then parT (decide (0<lv)) ([nm,[97,115]]++(patTs kids 0).getD 0 [])
   else [[95]]
def patTs:List Pat→Int→List (List Str)
 |[],_=>[]
 |p::l,lv=>patT p lv::patTs l lv
end
def patLv(p:Pat):Int:=bif decide (p.kind=6) then 0 else bif decide (p.kind=4)&&decide (p.kids.length>0) then 1 else 2
mutual
def patS:Pat→Str
 |.mk k _ nm n kids _=>
   bif decide (k=1) then [95]
   else bif decide (k=3) then digS n
   else bif decide (k=6) then nm++([32,97,115,32]++(patSs kids 0).getD 0 [])
   else bif decide (k=5) then 40::(joinS [44,32] (patSs kids 0) true++[41])
   else bif decide (kids.length>0) then nm++(32::(patSs kids 2).getD 0 [])
   else nm
def patSs:List Pat→Int→List Str
 |[],_=>[]
 |p::l,lv=>parS (decide (patLv p<lv)) (patS p)::patSs l lv
end
theorem Q4f(lv:Int):∀ l:List Pat,patTs l lv=l.map λp=>patT p lv
 |[]=>rfl
 |p::l=>by simp only[patTs,List.map_cons,Q4f lv l]
theorem Q5P(lv:Int):∀ l:List Pat,patSs l lv=l.map λp=>parS (decide (patLv p<lv)) (patS p)
 |[]=>rfl
 |p::l=>by simp only[patSs,List.map_cons,Q5P lv l]
def levE(e:Exp):Int:=
 bif decide (e.kind=12) || decide (e.kind=5) || decide (e.kind=8) || decide (e.kind=9) then 0
 else bif decide (e.kind=18) then 1 else bif decide (e.kind=11) then 2 else bif decide (e.kind=15) then 3 else bif decide (e.kind=14) then 4
 else bif decide (e.kind=6) || decide (e.kind=16) || decide (e.kind=17) || decide (e.kind=19) then 8
 else bif decide (e.kind=13) then (bif decide (e.n≥6) then 5 else bif decide (e.n≤2) then 6 else 7)
 else bif decide (e.kind=3)&&decide (e.kids.length>0) then 8 else 9
mutual
def openE:Exp→Bool
 |.mk k _ _ _ kids _ _ _ _ _=>
   bif decide (k=5) || decide (k=9) || decide (k=11) then true
   else bif decide (k=12) || decide (k=8) then (openEs kids).getLastD false
   else bif decide (k=18) then decide ((kids.map levE).getD 1 0>0)&&(openEs kids).getD 1 false
   else false
def openEs:List Exp→List Bool
 |[]=>[]
 |e::l=>openE e::openEs l
end
def opN(n:Int):Str:=[[],[43],[45],[42],[100,105,118],[109,111,100],[61],[60,62],[60],[60,61]].getD n.toNat []
def bareE(e:Exp):Bool:=decide (e.kind=3)&&(decide (e.kids.length=0) && !decide (e.name=[40,41]))
def caseT:List (List Str × List Str × Bool)→Bool→List (List Str)
 |[],_=>[]
 |(p,e,o)::r,f=>(p++([[61,62]]++parT (!r.isEmpty&&o) e))::caseT r false
def conT(c:Con):List Str:=bif c.has then [c.name,[111,102]]++typT c.arg 0 else [c.name]
def varT(i:Nat):Str:=39::letT (i:Int)
def parmT(n:Int):List Str:=bif decide (n>0) then parT (decide (n>1)) (joinT [44] ((List.range n.toNat).map λi=>[varT i]) true) else []
def atT(l:List (List Str × Int))(i:Nat)(lv:Int):List Str:=parT (decide ((l.getD i ([],9)).2<lv)) (l.getD i ([],9)).1
mutual
def expT:Exp→List Str
 |.mk k _ nm n kids _ cases _ decs _=>
   bif decide (k=1) then digT n
   else bif decide (k=2) then [nm]
   else bif decide (k=3) then (bif decide (kids.length>0) then [nm]++atT (expTs kids) 0 9 else [nm])
   else bif decide (k=4) then [40]::(joinT [44] ((expTs kids).map (·.1)) true++[[41]])
   else bif decide (k=10) then [40]::(joinT [59] ((expTs kids).map (·.1)) true++[[41]])
   else bif decide (k=5) then [[102,110]]++joinT [124] (caseT (caseTs cases) true) true
   else bif decide (k=6) then parT (bareE (kids.headD (.mk 0 0 [] 0 [] true [] true [] true))) (atT (expTs kids) 0 8)++atT (expTs kids) 1 9
   else bif decide (k=7) then [[108,101,116]]++((decTs decs).flatten++([[105,110]]++(((expTs kids).getD 0 ([],9)).1++[[101,110,100]])))
   else bif decide (k=8) then [[105,102]]++(((expTs kids).getD 0 ([],9)).1++([[116,104,101,110]]++(((expTs kids).getD 1 ([],9)).1++([[101,108,115,101]]++((expTs kids).getD 2 ([],9)).1))))
   else bif decide (k=9) then [[99,97,115,101]]++(((expTs kids).getD 0 ([],9)).1++([[111,102]]++joinT [124] (caseT (caseTs cases) true) true))
   else bif decide (k=12) then [[114,97,105,115,101]]++((expTs kids).getD 0 ([],9)).1
   else bif decide (k=11) then atT (expTs kids) 0 3++([[104,97,110,100,108,101]]++joinT [124] (caseT (caseTs cases) true) true)
   else bif decide (k=18) then parT (decide ((kids.headD (.mk 0 0 [] 0 [] true [] true [] true)).kind=11)) (atT (expTs kids) 0 2)++([[58,61]]++atT (expTs kids) 1 1)
   else bif decide (k=15) then atT (expTs kids) 0 4++([[111,114,101,108,115,101]]++atT (expTs kids) 1 3)
   else bif decide (k=14) then atT (expTs kids) 0 5++([[97,110,100,97,108,115,111]]++atT (expTs kids) 1 4)
   else bif decide (k=13) then (bif decide (n≥6) then atT (expTs kids) 0 6++([opN n]++atT (expTs kids) 1 6)
    else bif decide (n≤2) then atT (expTs kids) 0 6++([opN n]++atT (expTs kids) 1 7) else atT (expTs kids) 0 7++([opN n]++atT (expTs kids) 1 8))
   else bif decide (k=16) then [[114,101,102]]++atT (expTs kids) 0 9
   else bif decide (k=17) then [[33]]++atT (expTs kids) 0 9
   else bif decide (k=19) then [[112,114,105,110,116]]++atT (expTs kids) 0 9
   else [[114,101,97,100],[40],[41]]
def expTs:List Exp→List (List Str × Int)
 |[]=>[]
 |e::l=>(expT e,levE e)::expTs l
def caseTs:List Case→List (List Str × List Str × Bool)
 |[]=>[]
 |c::l=>caseT1 c::caseTs l
def caseT1:Case→List Str × List Str × Bool
 |.mk p e=>(patT p 0,expT e,openE e)
def decT:Dec→List Str
 |.mk k _ nm params cons _ cases _ funs _=>
   bif decide (k=1) then [[118,97,108]]++(((caseTs cases).headD ([],[],false)).1++([[61]]++((caseTs cases).headD ([],[],false)).2.1))
   else bif decide (k=2) then [[102,117,110]]++joinT [97,110,100] (funTs funs) true
   else bif decide (k=4) then [[101,120,99,101,112,116,105,111,110]]++(cons.map conT).headD []
   else [[100,97,116,97,116,121,112,101]]++(parmT params++([nm,[61]]++joinT [124] (cons.map conT) true))
def decTs:List Dec→List (List Str)
 |[]=>[]
 |d::l=>decT d::decTs l
def funTs:List Fun→List (List Str)
 |[]=>[]
 |f::l=>funT1 f::funTs l
def funT1:Fun→List Str
 |.mk nm _ c=>funC nm c
def funC(nm:Str):Case→List Str
 |.mk p e=>[nm]++(patT p 2++([[61]]++expT e))
end
end Go.Am
namespace Go.Am
open Go
set_option linter.unusedVariables false
def caseS:List (Str × Str × Bool)→Bool→List Str
 |[],_=>[]
 |(p,e,o)::r,f=>(p++([32,61,62,32]++parS (!r.isEmpty&&o) e))::caseS r false
def atS(l:List (Str × Int))(i:Nat)(lv:Int):Str:=parS (decide ((l.getD i ([],9)).2<lv)) (l.getD i ([],9)).1
def tyS(t:Ty):Str:=textB (typT t 0)
def conS(c:Con):Str:=bif c.has then c.name++([32,111,102,32]++tyS c.arg) else c.name
def parmS(n:Int):Str:=bif decide (n=0) then [] else parS (decide (n>1)) (joinS [44,32] ((List.range n.toNat).map varT) true)++[32]
mutual
def expS:Exp→Str
 |.mk k _ nm n kids _ cases _ decs _=>
   bif decide (k=1) then digS n
   else bif decide (k=2) then nm
   else bif decide (k=3) then (bif decide (kids.length=0) then nm else nm++(32::atS (expSs kids) 0 9))
   else bif decide (k=4) then 40::(joinS [44,32] ((expSs kids).map (·.1)) true++[41])
   else bif decide (k=10) then 40::(joinS [59,32] ((expSs kids).map (·.1)) true++[41])
   else bif decide (k=5) then [102,110,32]++joinS [32,124,32] (caseS (caseSs cases) true) true
   else bif decide (k=7) then [108,101,116,32]++(((decSs decs).map (· ++ [32])).flatten++([105,110,32]++(((expSs kids).getD 0 ([],9)).1++[32,101,110,100])))
   else bif decide (k=8) then [105,102,32]++(((expSs kids).getD 0 ([],9)).1++([32,116,104,101,110,32]++(((expSs kids).getD 1 ([],9)).1++([32,101,108,115,101,32]++((expSs kids).getD 2 ([],9)).1))))
   else bif decide (k=9) then [99,97,115,101,32]++(((expSs kids).getD 0 ([],9)).1++([32,111,102,32]++joinS [32,124,32] (caseS (caseSs cases) true) true))
   else bif decide (k=11) then atS (expSs kids) 0 3++([32,104,97,110,100,108,101,32]++joinS [32,124,32] (caseS (caseSs cases) true) true)
   else bif decide (k=12) then [114,97,105,115,101,32]++((expSs kids).getD 0 ([],9)).1
   else bif decide (k=16) then [114,101,102,32]++atS (expSs kids) 0 9
   else bif decide (k=17) then [33]++atS (expSs kids) 0 9
   else bif decide (k=19) then [112,114,105,110,116,32]++atS (expSs kids) 0 9
   else bif decide (k=20) then [114,101,97,100,32,40,41]
   else bif decide (k=18) then parS (decide (((expSs kids).getD 0 ([],9)).2<2) || decide ((kids.headD (.mk 0 0 [] 0 [] true [] true [] true)).kind=11)) ((expSs kids).getD 0 ([],9)).1++([32,58,61,32]++atS (expSs kids) 1 1)
   else bif decide (k=15) then atS (expSs kids) 0 4++([32,111,114,101,108,115,101,32]++atS (expSs kids) 1 3)
   else bif decide (k=14) then atS (expSs kids) 0 5++([32,97,110,100,97,108,115,111,32]++atS (expSs kids) 1 4)
   else bif decide (k=6) then parS (decide (((expSs kids).getD 0 ([],9)).2<8) || bareE (kids.headD (.mk 0 0 [] 0 [] true [] true [] true))) ((expSs kids).getD 0 ([],9)).1++(32::atS (expSs kids) 1 9)
   else bif decide (n≥6) then atS (expSs kids) 0 6++(32::(opN n++(32::atS (expSs kids) 1 6)))
    else bif decide (n≤2) then atS (expSs kids) 0 6++(32::(opN n++(32::atS (expSs kids) 1 7))) else atS (expSs kids) 0 7++(32::(opN n++(32::atS (expSs kids) 1 8)))
def expSs:List Exp→List (Str × Int)
 |[]=>[]
 |e::l=>(expS e,levE e)::expSs l
def caseSs:List Case→List (Str × Str × Bool)
 |[]=>[]
 |c::l=>caseS1 c::caseSs l
def caseS1:Case→Str × Str × Bool
 |.mk p e=>(patS p,expS e,openE e)
def decS:Dec→Str
 |.mk k _ nm params cons _ cases _ funs _=>
   bif decide (k=1) then [118,97,108,32]++(((caseSs cases).headD ([],[],false)).1++([32,61,32]++((caseSs cases).headD ([],[],false)).2.1))
   else bif decide (k=4) then [101,120,99,101,112,116,105,111,110,32]++(cons.map conS).headD []
   else bif decide (k=3) then [100,97,116,97,116,121,112,101,32]++(parmS params++(nm++([32,61,32]++joinS [32,124,32] (cons.map conS) true)))
   else [102,117,110,32]++joinS [32,97,110,100,32] (funSs funs) true
def decSs:List Dec→List Str
 |[]=>[]
 |d::l=>decS d::decSs l
def funSs:List Fun→List Str
 |[]=>[]
 |f::l=>funS1 f::funSs l
def funS1:Fun→Str
 |.mk nm _ c=>funCS nm c
def funCS(nm:Str):Case→Str
 |.mk p e=>nm++(32::(parS (decide (patLv p<2)) (patS p)++([32,61,32]++expS e)))
end
structure ExpIs (k n:Int) (nm:Str) (nk nc nd:Int):Prop where
 kind:1≤k∧k≤20
 int:k=1→isIntB n=true
 var:k=2→lowB nm=true
 con:k=3→conB nm=true∧nk≤1
 tup:k=4→2≤nk∧nk≤8
 fn:k=5→nc≠0
 letd:k=7→nk=1∧nd≠0
 if_:k=8→nk=3
 case_:k=9→nk=1∧nc≠0
 seq:k=10→2≤nk
 try_:k=11→nk=1∧nc≠0
 one:k=12∨k=16∨k=17∨k=19→nk=1
 op:k=13→nk=2∧1≤n∧n≤9
 two:k=6∨k=14∨k=15∨k=18→nk=2
def wrongExpC(k n:Int)(nm:Str)(nk nc nd:Int):Int:=
 bif decide (k<1) || decide (k>20) || !(expLM k).name && !decide (nm=[]) || !(expLM k).n && !decide (n=0) || !(expLM k).cases&&decide (nc>0) || !(expLM k).decs&&decide (nd>0) || decide ((expLM k).most=0)&&decide (nk>0) then 29
 else bif decide (k=2) && !lowB nm || decide (k=3) && !conB nm then 8
 else bif decide (k=1) && !isIntB n || decide (k=13)&&(decide (n<1) || decide (n>9)) then 2
 else bif decide (nk<(expLM k).least) || decide (nk>(expLM k).most) || (expLM k).cases&&decide (nc=0) || (expLM k).decs&&decide (nd=0) then 19 else 0
theorem Qmd{k n:Int}{nm:Str}{nk nc nd:Int}(h:wrongExpC k n nm nk nc nd=0):ExpIs k n nm nk nc nd:=by
 have hk:1≤k∧k≤20:=by
  unfold wrongExpC at h
  by_cases h1:k<1
  ·rw[decide_eq_true h1] at h;simp at h
  ·by_cases h2:k>20
   ·rw[decide_eq_true h2] at h;simp at h
   ·omega
 have:k=1∨k=2∨k=3∨k=4∨k=5∨k=6∨k=7∨k=8∨k=9∨k=10∨k=11∨k=12∨k=13∨k=14∨k=15∨k=16∨k=17∨k=18∨k=19∨k=20:=by omega
 unfold wrongExpC expLM at h
 rcases this with rfl | rfl | rfl | rfl | rfl | rfl | rfl | rfl | rfl | rfl | rfl | rfl | rfl | rfl | rfl | rfl | rfl | rfl | rfl | rfl <;>
  (simp only[decide_true,cond_true,Int.reduceEq,decide_false,cond_false,Int.reduceLT,Int.reduceGT,Bool.or_false,Bool.false_or,Bool.or_true,Bool.true_or] at h;grind [ExpIs])
theorem Q9D{e:Exp}(h:wrongExpB e=0):ExpIs e.kind e.n e.name e.kids.length e.cases.length e.decs.length:=Qmd h
structure PatIs (k n:Int) (nm:Str) (nk:Int):Prop where
 kind:1≤k∧k≤6
 var:k=2→lowB nm=true
 int:k=3→isIntB n=true
 con:k=4→conB nm=true∧nk≤1
 tup:k=5→2≤nk∧nk≤8
 as_:k=6→lowB nm=true∧nk=1
 bare:k=1∨k=2∨k=3→nk≤0
def wrongPatC(k n:Int)(nm:Str)(nk:Int):Int:=
 bif decide (k<1) || decide (k>6) then 29
 else bif !(patLM k).1 && !decide (nm=[]) || !(patLM k).2.1 && !decide (n=0) || decide ((patLM k).2.2.2=0)&&decide (nk>0) then 29
 else bif decide (k=4) && !conB nm || (patLM k).1 && !decide (k=4) && !lowB nm then 8
 else bif (patLM k).2.1 && !isIntB n then 2
 else bif decide (nk<(patLM k).2.2.1) || decide (nk>(patLM k).2.2.2) then 19 else 0
theorem Qmw{k n:Int}{nm:Str}{nk:Int}(h:wrongPatC k n nm nk=0):PatIs k n nm nk:=by
 have hk:1≤k∧k≤6:=by
  unfold wrongPatC at h
  by_cases h1:k<1
  ·rw[decide_eq_true h1] at h;simp at h
  ·by_cases h2:k>6
   ·rw[decide_eq_true h2] at h;simp at h
   ·omega
 have:k=1∨k=2∨k=3∨k=4∨k=5∨k=6:=by omega
 unfold wrongPatC patLM at h
 rcases this with rfl | rfl | rfl | rfl | rfl | rfl <;>
  (simp only[decide_true,cond_true,Int.reduceEq,decide_false,cond_false,Int.reduceLT,Int.reduceGT,Bool.or_false,Bool.false_or,Bool.or_true,Bool.true_or] at h;grind [PatIs])
theorem Qc5{p:Pat}(h:wrongPatB p=0):PatIs p.kind p.n p.name p.kids.length:=Qmw h
theorem QkN{nm:Str}(h:(tyLM nm).2.2=true):(givenB nm).1=(tyLM nm).1∧(givenB nm).2.1=(tyLM nm).2.1∧((givenB nm).2.2 || lowB nm)=true:=by
 unfold tyLM at h ⊢
 unfold givenB
 revert h
 cases decide (nm=[105,110,116]) <;> cases decide (nm=[98,111,111,108]) <;> cases decide (nm=[117,110,105,116]) <;> cases decide (nm=[101,120,110]) <;> cases decide (nm=[114,101,102]) <;> cases decide (nm=[45,62]) <;> cases decide (nm=[42]) <;> cases lowB nm <;> intro h <;> first | exact⟨rfl,rfl,rfl⟩ | cases h
theorem Qlj{k n:Int}{nm:Str}{len:Int}(hl:0≤len)(h:wrongTyC k n nm len=0):goodC k n nm len (lowB nm)=true:=by
 unfold wrongTyC at h
 unfold goodC
 by_cases h1:k=1
 ·subst h1
  by_cases hn:nm=[]
  ·by_cases hz:len>0
   ·rw[decide_eq_true hn,decide_eq_true hz] at h;simp at h
   ·by_cases h0:n<0
    ·rw[decide_eq_true hn,decide_eq_false hz,decide_eq_true h0] at h;simp at h
    ·rw[decide_eq_true hn,decide_eq_true (show len=0 by omega),decide_eq_true (show n≥0 by omega)];rfl
  ·rw[decide_eq_false hn] at h;simp at h
 ·by_cases h2:k=2
  ·subst h2
   by_cases h0:n=0
   ·rw[decide_eq_true h0] at h ⊢
    simp only[Int.reduceEq,decide_false,decide_true,Bool.false_and,Bool.not_true,Bool.true_and,Bool.not_false,Bool.or_self,Bool.and_false,Bool.or_false,cond_false,cond_true] at h ⊢
    cases hq:(tyLM nm).2.2 with
    |false=>rw[hq] at h;simp at h
    |true=>
      obtain⟨q1,q2,q3⟩:=QkN hq
      rw[hq] at h
      by_cases b1:len<(tyLM nm).1
      ·rw[decide_eq_true b1] at h;simp at h
      ·by_cases b2:len>(tyLM nm).2.1
       ·rw[decide_eq_true b2] at h;simp at h
       ·rw[q3,decide_eq_true (show len≥(givenB nm).1 by omega),decide_eq_true (show len≤(givenB nm).2.1 by omega)];rfl
   ·rw[decide_eq_false h0] at h;simp at h
  ·rw[decide_eq_false h1,decide_eq_false h2] at h;simp at h
theorem QmD{t:Ty}(h:wrongTyB t=0):goodB t=true:=Qlj (by omega) h
mutual
theorem Q5r(a:Int):∀ t:Ty,(∀ n ∈ nodesTy a t,n.wrong.1=0)→allTy goodB t=true
 |.mk k n s l b,h=>by
   simp only[nodesTy,List.forall_mem_cons] at h
   simp only[allTy,Bool.and_eq_true]
   exact⟨QmD h.1,Qed a l h.2⟩
theorem Qed(a:Int):∀ l:List Ty,(∀ n ∈ nodesTys a l,n.wrong.1=0)→allTys goodB l=true
 |[],_=>rfl
 |t::l,h=>by
   simp only[nodesTys] at h
   simp only[allTys,Bool.and_eq_true]
   exact⟨Q5r a t λn hn=>h n (List.mem_append_left _ hn),Qed a l λn hn=>h n (List.mem_append_right _ hn)⟩
end
end Go.Am