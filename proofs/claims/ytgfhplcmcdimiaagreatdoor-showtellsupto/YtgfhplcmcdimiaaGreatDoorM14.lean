/- A part of the proof: SRx1, SRx2, SRx3, SRx4. -/
import Derived.Test.YtgfhplcmcdimiaaGreatDoorM11
import Derived.Test.YtgfhplcmcdimiaaGreatDoorM12
import Derived.Test.YtgfhplcmcdimiaaGreatDoorM13
set_option linter.unusedVariables false
set_option linter.unusedSimpArgs false
namespace Go.Proofs.YtgfhplcmcdimiaaGreatDoor
open Go Go.Am
set_option linter.unusedVariables false
set_option maxRecDepth 4000
section
variable {t1 t2 t3 t4 t5:TI} {a b c d e f:Str}
theorem adds2(h:a.length+b.length≤2^62):binS t1 .add (.val (.str a)) (.val (.str b))=some (.val (.str (a++b))):=Zi (by omega)
theorem adds3(h:a.length+b.length+c.length≤2^62):binS t1 .add (.val (.str a)) (.val (.str b))=some (.val (.str (a++b)))∧binS t2 .add (.val (.str (a++b))) (.val (.str c))=some (.val (.str (a++b++c))):=⟨Zi (by omega),Zi (by simp only[List.length_append];omega)⟩
theorem adds4(h:a.length+b.length+c.length+d.length≤2^62):binS t1 .add (.val (.str a)) (.val (.str b))=some (.val (.str (a++b)))∧binS t2 .add (.val (.str (a++b))) (.val (.str c))=some (.val (.str (a++b++c)))∧binS t3 .add (.val (.str (a++b++c))) (.val (.str d))=some (.val (.str (a++b++c++d))):=⟨Zi (by omega),Zi (by simp only[List.length_append];omega),Zi (by simp only[List.length_append];omega)⟩
theorem adds5(h:a.length+b.length+c.length+d.length+e.length≤2^62):binS t1 .add (.val (.str a)) (.val (.str b))=some (.val (.str (a++b)))∧binS t2 .add (.val (.str (a++b))) (.val (.str c))=some (.val (.str (a++b++c)))∧binS t3 .add (.val (.str (a++b++c))) (.val (.str d))=some (.val (.str (a++b++c++d)))∧binS t4 .add (.val (.str (a++b++c++d))) (.val (.str e))=some (.val (.str (a++b++c++d++e))):=⟨Zi (by omega),Zi (by simp only[List.length_append];omega),Zi (by simp only[List.length_append];omega),Zi (by simp only[List.length_append];omega)⟩
theorem adds6(h:a.length+b.length+c.length+d.length+e.length+f.length≤2^62):binS t1 .add (.val (.str a)) (.val (.str b))=some (.val (.str (a++b)))∧binS t2 .add (.val (.str (a++b))) (.val (.str c))=some (.val (.str (a++b++c)))∧binS t3 .add (.val (.str (a++b++c))) (.val (.str d))=some (.val (.str (a++b++c++d)))∧binS t4 .add (.val (.str (a++b++c++d))) (.val (.str e))=some (.val (.str (a++b++c++d++e)))∧binS t5 .add (.val (.str (a++b++c++d++e))) (.val (.str f))=some (.val (.str (a++b++c++d++e++f))):=⟨Zi (by omega),Zi (by simp only[List.length_append];omega),Zi (by simp only[List.length_append];omega),Zi (by simp only[List.length_append];omega),Zi (by simp only[List.length_append];omega)⟩
end
theorem Q1t(x:Str)(b:Bool)(h:x.length<2^60)(s:St):cw (.f Z7) [.str x,.bool b] s=some (.ret (.val (.str (parS b x))),s):=by
 obtain⟨b1,b2⟩:=adds3 (t1:=C.ti Q1) (t2:=C.ti Q1) (a:=[40]) (b:=x) (c:=[41]) (by simp only[List.length_singleton];omega)
 simp only[List.cons_append,List.nil_append] at b1 b2
 rw[Qcn]
 cases b with
 |true=>simp only[go_sem,b1,b2,parS]
 |false=>simp only[go_sem,parS]
theorem QaU(n:Int)(h:isIntB n=true)(s:St):cw (.f Q39) [.int .i64 n] s=some (.ret (.val (.str (digS n))),s):=by
 have hf:=Qd4 h
 rw[Qck]
 unfold digS
 cases hd:decide (n<0) with
 |true=>
   have hd':=of_decide_eq_true hd
   have hw:IntKind.i64.wrap (0 - n) = -n:=by rw[wrap64 (by omega) (by omega)];omega
   have e1:=Q4H (-n) (by omega) (by omega) s
   have hl:=Go.Lib.itoa_length_le (-n) (by omega) (by omega)
   have b1:=adds2 (t1:=C.ti Q1) (a:=[126]) (b:=Go.Lib.itoa (-n)) (by simp only[List.length_singleton];omega)
   simp only[List.cons_append,List.nil_append] at b1
   simp only[go_sem,hd,hw,e1,b1]
 |false=>
   have hd':=of_decide_eq_false hd
   have e1:=Q4H n (by omega) (by omega) s
   simp only[go_sem,hd,e1]
theorem QeM(p:Pat)(s:St):cw (.f Q3Y) [p.enc] s=some (.ret (.val (.int .i64 (patLv p))),s):=by
 have c:=Pat.cells_eq p
 have hz:decide ((p.kids.length:Int)>0)=decide (p.kids.length>0):=by
  by_cases h:p.kids.length>0
  ·rw[decide_eq_true h,decide_eq_true (by omega)]
  ·rw[decide_eq_false h,decide_eq_false (by omega)]
 rw[Qat]
 unfold patLv
 cases h6:decide (p.kind=6) with
 |true=>simp only[go_sem,Nat.reduceAdd,Nat.reduceLeDiff,c,h6]
 |false=>
   cases h4:decide (p.kind=4) with
   |false=>simp only[go_sem,Nat.reduceAdd,Nat.reduceLeDiff,c,h6,h4]
   |true=>
     cases hk:decide (p.kids.length>0) with
     |true=>rw[hk] at hz;simp only[go_sem,Nat.reduceAdd,Nat.reduceLeDiff,c,h6,h4,Q4,List.length_map,hz]
     |false=>rw[hk] at hz;simp only[go_sem,Nat.reduceAdd,Nat.reduceLeDiff,c,h6,h4,Q4,List.length_map,hz]
structure PartP (p:Pat):Prop where
 ok:∀ s,cw (.f Q14) [p.enc] s=some (.ret (.val (.str (patS p))),s)
 len:(patS p).length<2^40
theorem Q5v{p:Pat}(H:PartP p)(lv:Int)(s:St):cw (.f Q0y) [p.enc,.int .i64 lv] s=some (.ret (.val (.str (parS (decide (patLv p<lv)) (patS p)))),s):=by
 have e1:=H.ok s
 have e2:=QeM p s
 have e3:=λb=>Q1t (patS p) b (by have:=H.len;omega) s
 have c:=Pat.cells_eq p
 rw[Qgx]
 simp only[Pat.enc,c] at e1 e2
 simp only[go_sem,Nat.reduceAdd,Nat.reduceLeDiff,c,e1,e2,e3]
theorem Q9S(p:Pat)(hl:p.kids.length<2^40)(H:∀ q ∈ p.kids,PartP q)(s:St):∀ (suf pre:List Pat) (acc:Str) (i:Nat),pre++suf=p.kids→i=pre.length→acc.length+((patSs suf 0).map (·.length)).sum+10*suf.length<2^50→
  Q0T (p.cells.map .val) (.val (.str acc)) (.val (.int .i64 p.kids.length)) (.val (.int .i64 i)) s=some (.ret (.val (.str (40::(acc++joinS [44,32] (patSs suf 0) (decide (pre.length=0))++[41])))),s)
 |[],pre,acc,i,h,hi,hb=>by
   subst hi
   obtain⟨b1,b2⟩:=adds3 (t1:=C.ti Q1) (t2:=C.ti Q1) (a:=[40]) (b:=acc) (c:=[41]) (by simp only[List.length_singleton];omega)
   simp only[List.cons_append,List.nil_append] at b1 b2
   rw[Q59]
   simp only[go_sem,Pat.cells_eq p,Qa (by simpa using h),b1,b2,patSs,joinS,List.append_nil]
 |q::suf,pre,acc,i,h,hi,hb=>by
   subst hi
   have c:=Pat.cells_eq p
   have cq:=Pat.cells_eq q
   obtain⟨f1,f2,f3⟩:=Q9 (x:=.val (encS p.kb (p.kids.map Pat.enc))) (Q4 _ _) h (by omega) (Pat.cells_len q) (by decide)
   have e1:=Q5v (H q (by rw[←h];simp)) 0 s
   have hu:patSs (q::suf) 0=parS (decide (patLv q<0)) (patS q)::patSs suf 0:=rfl
   rw[hu] at hb ⊢
   simp only[List.map_cons,List.sum_cons,List.length_cons] at hb
   have hd1:decide ((pre++[q]).length=0)=false:=decide_eq_false (by simp)
   have IH:=λ(acc':Str) (hb':acc'.length+((patSs suf 0).map (·.length)).sum+10*suf.length<2^50)=>Q9S p hl H s suf (pre++[q]) acc' (pre.length+1) (by simpa using h) (by simp) hb'
   rw[hd1] at IH
   generalize parS (decide (patLv q<0)) (patS q)=y at *
   rw[Q59]
   simp only[Pat.enc,cq] at e1 f2
   cases hz:decide (pre.length=0) with
   |true=>
     have hz':=of_decide_eq_true hz
     have z:decide ((pre.length:Int)>0)=false:=decide_eq_false (by omega)
     have b1:=adds2 (t1:=C.ti Q1) (a:=acc) (b:=y) (by omega)
     have ih:=IH (acc++y) (by simp only[List.length_append];omega)
     simp only[go_sem,Nat.reduceAdd,Nat.reduceLeDiff,c,f1,f2,f3,z,Q58,e1,b1,joinS,List.append_assoc] at ih ⊢
     exact ih
   |false=>
     have hz':=of_decide_eq_false hz
     have z:decide ((pre.length:Int)>0)=true:=decide_eq_true (by omega)
     obtain⟨b1,b2⟩:=adds3 (t1:=C.ti Q1) (t2:=C.ti Q1) (a:=acc) (b:=[44,32]) (c:=y) (by simp only[List.length_cons,List.length_nil];omega)
     have ih:=IH (acc++[44,32]++y) (by simp only[List.length_append,List.length_cons,List.length_nil];omega)
     simp only[go_sem,Nat.reduceAdd,Nat.reduceLeDiff,c,f1,f2,f3,z,Q58,e1,b1,b2,joinS,List.append_assoc] at ih ⊢
     exact ih
theorem Qmx(p:Pat):patS p =
  bif decide (p.kind=1) then [95]
  else bif decide (p.kind=3) then digS p.n
  else bif decide (p.kind=6) then p.name++([32,97,115,32]++(patSs p.kids 0).getD 0 [])
  else bif decide (p.kind=5) then 40::(joinS [44,32] (patSs p.kids 0) true++[41])
  else bif decide (p.kids.length>0) then p.name++(32::(patSs p.kids 2).getD 0 [])
  else p.name:=by cases p;simp only[patS];rfl
theorem Qgj{kids:List Pat}{q:Pat}(h:kids[0]? = some q)(lv:Int):(patSs kids lv).getD 0 []=parS (decide (patLv q<lv)) (patS q):=by
 rw[Q5P]
 simp[List.getD_eq_getElem?_getD,h]
theorem QaW:∀ (m:Nat) (p:Pat),p.size≤m→p.size<2^26→(∀ n ∈ nodesPat p,n.wrong.1=0)→PartP p
 |0,p,h,_,_=>by cases p;simp only[Pat.size] at h;omega
 |m+1,p,h,hb,hr=>by
   have hsz:Pat.sizes p.kids+1=p.size:=by cases p;simp only[Pat.size,Pat.kids]
   have hlen:=Pat.len_sizes p.kids
   have hL:=Q44 p.size p (Nat.le_refl _) hr
   have hr2:wrongPatB p=0∧∀ nd ∈ nodesPats p.kids,nd.wrong.1=0:=by
    cases p with
    |mk k a nm n kids b=>
      simp only[nodesPat,List.forall_mem_cons] at hr
      exact hr
   have I:=Qc5 hr2.1
   have HV:∀ q ∈ p.kids,PartP q:=λq hq=>by
    have:=Pat.mem_sizes hq
    exact QaW m q (by omega) (by omega) (pats_wrong hr2.2 q hq)
   have HL:∀ q ∈ p.kids,(patS q).length+20≤500*q.size:=λq hq=>Q44 q.size q (Nat.le_refl _) (pats_wrong hr2.2 q hq)
   have S0:=Q9R HL 0
   have c:=Pat.cells_eq p
   refine⟨λs=>?_,by omega⟩
   rw[Qmx,Qbw]
   cases h1:decide (p.kind=1) with
   |true=>simp only[go_sem,Nat.reduceAdd,Nat.reduceLeDiff,c,h1]
   |false=>
     cases h3:decide (p.kind=3) with
     |true=>
       have e1:=QaU p.n (I.int (of_decide_eq_true h3)) s
       simp only[go_sem,Nat.reduceAdd,Nat.reduceLeDiff,c,h1,h3,e1]
     |false=>
       cases h6:decide (p.kind=6) with
       |true=>
         obtain⟨q,hq⟩:∃ q,p.kids[0]? = some q:=⟨p.kids[0]'(by have:=(I.as_ (of_decide_eq_true h6)).2;omega),by simp⟩
         have hqm:=List.mem_of_getElem? hq
         have f0:=Q88 p hq
         rw[show ((0:Nat):Int)=0 from rfl] at f0
         have e1:=Q5v (HV q hqm) 0 s
         have hn:=Q3i (I.as_ (of_decide_eq_true h6)).1
         have hq2:=Q0q (decide (patLv q<0)) (patS q)
         have hq3:=(HV q hqm).len
         simp only[Qgj hq]
         have cq:=Pat.cells_eq q
         simp only[Pat.enc,cq] at e1 f0
         generalize parS (decide (patLv q<0)) (patS q)=y at *
         obtain⟨b1,b2⟩:=adds3 (t1:=C.ti Q1) (t2:=C.ti Q1) (a:=p.name) (b:=[32,97,115,32]) (c:=y) (by simp only[List.length_cons,List.length_nil];omega)
         simp only[go_sem,Nat.reduceAdd,Nat.reduceLeDiff,c,h1,h3,h6,f0,e1,b1,b2]
       |false=>
         cases h5:decide (p.kind=5) with
         |true=>
           have e1:=Q9S p (by omega) HV s p.kids [] [] 0 rfl rfl (by simp only[List.length_nil];omega)
           rw[show ((0:Nat):Int)=0 from rfl] at e1
           simp only[go_sem,Nat.reduceAdd,Nat.reduceLeDiff,c,h1,h3,h6,h5,Q4,List.length_map,List.nil_append,List.length_nil,decide_true] at e1 ⊢
           exact e1
         |false=>
           cases hk:decide (p.kids.length>0) with
           |false=>
             have hk':decide ((p.kids.length:Int)>0)=false:=decide_eq_false (by have:=of_decide_eq_false hk;omega)
             simp only[go_sem,Nat.reduceAdd,Nat.reduceLeDiff,c,h1,h3,h6,h5,Q4,List.length_map,hk']
           |true=>
             have hk0:=of_decide_eq_true hk
             have hk':decide ((p.kids.length:Int)>0)=true:=decide_eq_true (by omega)
             obtain⟨q,hq⟩:∃ q,p.kids[0]? = some q:=⟨p.kids[0],by simp[hk0]⟩
             have hqm:=List.mem_of_getElem? hq
             have f0:=Q88 p hq
             rw[show ((0:Nat):Int)=0 from rfl] at f0
             have e1:=Q5v (HV q hqm) 2 s
             have hkn:p.kind=2∨p.kind=4:=by
              have:=I.kind
              have:=of_decide_eq_false h1
              have:=of_decide_eq_false h3
              have:=of_decide_eq_false h6
              have:=of_decide_eq_false h5
              omega
             have hn:p.name.length≤32:=by
              rcases hkn with hk | hk
              ·exact Q3i (I.var hk)
              ·exact Qae (I.con hk).1
             have hq2:=Q0q (decide (patLv q<2)) (patS q)
             have hq3:=(HV q hqm).len
             simp only[Qgj hq]
             have cq:=Pat.cells_eq q
             simp only[Pat.enc,cq] at e1 f0
             generalize parS (decide (patLv q<2)) (patS q)=y at *
             obtain⟨b1,b2⟩:=adds3 (t1:=C.ti Q1) (t2:=C.ti Q1) (a:=p.name) (b:=[32]) (c:=y) (by simp only[List.length_cons,List.length_nil];omega)
             simp only[List.append_assoc,List.cons_append,List.nil_append] at b1 b2
             simp only[go_sem,Nat.reduceAdd,Nat.reduceLeDiff,c,h1,h3,h6,h5,Q4,List.length_map,hk',f0,e1,b1,b2]
end Go.Proofs.YtgfhplcmcdimiaaGreatDoor
namespace Go.Proofs.YtgfhplcmcdimiaaGreatDoor
open Go Go.Am
set_option linter.unusedVariables false
set_option maxRecDepth 4000
theorem Q4D(e:Exp)(s:St):cw (.f Zz) [e.enc] s=some (.ret (.val (.int .i64 (levE e))),s):=by
 have c:=Exp.cells_eq e
 have hz:decide ((e.kids.length:Int)>0)=decide (e.kids.length>0):=by
  by_cases h:e.kids.length>0
  ·rw[decide_eq_true h,decide_eq_true (by omega)]
  ·rw[decide_eq_false h,decide_eq_false (by omega)]
 rw[Qdq,Qd7]
 cases h12:decide (e.kind=12) with
 |true=>simp only[go_sem,Nat.reduceAdd,c,h12,Qt,Bool.true_or,cond_true]
 |false=>
 cases h5:decide (e.kind=5) with
 |true=>simp only[go_sem,Nat.reduceAdd,c,h12,h5,Qt,Bool.true_or,Bool.or_true,Bool.false_or,cond_true]
 |false=>
 cases h8:decide (e.kind=8) with
 |true=>simp only[go_sem,Nat.reduceAdd,c,h12,h5,h8,Qt,Bool.true_or,Bool.or_true,Bool.false_or,cond_true]
 |false=>
 cases h9:decide (e.kind=9) with
 |true=>simp only[go_sem,Nat.reduceAdd,c,h12,h5,h8,h9,Qt,Bool.true_or,Bool.or_true,Bool.false_or,cond_true]
 |false=>
 cases h18:decide (e.kind=18) with
 |true=>simp only[go_sem,Nat.reduceAdd,c,h12,h5,h8,h9,h18,Qt,Bool.true_or,Bool.or_true,Bool.false_or,cond_true,cond_false]
 |false=>
 cases h11:decide (e.kind=11) with
 |true=>simp only[go_sem,Nat.reduceAdd,c,h12,h5,h8,h9,h18,h11,Qt,Bool.true_or,Bool.or_true,Bool.false_or,cond_true,cond_false]
 |false=>
 cases h15:decide (e.kind=15) with
 |true=>simp only[go_sem,Nat.reduceAdd,c,h12,h5,h8,h9,h18,h11,h15,Qt,Bool.true_or,Bool.or_true,Bool.false_or,cond_true,cond_false]
 |false=>
 cases h14:decide (e.kind=14) with
 |true=>simp only[go_sem,Nat.reduceAdd,c,h12,h5,h8,h9,h18,h11,h15,h14,Qt,Bool.true_or,Bool.or_true,Bool.false_or,cond_true,cond_false]
 |false=>
 cases h6:decide (e.kind=6) with
 |true=>simp only[go_sem,Nat.reduceAdd,c,h12,h5,h8,h9,h18,h11,h15,h14,h6,Qt,QP,Bool.true_or,Bool.or_true,Bool.false_or,cond_true,cond_false]
 |false=>
 cases h16:decide (e.kind=16) with
 |true=>simp only[go_sem,Nat.reduceAdd,c,h12,h5,h8,h9,h18,h11,h15,h14,h6,h16,Qt,QP,Bool.true_or,Bool.or_true,Bool.false_or,cond_true,cond_false]
 |false=>
 cases h17:decide (e.kind=17) with
 |true=>simp only[go_sem,Nat.reduceAdd,c,h12,h5,h8,h9,h18,h11,h15,h14,h6,h16,h17,Qt,QP,Bool.true_or,Bool.or_true,Bool.false_or,cond_true,cond_false]
 |false=>
 cases h19:decide (e.kind=19) with
 |true=>simp only[go_sem,Nat.reduceAdd,c,h12,h5,h8,h9,h18,h11,h15,h14,h6,h16,h17,h19,Qt,QP,Bool.true_or,Bool.or_true,Bool.false_or,cond_true,cond_false]
 |false=>
 cases h13:decide (e.kind=13) with
 |true=>
   cases hn6:decide (e.n≥6) with
   |true=>simp only[go_sem,Nat.reduceAdd,c,h12,h5,h8,h9,h18,h11,h15,h14,h6,h16,h17,h19,h13,hn6,Qt,QP,Bool.false_or,cond_true,cond_false]
   |false=>
     cases hn2:decide (e.n≤2) with
     |true=>simp only[go_sem,Nat.reduceAdd,c,h12,h5,h8,h9,h18,h11,h15,h14,h6,h16,h17,h19,h13,hn6,hn2,Qt,QP,Bool.false_or,cond_true,cond_false]
     |false=>simp only[go_sem,Nat.reduceAdd,c,h12,h5,h8,h9,h18,h11,h15,h14,h6,h16,h17,h19,h13,hn6,hn2,Qt,QP,Bool.false_or,cond_true,cond_false]
 |false=>
 cases h3:decide (e.kind=3) with
 |false=>simp only[go_sem,Nat.reduceAdd,c,h12,h5,h8,h9,h18,h11,h15,h14,h6,h16,h17,h19,h13,h3,Qt,QP,Bool.false_or,Bool.false_and,cond_true,cond_false]
 |true=>
   cases hk:decide (e.kids.length>0) with
   |true=>rw[hk] at hz;simp only[go_sem,Nat.reduceAdd,c,h12,h5,h8,h9,h18,h11,h15,h14,h6,h16,h17,h19,h13,h3,Q4,List.length_map,hz,Qt,QP,Bool.false_or,Bool.true_and,cond_true,cond_false]
   |false=>rw[hk] at hz;simp only[go_sem,Nat.reduceAdd,c,h12,h5,h8,h9,h18,h11,h15,h14,h6,h16,h17,h19,h13,h3,Q4,List.length_map,hz,Qt,QP,Bool.false_or,Bool.true_and,cond_true,cond_false]
theorem QdG:∀ (m:Nat) (e:Exp),e.size≤m→RN (nodesExp e)→∀ s:St,cw (.f Q0a) [e.enc] s=some (.ret (.val (.bool (openE e))),s)
 |0,e,h,_=>by have:=Q8B e;omega
 |m+1,e,h,hr=>λs=>by
   have hsz:=Q8B e
   have I:=Q7x hr
   obtain⟨hk,-,-⟩:=QfF hr
   have HV:∀ q ∈ e.kids,∀ s,cw (.f Q0a) [q.enc] s=some (.ret (.val (.bool (openE q))),s):=λq hq=>by
    have:=Exp.mem_sizes hq
    exact QdG m q (by omega) (hk q hq)
   have c:=Exp.cells_eq e
   rw[Qgg,QeV]
   cases h5:decide (e.kind=5) with
   |true=>simp only[go_sem,Nat.reduceAdd,c,h5,Ze,cond_true,cond_false,Bool.true_or,Bool.or_true,Bool.false_or]
   |false=>
     cases h9:decide (e.kind=9) with
     |true=>simp only[go_sem,Nat.reduceAdd,c,h5,h9,Ze,cond_true,cond_false,Bool.true_or,Bool.or_true,Bool.false_or]
     |false=>
       cases h11:decide (e.kind=11) with
       |true=>simp only[go_sem,Nat.reduceAdd,c,h5,h9,h11,Ze,cond_true,cond_false,Bool.true_or,Bool.or_true,Bool.false_or]
       |false=>
         have last:∀ n:Nat,e.kids.length=n+1→∃ q,e.kids[n]? = some q∧(openEs e.kids).getLastD false=openE q:=λn hn=>by
          rw[Q4G];exact QhO hn
         cases h12:decide (e.kind=12) with
         |true=>
           obtain⟨q,hq,hl⟩:=last 0 (by have:=I.one (.inl (of_decide_eq_true h12));omega)
           have f0:=ZI e hq
           have e1:=HV q (List.mem_of_getElem? hq) s
           have hn1:((e.kids.length:Nat):Int)=1:=by have:=I.one (.inl (of_decide_eq_true h12));omega
           have w:IntKind.i64.wrap 0=0:=rfl
           rw[show ((0:Nat):Int)=0 from rfl] at f0
           simp only[Exp.enc] at e1
           simp only[go_sem,Int.reduceSub,Nat.reduceAdd,Nat.reduceLeDiff,c,h5,h9,h11,h12,Ze,Q0Q,Q4,List.length_map,hn1,w,f0,e1,hl]
         |false=>
           cases h8:decide (e.kind=8) with
           |true=>
             obtain⟨q,hq,hl⟩:=last 2 (by have:=I.if_ (of_decide_eq_true h8);omega)
             have f0:=ZI e hq
             have e1:=HV q (List.mem_of_getElem? hq) s
             have hn1:((e.kids.length:Nat):Int)=3:=by have:=I.if_ (of_decide_eq_true h8);omega
             have w:IntKind.i64.wrap 2=2:=rfl
             rw[show ((2:Nat):Int)=2 from rfl] at f0
             simp only[Exp.enc] at e1
             simp only[go_sem,Int.reduceSub,Nat.reduceAdd,Nat.reduceLeDiff,c,h5,h9,h11,h12,h8,Ze,Q0Q,Q4,List.length_map,hn1,w,f0,e1,hl]
           |false=>
             cases h18:decide (e.kind=18) with
             |true=>
               obtain⟨x,y,hxy⟩:∃ x y,e.kids=[x,y]:=QcJ (by have:=I.two (.inr (.inr (.inr (of_decide_eq_true h18))));omega)
               have f1:=ZI e (i:=1) (q:=y) (by rw[hxy];rfl)
               have hym:y ∈ e.kids:=by rw[hxy];simp
               have e1:=Q4D y s
               have e2:=HV y hym s
               have a1:(e.kids.map levE).getD 1 0=levE y:=by rw[hxy];rfl
               have a2:(openEs e.kids).getD 1 false=openE y:=by rw[Q4G,hxy];rfl
               rw[show ((1:Nat):Int)=1 from rfl] at f1
               rw[a1,a2]
               simp only[Exp.enc] at e1 e2
               cases hg:decide (levE y>0) with
               |true=>simp only[go_sem,Nat.reduceAdd,Nat.reduceLeDiff,c,h5,h9,h11,h12,h8,h18,Ze,Q0Q,f1,e1,hg,e2]
               |false=>simp only[go_sem,Nat.reduceAdd,Nat.reduceLeDiff,c,h5,h9,h11,h12,h8,h18,Ze,Q0Q,f1,e1,hg]
             |false=>simp only[go_sem,Nat.reduceAdd,c,h5,h9,h11,h12,h8,h18,Ze,Q0Q]
structure PartX (e:Exp):Prop where
 ok:∀ s,cw (.f Zl) [e.enc] s=some (.ret (.val (.str (expS e))),s)
 rn:RN (nodesExp e)
 len:(expS e).length<2^40
theorem Q1r{e:Exp}(H:PartX e)(lv:Int)(s:St):cw (.f Qv) [e.enc,.int .i64 lv] s=some (.ret (.val (.str (parS (decide (levE e<lv)) (expS e)))),s):=by
 have e1:=H.ok s
 have e2:=Q4D e s
 have e3:=λb=>Q1t (expS e) b (by have:=H.len;omega) s
 have c:=Exp.cells_eq e
 rw[Qgw]
 simp only[Exp.enc,c] at e1 e2
 simp only[go_sem,Nat.reduceAdd,Nat.reduceLeDiff,c,e1,e2,e3]
theorem QkM(e:Exp):decide (levE e<0)=false:=by
 rw[Qd7]
 cases decide (e.kind=12) || decide (e.kind=5) || decide (e.kind=8) || decide (e.kind=9) <;> cases decide (e.kind=18) <;> cases decide (e.kind=11) <;> cases decide (e.kind=15) <;> cases decide (e.kind=14) <;> cases decide (e.kind=6) || decide (e.kind=16) || decide (e.kind=17) || decide (e.kind=19) <;> cases decide (e.kind=13) <;> cases decide (e.n≥6) <;> cases decide (e.n≤2) <;> cases decide (e.kind=3)&&decide (e.kids.length>0) <;> rfl
theorem Q17{e:Exp}(H:PartX e)(s:St):cw (.f Qv) [e.enc,.int .i64 0] s=some (.ret (.val (.str (expS e))),s):=by
 rw[Q1r H 0 s,QkM];rfl
theorem Qmv(n:Int)(hn:1≤n∧n≤9)(s:St):cw (.f Q6D) [.int .i64 n] s=some (.ret (.val (.str (32::(opN n++[32])))),s):=by
 have hl:=Qda n
 obtain⟨b1,b2⟩:=adds3 (t1:=C.ti Q1) (t2:=C.ti Q1) (a:=[32]) (b:=opN n) (c:=[32]) (by simp only[List.length_singleton];omega)
 have f0:ixS 1 (.full [.str [],.str [43],.str [45],.str [42],.str [100,105,118],.str [109,111,100],.str [61],.str [60,62],.str [60],.str [60,61]]) (.val (.int .i64 n))=some (.val (.cp [.str (opN n)])):=by
  have:n=1∨n=2∨n=3∨n=4∨n=5∨n=6∨n=7∨n=8∨n=9:=by omega
  rcases this with rfl | rfl | rfl | rfl | rfl | rfl | rfl | rfl | rfl <;> rfl
 simp only[List.append_assoc,List.cons_append,List.nil_append] at b1 b2
 rw[Qhk]
 simp only[go_sem,Nat.reduceAdd,Nat.reduceLeDiff,f0,b1,b2]
theorem ZG{l:List Exp}{b:Bool}{i:Nat}{q:Exp}(hi:l[i]? = some q):ixS 7 (.val (encS b (l.map Exp.enc))) (.val (.int .i64 (i:Int)))=some (.val (.cp q.cells)):=
 Q2A (Q4 _ _) (show (l.map Exp.enc)[i]? = some q.enc by simp[hi]) (Exp.cells_len q) (by decide)
theorem Qeh(l:List Exp)(b:Bool)(sep:Str)(hsep:sep.length≤5)(hl:l.length<2^40)(H:∀ q ∈ l,PartX q)(s:St):∀ (suf pre:List Exp) (acc:Str) (i:Nat),pre++suf=l→i=pre.length→acc.length+((suf.map expS).map (·.length)).sum+10*suf.length<2^50→
  Q2s (.val (encS b (l.map Exp.enc))) (.val (.str sep)) (.val (.str acc)) (.val (.int .i64 l.length)) (.val (.int .i64 i)) s=some (.ret (.val (.str (40::(acc++joinS sep (suf.map expS) (decide (pre.length=0))++[41])))),s)
 |[],pre,acc,i,h,hi,hb=>by
   subst hi
   obtain⟨b1,b2⟩:=adds3 (t1:=C.ti Q1) (t2:=C.ti Q1) (a:=[40]) (b:=acc) (c:=[41]) (by simp only[List.length_singleton];omega)
   simp only[List.cons_append,List.nil_append] at b1 b2
   rw[Q7g]
   simp only[go_sem,Qa (by simpa using h),b1,b2,List.map_nil,joinS,List.append_nil]
 |q::suf,pre,acc,i,h,hi,hb=>by
   subst hi
   have cq:=Exp.cells_eq q
   obtain⟨f1,f2,f3⟩:=Q9 (x:=.val (encS b (l.map Exp.enc))) (Q4 _ _) h (by omega) (Exp.cells_len q) (by decide)
   have e1:=Q17 (H q (by rw[←h];simp)) s
   simp only[List.map_cons,List.sum_cons,List.length_cons] at hb ⊢
   have hd1:decide ((pre++[q]).length=0)=false:=decide_eq_false (by simp)
   have IH:=λ(acc':Str) (hb':acc'.length+((suf.map expS).map (·.length)).sum+10*suf.length<2^50)=>Qeh l b sep hsep hl H s suf (pre++[q]) acc' (pre.length+1) (by simpa using h) (by simp) hb'
   rw[hd1] at IH
   generalize expS q=y at *
   rw[Q7g]
   simp only[Exp.enc,cq] at e1 f2
   cases hz:decide (pre.length=0) with
   |true=>
     have hz':=of_decide_eq_true hz
     have z:decide ((pre.length:Int)>0)=false:=decide_eq_false (by omega)
     have b1:=adds2 (t1:=C.ti Q1) (a:=acc) (b:=y) (by omega)
     have ih:=IH (acc++y) (by simp only[List.length_append];omega)
     simp only[go_sem,Nat.reduceAdd,Nat.reduceLeDiff,f1,f2,f3,z,Q7f,e1,b1,joinS,List.append_assoc] at ih ⊢
     exact ih
   |false=>
     have hz':=of_decide_eq_false hz
     have z:decide ((pre.length:Int)>0)=true:=decide_eq_true (by omega)
     obtain⟨b1,b2⟩:=adds3 (t1:=C.ti Q1) (t2:=C.ti Q1) (a:=acc) (b:=sep) (c:=y) (by omega)
     have ih:=IH (acc++sep++y) (by simp only[List.length_append];omega)
     simp only[go_sem,Nat.reduceAdd,Nat.reduceLeDiff,f1,f2,f3,z,Q7f,e1,b1,b2,joinS,List.append_assoc] at ih ⊢
     exact ih
theorem QjG(l:List Exp)(b:Bool)(sep:Str)(hsep:sep.length≤5)(hl:l.length<2^30)(H:∀ q ∈ l,PartX q)(hs:((l.map expS).map (·.length)).sum<2^45)(s:St):cw (.f Q1B) [encS b (l.map Exp.enc),.str sep] s=some (.ret (.val (.str (40::(joinS sep (l.map expS) true++[41])))),s):=by
 have e1:=Qeh l b sep hsep (by omega) H s l [] [] 0 rfl rfl (by simp only[List.length_nil];omega)
 rw[show ((0:Nat):Int)=0 from rfl] at e1
 rw[QeX]
 simp only[go_sem,Q4,List.length_map,List.length_nil,List.nil_append,decide_true] at e1 ⊢
 exact e1
structure PartY (c:Case):Prop where
 p:PartP c.pat
 e:PartX c.exp
def caseY(c:Case)(last:Bool):Str:=patS c.pat++([32,61,62,32]++parS (!last&&openE c.exp) (expS c.exp))
theorem Qh2(c:Case)(l:List Case)(f:Bool):caseS (caseSs (c::l)) f=caseY c l.isEmpty::caseS (caseSs l) false:=by
 rw[Q08,Q08]
 simp only[List.map_cons,caseS,caseY]
 cases l <;> rfl
theorem Q8Q(p:Pat):decide (patLv p<0)=false:=by
 unfold patLv
 cases decide (p.kind=6) <;> cases decide (p.kind=4)&&decide (p.kids.length>0) <;> rfl
theorem QbT(cs:List Case)(b:Bool)(hl:cs.length<2^40)(H:∀ c ∈ cs,PartY c)(s:St):∀ (suf pre:List Case) (acc:Str) (i:Nat),pre++suf=cs→i=pre.length→acc.length+((caseSs suf).map λx=>x.1.length+x.2.1.length+10).sum<2^50→
  Q1Z (.val (encS b (cs.map Case.enc))) (.val (.str acc)) (.val (.int .i64 cs.length)) (.val (.int .i64 i)) s=some (.ret (.val (.str (acc++joinS [32,124,32] (caseS (caseSs suf) true) (decide (pre.length=0))))),s)
 |[],pre,acc,i,h,hi,hb=>by
   subst hi
   have hn:caseSs []=[]:=by rw[caseSs]
   rw[Q6t,hn]
   simp only[go_sem,Qa (by simpa using h),caseS,joinS,List.append_nil]
 |c::suf,pre,acc,i,h,hi,hb=>by
   subst hi
   obtain⟨f1,f2',f3⟩:=Q9 (x:=.val (encS b (cs.map Case.enc))) (Q4 _ _) h (by omega) (Case.cells_len c) (by decide)
   have f2:ixS 12 (.val (encS b (cs.map Case.enc))) (.val (.int .i64 (pre.length:Int)))=some (.val (.cp c.cells)):=f2'
   clear f2'
   have hc:=H c (by rw[←h];simp)
   have cc:c.cells=_:=Case.cells_eq c
   have cp:=Pat.cells_eq c.pat
   have ce:=Exp.cells_eq c.exp
   have e1:=Q5v hc.p 0 s
   rw[Q8Q] at e1
   have e2:=hc.e.ok s
   have e3:=QdG c.exp.size c.exp (Nat.le_refl _) hc.e.rn s
   have e4:=λb=>Q1t (expS c.exp) b (by have:=hc.e.len;omega) s
   have hlen:cs.length=pre.length+1+suf.length:=by rw[←h];simp;omega
   have w1:IntKind.i64.wrap ((cs.length:Int) - 1)=((cs.length - 1:Nat):Int):=by rw[wrap64 (by omega) (by omega)];omega
   have hlast:decide ((pre.length:Int)<((cs.length - 1:Nat):Int)) = !suf.isEmpty:=by
    cases suf with
    |nil=>simp at hlen;exact decide_eq_false (by omega)
    |cons x l=>simp at hlen;exact decide_eq_true (by omega)
   have hsum:((caseSs (c::suf)).map λx=>x.1.length+x.2.1.length+10).sum=(patS c.pat).length+(expS c.exp).length+10+((caseSs suf).map λx=>x.1.length+x.2.1.length+10).sum:=by
    rw[Q08,Q08];rfl
   rw[hsum] at hb
   rw[Qh2]
   have hy:∀ l,caseS (caseSs suf) false=l→caseS (caseSs suf) true=l:=by
    intro l hl
    rw[←hl]
    cases hq:caseSs suf with
    |nil=>rfl
    |cons x l=>obtain⟨p,e,o⟩:=x;rfl
   have hsame:=hy _ rfl
   have hd1:decide ((pre++[c]).length=0)=false:=decide_eq_false (by simp)
   have IH:=λ(acc':Str) (hb':acc'.length+((caseSs suf).map λx=>x.1.length+x.2.1.length+10).sum<2^50)=>QbT cs b hl H s suf (pre++[c]) acc' (pre.length+1) (by simpa using h) (by simp) hb'
   rw[hd1,hsame] at IH
   have hw:=Q0q (!suf.isEmpty&&openE c.exp) (expS c.exp)
   have hpz:parS false (patS c.pat)=patS c.pat:=rfl
   rw[hpz] at e1
   unfold caseY
   rw[Q6t]
   rw[cc,cp,ce] at f2
   simp only[List.cons_append,List.nil_append] at f2
   simp only[Pat.enc,cp] at e1
   simp only[Exp.enc,ce] at e2 e3
   have J:∀ acc1:Str,acc1.length+(patS c.pat).length+(expS c.exp).length+7+((caseSs suf).map λx=>x.1.length+x.2.1.length+10).sum<2^50→
     Q1Y (.val (encS b (cs.map Case.enc))) (.val (.str acc1)) (.val (.int .i64 pre.length)) (.val (.int .i64 cs.length)) (.val (.int .i64 pre.length)) s=some (.ret (.val (.str (acc1++(patS c.pat++([32,61,62,32]++parS (!suf.isEmpty&&openE c.exp) (expS c.exp)))++joinS [32,124,32] (caseS (caseSs suf) false) false))),s):=λacc1 hb1=>by
    have ih:=IH (acc1++(patS c.pat++([32,61,62,32]++parS (!suf.isEmpty&&openE c.exp) (expS c.exp)))) (by simp only[List.length_append,List.length_cons,List.length_nil];omega)
    obtain⟨b1,b2,b3⟩:=adds4 (t1:=C.ti Q1) (t2:=C.ti Q1) (t3:=C.ti Q1) (a:=acc1) (b:=patS c.pat) (c:=[32,61,62,32]) (d:=parS (!suf.isEmpty&&openE c.exp) (expS c.exp)) (by simp only[List.length_cons,List.length_nil];omega)
    simp only[List.append_assoc,List.cons_append,List.nil_append] at b1 b2 b3 ih
    rw[Qar]
    cases hs:suf.isEmpty with
    |true=>
      rw[hs] at hlast b3 ih
      simp only[Bool.not_true,Bool.false_and] at hlast b3 ih
      have e5:=e4 false
      simp only[go_sem,Nat.reduceAdd,Nat.reduceLeDiff,f2,f3,e1,b1,b2,e2,Q4,List.length_map,w1,hlast,e5,b3,ih,List.append_assoc,List.cons_append,List.nil_append]
    |false=>
      rw[hs] at hlast b3 ih
      simp only[Bool.not_false,Bool.true_and] at hlast b3 ih
      have e5:=e4 (openE c.exp)
      simp only[go_sem,Nat.reduceAdd,Nat.reduceLeDiff,f2,f3,e1,b1,b2,e2,Q4,List.length_map,w1,hlast,e3,e5,b3,ih,List.append_assoc,List.cons_append,List.nil_append]
   cases hz:decide (pre.length=0) with
   |true=>
     have hz':=of_decide_eq_true hz
     have z:decide ((pre.length:Int)>0)=false:=decide_eq_false (by omega)
     have j:=J acc (by omega)
     simp only[go_sem,f1,z,j,joinS,List.append_assoc,List.cons_append,List.nil_append]
   |false=>
     have hz':=of_decide_eq_false hz
     have z:decide ((pre.length:Int)>0)=true:=decide_eq_true (by omega)
     have b1:=adds2 (t1:=C.ti Q1) (a:=acc) (b:=[32,124,32]) (by simp only[List.length_cons,List.length_nil];omega)
     have j:=J (acc++[32,124,32]) (by simp only[List.length_append,List.length_cons,List.length_nil];omega)
     simp only[go_sem,f1,z,b1,j,joinS,List.append_assoc,List.cons_append,List.nil_append]
theorem Q8z(cs:List Case)(b:Bool)(hl:cs.length<2^30)(H:∀ c ∈ cs,PartY c)(hs:((caseSs cs).map λx=>x.1.length+x.2.1.length+10).sum<2^45)(s:St):cw (.f Q0o) [encS b (cs.map Case.enc)] s=some (.ret (.val (.str (joinS [32,124,32] (caseS (caseSs cs) true) true))),s):=by
 have e1:=QbT cs b (by omega) H s cs [] [] 0 rfl rfl (by simp only[List.length_nil];omega)
 rw[show ((0:Nat):Int)=0 from rfl] at e1
 rw[Qdr]
 simp only[go_sem,Q4,List.length_map,List.length_nil,List.nil_append,decide_true] at e1 ⊢
 exact e1
end Go.Proofs.YtgfhplcmcdimiaaGreatDoor
namespace Go.Am
open Go
theorem QF{kids:List Exp}{i:Nat}{q:Exp}(h:kids[i]? = some q)(lv:Int):atS (expSs kids) i lv=parS (decide (levE q<lv)) (expS q):=by
 unfold atS
 have:(expSs kids).getD i ([],9)=(expS q,levE q):=by rw[Q0c];simp[List.getD_eq_getElem?_getD,h]
 rw[this]
theorem Q4d{kids:List Exp}{i:Nat}{q:Exp}(h:kids[i]? = some q):(expSs kids).getD i ([],9)=(expS q,levE q):=by
 rw[Q0c];simp[List.getD_eq_getElem?_getD,h]
theorem Qe1(kids:List Exp):(expSs kids).map (·.1)=kids.map expS:=by rw[Q0c,List.map_map];rfl
end Go.Am
namespace Go.Proofs.YtgfhplcmcdimiaaGreatDoor
open Go Go.Am
set_option linter.unusedVariables false
set_option maxRecDepth 4000
def XOK(e:Exp):Prop:=∀ s,cw (.f Zl) [e.enc] s=some (.ret (.val (.str (expS e))),s)
theorem PartX.par{e:Exp}(H:PartX e)(b:Bool):(parS b (expS e)).length<2^41:=by
 have:=Q0q b (expS e)
 have:=H.len
 omega
section
variable (a:Int) (nm:Str) (n:Int) (kids:List Exp) (kb:Bool) (cs:List Case) (cb:Bool) (ds:List Dec) (db:Bool)
theorem Qwi(h:isIntB n=true):XOK (.mk 1 a nm n kids kb cs cb ds db):=λs=>by
 have e1:=QaU n h s
 rw[QE,expS]
 simp only[go_sem,Int.reduceEq,Nat.reduceAdd,Nat.reduceLeDiff,Exp.cells_mk,decide_true,decide_false,e1,cond_true,cond_false]
theorem Qwj:XOK (.mk 2 a nm n kids kb cs cb ds db):=λs=>by
 rw[QE,expS]
 simp only[go_sem,Int.reduceEq,Nat.reduceAdd,Nat.reduceLeDiff,Exp.cells_mk,decide_true,decide_false,cond_true,cond_false]
theorem Qwk(hn:nm.length≤32)(HK:∀ q ∈ kids,PartX q):XOK (.mk 3 a nm n kids kb cs cb ds db):=λs=>by
 rw[QE,expS]
 cases hz:decide (kids.length=0) with
 |true=>
   have hz':decide ((kids.length:Int)=0)=true:=decide_eq_true (by have:=of_decide_eq_true hz;omega)
   simp only[go_sem,Int.reduceEq,Nat.reduceAdd,Nat.reduceLeDiff,Exp.cells_mk,decide_true,decide_false,Q4,List.length_map,hz',hz,cond_true,cond_false]
 |false=>
   have hz0:=of_decide_eq_false hz
   have hz':decide ((kids.length:Int)=0)=false:=decide_eq_false (by omega)
   obtain⟨q,hq⟩:∃ q,kids[0]? = some q:=⟨kids[0]'(by omega),by simp⟩
   have H:=HK q (List.mem_of_getElem? hq)
   have f0:=ZG (b:=kb) hq
   rw[show ((0:Nat):Int)=0 from rfl] at f0
   have e1:=Q1r H 9 s
   have hl:=H.par (decide (levE q<9))
   have cq:=Exp.cells_eq q
   simp only[QF hq]
   simp only[Exp.enc,cq] at e1
   rw[cq] at f0
   generalize parS (decide (levE q<9)) (expS q)=y at *
   obtain⟨b1,b2⟩:=adds3 (t1:=C.ti Q1) (t2:=C.ti Q1) (a:=nm) (b:=[32]) (c:=y) (by simp only[List.length_singleton];omega)
   simp only[List.append_assoc,List.cons_append,List.nil_append] at b1 b2
   simp only[go_sem,Int.reduceEq,Nat.reduceAdd,Nat.reduceLeDiff,Exp.cells_mk,decide_true,decide_false,Q4,List.length_map,hz',hz,f0,e1,b1,b2,cond_true,cond_false]
theorem Qk4(k:Int)(sep:Str)(hk:k=4∧sep=[44,32]∨k=10∧sep=[59,32])(HK:∀ q ∈ kids,PartX q)(hl:kids.length<2^30)(hs:((kids.map expS).map (·.length)).sum<2^45):XOK (.mk k a nm n kids kb cs cb ds db):=λs=>by
 have e1:=QjG kids kb sep (by rcases hk with h | h <;> rw[h.2] <;> decide) hl HK hs s
 rw[QE,expS,Qe1]
 rcases hk with ⟨rfl,rfl⟩ | ⟨rfl,rfl⟩ <;>
  simp only[go_sem,Int.reduceEq,Nat.reduceAdd,Nat.reduceLeDiff,Exp.cells_mk,decide_true,decide_false,e1,cond_true,cond_false]
theorem Qwl(HC:∀ c ∈ cs,PartY c)(hl:cs.length<2^30)(hs:((caseSs cs).map λx=>x.1.length+x.2.1.length+10).sum<2^45):XOK (.mk 5 a nm n kids kb cs cb ds db):=λs=>by
 have e1:=Q8z cs cb hl HC hs s
 have h1:=Q5J (caseSs cs) true
 have h2:=ZH [32,124,32] (caseS (caseSs cs) true) true
 simp only[List.length_cons,List.length_nil] at h2
 rw[QE,expS]
 generalize joinS [32,124,32] (caseS (caseSs cs) true) true=y at *
 have b1:=adds2 (t1:=C.ti Q1) (a:=[102,110,32]) (b:=y) (by simp only[List.length_cons,List.length_nil];omega)
 simp only[List.append_assoc,List.cons_append,List.nil_append] at b1
 simp only[go_sem,Int.reduceEq,Nat.reduceAdd,Nat.reduceLeDiff,Exp.cells_mk,decide_true,decide_false,e1,b1,cond_true,cond_false]
theorem Qwo{x y z:Exp}(qx:kids[0]? = some x)(qy:kids[1]? = some y)(qz:kids[2]? = some z)(hx:PartX x)(hy:PartX y)(hz:PartX z):XOK (.mk 8 a nm n kids kb cs cb ds db):=λs=>by
 have f0:ixS 7 (.val (encS kb (kids.map Exp.enc))) (.val (.int .i64 0))=some (.val (.cp x.cells)):=ZG qx
 have f1:ixS 7 (.val (encS kb (kids.map Exp.enc))) (.val (.int .i64 1))=some (.val (.cp y.cells)):=ZG qy
 have f2:ixS 7 (.val (encS kb (kids.map Exp.enc))) (.val (.int .i64 2))=some (.val (.cp z.cells)):=ZG qz
 have e1:=Q17 hx s
 have e2:=Q17 hy s
 have e3:=Q17 hz s
 have l1:=hx.len
 have l2:=hy.len
 have l3:=hz.len
 have cx:=Exp.cells_eq x
 have cy:=Exp.cells_eq y
 have cz:=Exp.cells_eq z
 rw[QE,expS]
 simp only[Q4d qx,Q4d qy,Q4d qz]
 simp only[Exp.enc,cx,cy,cz] at e1 e2 e3
 rw[cx] at f0
 rw[cy] at f1
 rw[cz] at f2
 generalize expS x=u at *
 generalize expS y=v at *
 generalize expS z=w at *
 obtain⟨b1,b2,b3,b4,b5⟩:=adds6 (t1:=C.ti Q1) (t2:=C.ti Q1) (t3:=C.ti Q1) (t4:=C.ti Q1) (t5:=C.ti Q1) (a:=[105,102,32]) (b:=u) (c:=[32,116,104,101,110,32]) (d:=v) (e:=[32,101,108,115,101,32]) (f:=w) (by simp only[List.length_cons,List.length_nil];omega)
 simp only[List.append_assoc,List.cons_append,List.nil_append] at b1 b2 b3 b4 b5
 simp only[go_sem,Int.reduceEq,Nat.reduceAdd,Nat.reduceLeDiff,Exp.cells_mk,decide_true,decide_false,f0,f1,f2,e1,e2,e3,b1,b2,b3,b4,b5,cond_true,cond_false]
theorem Qwp{x:Exp}(qx:kids[0]? = some x)(hx:PartX x)(HC:∀ c ∈ cs,PartY c)(hl:cs.length<2^30)(hs:((caseSs cs).map λx=>x.1.length+x.2.1.length+10).sum<2^45):XOK (.mk 9 a nm n kids kb cs cb ds db):=λs=>by
 have f0:ixS 7 (.val (encS kb (kids.map Exp.enc))) (.val (.int .i64 0))=some (.val (.cp x.cells)):=ZG qx
 have e1:=Q17 hx s
 have l1:=hx.len
 have e2:=Q8z cs cb hl HC hs s
 have h1:=Q5J (caseSs cs) true
 have h2:=ZH [32,124,32] (caseS (caseSs cs) true) true
 simp only[List.length_cons,List.length_nil] at h2
 have cx:=Exp.cells_eq x
 rw[QE,expS]
 simp only[Q4d qx]
 simp only[Exp.enc,cx] at e1
 rw[cx] at f0
 generalize joinS [32,124,32] (caseS (caseSs cs) true) true=y at *
 generalize expS x=u at *
 obtain⟨b1,b2,b3⟩:=adds4 (t1:=C.ti Q1) (t2:=C.ti Q1) (t3:=C.ti Q1) (a:=[99,97,115,101,32]) (b:=u) (c:=[32,111,102,32]) (d:=y) (by simp only[List.length_cons,List.length_nil];omega)
 simp only[List.append_assoc,List.cons_append,List.nil_append] at b1 b2 b3
 simp only[go_sem,Int.reduceEq,Nat.reduceAdd,Nat.reduceLeDiff,Exp.cells_mk,decide_true,decide_false,f0,e1,e2,b1,b2,b3,cond_true,cond_false]
theorem QtL{x:Exp}(qx:kids[0]? = some x)(hx:PartX x)(HC:∀ c ∈ cs,PartY c)(hl:cs.length<2^30)(hs:((caseSs cs).map λx=>x.1.length+x.2.1.length+10).sum<2^45):XOK (.mk 11 a nm n kids kb cs cb ds db):=λs=>by
 have f0:ixS 7 (.val (encS kb (kids.map Exp.enc))) (.val (.int .i64 0))=some (.val (.cp x.cells)):=ZG qx
 have e1:=Q1r hx 3 s
 have l1:=hx.par (decide (levE x<3))
 have e2:=Q8z cs cb hl HC hs s
 have h1:=Q5J (caseSs cs) true
 have h2:=ZH [32,124,32] (caseS (caseSs cs) true) true
 simp only[List.length_cons,List.length_nil] at h2
 have cx:=Exp.cells_eq x
 rw[QE,expS]
 simp only[QF qx]
 simp only[Exp.enc,cx] at e1
 rw[cx] at f0
 generalize joinS [32,124,32] (caseS (caseSs cs) true) true=y at *
 generalize parS (decide (levE x<3)) (expS x)=u at *
 obtain⟨b1,b2⟩:=adds3 (t1:=C.ti Q1) (t2:=C.ti Q1) (a:=u) (b:=[32,104,97,110,100,108,101,32]) (c:=y) (by simp only[List.length_cons,List.length_nil];omega)
 simp only[List.append_assoc,List.cons_append,List.nil_append] at b1 b2
 simp only[go_sem,Int.reduceEq,Nat.reduceAdd,Nat.reduceLeDiff,Exp.cells_mk,decide_true,decide_false,f0,e1,e2,b1,b2,cond_true,cond_false]
theorem QtM{x:Exp}(qx:kids[0]? = some x)(hx:PartX x):XOK (.mk 12 a nm n kids kb cs cb ds db):=λs=>by
 have f0:ixS 7 (.val (encS kb (kids.map Exp.enc))) (.val (.int .i64 0))=some (.val (.cp x.cells)):=ZG qx
 have e1:=Q17 hx s
 have l1:=hx.len
 have cx:=Exp.cells_eq x
 rw[QE,expS]
 simp only[Q4d qx]
 simp only[Exp.enc,cx] at e1
 rw[cx] at f0
 generalize expS x=u at *
 have b1:=adds2 (t1:=C.ti Q1) (a:=[114,97,105,115,101,32]) (b:=u) (by simp only[List.length_cons,List.length_nil];omega)
 simp only[List.append_assoc,List.cons_append,List.nil_append] at b1
 simp only[go_sem,Int.reduceEq,Nat.reduceAdd,Nat.reduceLeDiff,Exp.cells_mk,decide_true,decide_false,f0,e1,b1,cond_true,cond_false]
theorem QgR(k:Int)(w:Str)(hk:k=16∧w=[114,101,102,32]∨k=17∧w=[33]∨k=19∧w=[112,114,105,110,116,32]){x:Exp}(qx:kids[0]? = some x)(hx:PartX x):XOK (.mk k a nm n kids kb cs cb ds db):=λs=>by
 have f0:ixS 7 (.val (encS kb (kids.map Exp.enc))) (.val (.int .i64 0))=some (.val (.cp x.cells)):=ZG qx
 have e1:=Q1r hx 9 s
 have l1:=hx.par (decide (levE x<9))
 have cx:=Exp.cells_eq x
 rw[QE,expS]
 simp only[QF qx]
 simp only[Exp.enc,cx] at e1
 rw[cx] at f0
 generalize parS (decide (levE x<9)) (expS x)=u at *
 have hw:w.length≤8:=by rcases hk with h | h | h <;> rw[h.2] <;> decide
 have b1:=adds2 (t1:=C.ti Q1) (a:=w) (b:=u) (by omega)
 rcases hk with ⟨rfl,rfl⟩ | ⟨rfl,rfl⟩ | ⟨rfl,rfl⟩ <;>
  (simp only[List.append_assoc,List.cons_append,List.nil_append] at b1
   simp only[go_sem,Int.reduceEq,Nat.reduceAdd,Nat.reduceLeDiff,Exp.cells_mk,decide_true,decide_false,f0,e1,b1,cond_true,cond_false])
theorem QtP:XOK (.mk 20 a nm n kids kb cs cb ds db):=λs=>by
 rw[QE,expS]
 simp only[go_sem,Int.reduceEq,Nat.reduceAdd,Nat.reduceLeDiff,Exp.cells_mk,decide_true,decide_false,cond_true,cond_false]
theorem QcO(k:Int)(hk:k=6∨k=13∨k=14∨k=15∨k=18){l:Str}(s:St)(h:cw (.f Q7Q) [(Exp.mk k a nm n kids kb cs cb ds db).enc] s=some (.ret (.val (.str l)),s)):cw (.f Zl) [(Exp.mk k a nm n kids kb cs cb ds db).enc] s=some (.ret (.val (.str l)),s):=by
 rw[QE]
 simp only[Exp.enc,Exp.cells_mk] at h
 rcases hk with rfl | rfl | rfl | rfl | rfl <;> simp only[go_sem,Int.reduceEq,Nat.reduceAdd,Nat.reduceLeDiff,Exp.cells_mk,decide_true,decide_false,h]
theorem Qk3(k l r:Int)(w:Str)(hk:k=15∧l=4∧r=3∧w=[32,111,114,101,108,115,101,32]∨k=14∧l=5∧r=4∧w=[32,97,110,100,97,108,115,111,32]){x y:Exp}(qx:kids[0]? = some x)(qy:kids[1]? = some y)(hx:PartX x)(hy:PartX y):XOK (.mk k a nm n kids kb cs cb ds db):=λs=>by
 have f0:ixS 7 (.val (encS kb (kids.map Exp.enc))) (.val (.int .i64 0))=some (.val (.cp x.cells)):=ZG qx
 have f1:ixS 7 (.val (encS kb (kids.map Exp.enc))) (.val (.int .i64 1))=some (.val (.cp y.cells)):=ZG qy
 have e1:=Q1r hx l s
 have e2:=Q1r hy r s
 have l1:=hx.par (decide (levE x<l))
 have l2:=hy.par (decide (levE y<r))
 have cx:=Exp.cells_eq x
 have cy:=Exp.cells_eq y
 rw[cx] at f0
 rw[cy] at f1
 simp only[Exp.enc,cx,cy] at e1 e2
 have hw:w.length≤12:=by rcases hk with h | h <;> rw[h.2.2.2] <;> decide
 obtain⟨b1,b2⟩:=adds3 (t1:=C.ti Q1) (t2:=C.ti Q1) (a:=parS (decide (levE x<l)) (expS x)) (b:=w) (c:=parS (decide (levE y<r)) (expS y)) (by omega)
 rcases hk with ⟨rfl,rfl,rfl,rfl⟩ | ⟨rfl,rfl,rfl,rfl⟩
 ·refine QcO a nm n kids kb cs cb ds db 15 (by decide) s ?_
  simp only[List.append_assoc,List.cons_append,List.nil_append] at b1 b2
  rw[Q31,expS]
  simp only[go_sem,Int.reduceEq,Nat.reduceAdd,Nat.reduceLeDiff,Exp.cells_mk,QF qx,QF qy,decide_true,decide_false,f0,f1,cx,cy,e1,e2,b1,b2,cond_true,cond_false]
 ·refine QcO a nm n kids kb cs cb ds db 14 (by decide) s ?_
  simp only[List.append_assoc,List.cons_append,List.nil_append] at b1 b2
  rw[Q31,expS]
  simp only[go_sem,Int.reduceEq,Nat.reduceAdd,Nat.reduceLeDiff,Exp.cells_mk,QF qx,QF qy,decide_true,decide_false,f0,f1,cx,cy,e1,e2,b1,b2,cond_true,cond_false]
theorem QtO{x y:Exp}(qx:kids[0]? = some x)(qy:kids[1]? = some y)(hx:PartX x)(hy:PartX y):XOK (.mk 18 a nm n kids kb cs cb ds db):=λs=>by
 have f0:ixS 7 (.val (encS kb (kids.map Exp.enc))) (.val (.int .i64 0))=some (.val (.cp x.cells)):=ZG qx
 have f1:ixS 7 (.val (encS kb (kids.map Exp.enc))) (.val (.int .i64 1))=some (.val (.cp y.cells)):=ZG qy
 have e1:=hx.ok s
 have e2:=Q4D x s
 have e3:=λb=>Q1t (expS x) b (by have:=hx.len;omega) s
 have e4:=Q1r hy 1 s
 have l2:=hy.par (decide (levE y<1))
 have cx:=Exp.cells_eq x
 have cy:=Exp.cells_eq y
 rw[cx] at f0
 rw[cy] at f1
 simp only[Exp.enc,cx,cy] at e1 e2 e4
 have hd:kids.headD (.mk 0 0 [] 0 [] true [] true [] true)=x:=Q8D qx
 have B:=λb=>adds3 (t1:=C.ti Q1) (t2:=C.ti Q1) (a:=parS b (expS x)) (b:=[32,58,61,32]) (c:=parS (decide (levE y<1)) (expS y)) (by have:=hx.par b;simp only[List.length_cons,List.length_nil];omega)
 refine QcO a nm n kids kb cs cb ds db 18 (by decide) s ?_
 rw[Q31,expS,hd]
 simp only[Q4d qx]
 cases h2:decide (levE x<2) with
 |true=>
   obtain⟨b1,b2⟩:=B true
   have e5:=e3 true
   simp only[List.append_assoc,List.cons_append,List.nil_append] at b1 b2
   simp only[go_sem,Int.reduceEq,Nat.reduceAdd,Nat.reduceLeDiff,Exp.cells_mk,QF qx,QF qy,decide_true,decide_false,f0,f1,cx,cy,e1,e2,h2,e5,e4,b1,b2,cond_true,cond_false,Bool.true_or]
 |false=>
   cases h11:decide (x.kind=11) with
   |true=>
     obtain⟨b1,b2⟩:=B true
     have e5:=e3 true
     simp only[List.append_assoc,List.cons_append,List.nil_append] at b1 b2
     simp only[go_sem,Int.reduceEq,Nat.reduceAdd,Nat.reduceLeDiff,Exp.cells_mk,QF qx,QF qy,decide_true,decide_false,f0,f1,cx,cy,e1,e2,h2,h11,e5,e4,b1,b2,cond_true,cond_false,Bool.false_or]
   |false=>
     obtain⟨b1,b2⟩:=B false
     have e5:=e3 false
     simp only[List.append_assoc,List.cons_append,List.nil_append] at b1 b2
     simp only[go_sem,Int.reduceEq,Nat.reduceAdd,Nat.reduceLeDiff,Exp.cells_mk,QF qx,QF qy,decide_true,decide_false,f0,f1,cx,cy,e1,e2,h2,h11,e5,e4,b1,b2,cond_true,cond_false,Bool.or_self]
theorem Qwm{x y:Exp}(qx:kids[0]? = some x)(qy:kids[1]? = some y)(hx:PartX x)(hy:PartX y):XOK (.mk 6 a nm n kids kb cs cb ds db):=λs=>by
 have f0:ixS 7 (.val (encS kb (kids.map Exp.enc))) (.val (.int .i64 0))=some (.val (.cp x.cells)):=ZG qx
 have f1:ixS 7 (.val (encS kb (kids.map Exp.enc))) (.val (.int .i64 1))=some (.val (.cp y.cells)):=ZG qy
 have e1:=hx.ok s
 have e2:=Q4D x s
 have e3:=λb=>Q1t (expS x) b (by have:=hx.len;omega) s
 have e4:=Q1r hy 9 s
 have l2:=hy.par (decide (levE y<9))
 have cx:=Exp.cells_eq x
 have cy:=Exp.cells_eq y
 rw[cx] at f0
 rw[cy] at f1
 simp only[Exp.enc,cx,cy] at e1 e2 e4
 have hd:kids.headD (.mk 0 0 [] 0 [] true [] true [] true)=x:=Q8D qx
 have B:=λb=>adds3 (t1:=C.ti Q1) (t2:=C.ti Q1) (a:=parS b (expS x)) (b:=[32]) (c:=parS (decide (levE y<9)) (expS y)) (by have:=hx.par b;simp only[List.length_cons,List.length_nil];omega)
 have hz:decide ((x.kids.length:Int)=0)=decide (x.kids.length=0):=by
  by_cases h:x.kids.length=0
  ·rw[decide_eq_true h,decide_eq_true (by omega)]
  ·rw[decide_eq_false h,decide_eq_false (by omega)]
 refine QcO a nm n kids kb cs cb ds db 6 (by decide) s ?_
 rw[Q31,expS,hd]
 have hb:bareE x=(decide (x.kind=3)&&(decide (x.kids.length=0) && !decide (x.name=[40,41]))):=rfl
 rw[hb]
 simp only[Q4d qx]
 have fin:∀ b:Bool,cw (.f Z7) [.str (expS x),.bool b] s=some (.ret (.val (.str (parS b (expS x)))),s):=e3
 obtain⟨b1,b2⟩:=B true
 obtain⟨c1,c2⟩:=B false
 have e5:=e3 true
 have e6:=e3 false
 simp only[List.append_assoc,List.cons_append,List.nil_append] at b1 b2 c1 c2
 cases h3:decide (x.kind=3) with
 |false=>
   cases h8:decide (levE x<8) with
   |true=>simp only[go_sem,Int.reduceEq,Nat.reduceAdd,Nat.reduceLeDiff,Exp.cells_mk,QF qx,QF qy,decide_true,decide_false,f0,f1,cx,cy,e1,e2,h3,h8,e5,e4,b1,b2,cond_true,cond_false,Bool.true_or]
   |false=>simp only[go_sem,Int.reduceEq,Nat.reduceAdd,Nat.reduceLeDiff,Exp.cells_mk,QF qx,QF qy,decide_true,decide_false,f0,f1,cx,cy,e1,e2,h3,h8,e6,e4,c1,c2,cond_true,cond_false,Bool.or_self,Bool.false_and]
 |true=>
   cases h0:decide (x.kids.length=0) with
   |false=>
     rw[h0] at hz
     cases h8:decide (levE x<8) with
     |true=>simp only[go_sem,Int.reduceEq,Nat.reduceAdd,Nat.reduceLeDiff,Exp.cells_mk,QF qx,QF qy,decide_true,decide_false,f0,f1,cx,cy,e1,e2,h3,Q4,List.length_map,hz,h8,e5,e4,b1,b2,cond_true,cond_false,Bool.true_or]
     |false=>simp only[go_sem,Int.reduceEq,Nat.reduceAdd,Nat.reduceLeDiff,Exp.cells_mk,QF qx,QF qy,decide_true,decide_false,f0,f1,cx,cy,e1,e2,h3,Q4,List.length_map,hz,h8,e6,e4,c1,c2,cond_true,cond_false,Bool.or_self,Bool.false_and,Bool.true_and]
   |true=>
     rw[h0] at hz
     cases hn:decide (x.name=[40,41]) with
     |true=>
       cases h8:decide (levE x<8) with
       |true=>simp only[go_sem,Int.reduceEq,Nat.reduceAdd,Nat.reduceLeDiff,Exp.cells_mk,QF qx,QF qy,decide_true,decide_false,f0,f1,cx,cy,e1,e2,h3,Q4,List.length_map,hz,hn,h8,e5,e4,b1,b2,cond_true,cond_false,Bool.true_or]
       |false=>simp only[go_sem,Int.reduceEq,Nat.reduceAdd,Nat.reduceLeDiff,Exp.cells_mk,QF qx,QF qy,decide_true,decide_false,f0,f1,cx,cy,e1,e2,h3,Q4,List.length_map,hz,hn,h8,e6,e4,c1,c2,cond_true,cond_false,Bool.or_self,Bool.and_self,Bool.not_true,Bool.and_false]
     |false=>
       cases h8:decide (levE x<8) with
       |true=>simp only[go_sem,Int.reduceEq,Nat.reduceAdd,Nat.reduceLeDiff,Exp.cells_mk,QF qx,QF qy,decide_true,decide_false,f0,f1,cx,cy,e1,e2,h3,Q4,List.length_map,hz,hn,h8,e5,e4,b1,b2,cond_true,cond_false,Bool.true_or]
       |false=>simp only[go_sem,Int.reduceEq,Nat.reduceAdd,Nat.reduceLeDiff,Exp.cells_mk,QF qx,QF qy,decide_true,decide_false,f0,f1,cx,cy,e1,e2,h3,Q4,List.length_map,hz,hn,h8,e5,e4,b1,b2,cond_true,cond_false,Bool.false_or,Bool.and_self,Bool.not_false]
theorem QtN{x y:Exp}(qx:kids[0]? = some x)(qy:kids[1]? = some y)(hx:PartX x)(hy:PartX y)(hn:1≤n∧n≤9):XOK (.mk 13 a nm n kids kb cs cb ds db):=λs=>by
 have f0:ixS 7 (.val (encS kb (kids.map Exp.enc))) (.val (.int .i64 0))=some (.val (.cp x.cells)):=ZG qx
 have f1:ixS 7 (.val (encS kb (kids.map Exp.enc))) (.val (.int .i64 1))=some (.val (.cp y.cells)):=ZG qy
 have e1:=λl=>Q1r hx l s
 have e2:=λr=>Q1r hy r s
 have e3:=Qmv n hn s
 have e4:=Q4D (.mk 13 a nm n kids kb cs cb ds db) s
 have hlev:levE (.mk 13 a nm n kids kb cs cb ds db)=bif decide (n≥6) then 5 else bif decide (n≤2) then 6 else 7:=rfl
 rw[hlev] at e4
 have ho:=Qda n
 have cx:=Exp.cells_eq x
 have cy:=Exp.cells_eq y
 rw[cx] at f0
 rw[cy] at f1
 simp only[Exp.enc,cx,cy,Exp.cells_mk] at e1 e2 e4
 have B:=λl r=>adds3 (t1:=C.ti Q1) (t2:=C.ti Q1) (a:=parS (decide (levE x<l)) (expS x)) (b:=32::(opN n++[32])) (c:=parS (decide (levE y<r)) (expS y)) (by have:=hx.par (decide (levE x<l));have:=hy.par (decide (levE y<r));simp only[List.length_cons,List.length_nil,List.length_append];omega)
 refine QcO a nm n kids kb cs cb ds db 13 (by decide) s ?_
 rw[Q31,expS]
 have w7:IntKind.i64.wrap 7=7:=rfl
 have w8:IntKind.i64.wrap 8=8:=rfl
 cases h6:decide (n≥6) with
 |true=>
   obtain⟨b1,b2⟩:=B 6 6
   rw[h6] at e4
   simp only[List.append_assoc,List.cons_append,List.nil_append] at b1 b2
   simp only[go_sem,Int.reduceAdd,Int.reduceEq,Nat.reduceAdd,Nat.reduceLeDiff,Exp.cells_mk,QF qx,QF qy,decide_true,decide_false,f0,f1,cx,cy,e4,e1,e2,e3,b1,b2,cond_true,cond_false]
 |false=>
   cases h2:decide (n≤2) with
   |true=>
     obtain⟨b1,b2⟩:=B 6 7
     rw[h6,h2] at e4
     simp only[List.append_assoc,List.cons_append,List.nil_append] at b1 b2
     simp only[go_sem,Int.reduceAdd,Int.reduceEq,Nat.reduceAdd,Nat.reduceLeDiff,Exp.cells_mk,QF qx,QF qy,decide_true,decide_false,f0,f1,cx,cy,e4,e1,e2,e3,w7,b1,b2,cond_true,cond_false]
   |false=>
     obtain⟨b1,b2⟩:=B 7 8
     rw[h6,h2] at e4
     simp only[List.append_assoc,List.cons_append,List.nil_append] at b1 b2
     simp only[go_sem,Int.reduceAdd,Int.reduceEq,Nat.reduceAdd,Nat.reduceLeDiff,Exp.cells_mk,QF qx,QF qy,decide_true,decide_false,f0,f1,cx,cy,e4,e1,e2,e3,w8,b1,b2,cond_true,cond_false]
end
end Go.Proofs.YtgfhplcmcdimiaaGreatDoor
namespace Go.Am
open Go
theorem Qi0 (t : Ty) (hv : t.n < bigV) : txt10 bigV t = bif decide (t.kind = 1) then 39 :: letT t.n
   else bif decide (t.args.length=0) then t.name
   else bif decide (t.name=[45,62]) then (ats10 bigV t.args 1).getD 0 []++([32,45,62,32]++(ats10 bigV t.args 0).getD 1 [])
   else bif decide (t.name=[42]) then joinS [32,42,32] (ats10 bigV t.args 2) true
   else bif decide (t.args.length=1) then (ats10 bigV t.args 2).getD 0 []++(32::t.name)
   else 40::(joinS [44,32] (ats10 bigV t.args 0) true++(41::32::t.name)):=by
 cases t with
 |mk k n s l b=>
   have hv:n<bigV:=hv
   simp only[txt10,decide_eq_true hv,cond_true,Ty.kind,Ty.n,Ty.name,Ty.args]
   rfl
end Go.Am
namespace Go.Proofs.YtgfhplcmcdimiaaGreatDoor
open Go Go.Am
set_option linter.unusedVariables false
set_option maxRecDepth 4000
theorem QgO(t:Ty)(s:St):cw (.f Q4q) [t.enc] s=some (.ret (.val (.int .i64 (levelT t))),s):=by
 have c:=Ty.cells_eq t
 rw[Qbx]
 unfold levelT
 cases h1:decide (t.kind=2) with
 |false=>simp only[go_sem,Nat.reduceAdd,Ty.enc,c,h1]
 |true=>
   cases h2:decide (t.name=[45,62]) with
   |true=>simp only[go_sem,Nat.reduceAdd,Ty.enc,c,h1,h2]
   |false=>
     cases h3:decide (t.name=[42]) with
     |true=>simp only[go_sem,Nat.reduceAdd,Ty.enc,c,h1,h2,h3]
     |false=>simp only[go_sem,Nat.reduceAdd,Ty.enc,c,h1,h2,h3]
structure PartT (t:Ty):Prop where
 ok:∀ s,cw (.f ZE) [t.enc] s=some (.ret (.val (.str (txt10 bigV t))),s)
 len:(txt10 bigV t).length<2^40
theorem Q8q{t:Ty}(H:PartT t)(lv:Int)(s:St):cw (.f Q28) [t.enc,.int .i64 lv] s=some (.ret (.val (.str (at10 bigV t lv))),s):=by
 have e1:=H.ok s
 have e2:=QgO t s
 have e3:=λb=>Q1t (txt10 bigV t) b (by have:=H.len;omega) s
 have c:=Ty.cells_eq t
 unfold at10
 rw[Qhl]
 simp only[Ty.enc,c] at e1 e2
 simp only[go_sem,Nat.reduceAdd,Nat.reduceLeDiff,c,e1,e2,e3]
theorem Qb6(t:Ty)(lv:Int):(at10 bigV t lv).length≤(txt10 bigV t).length+2:=Q0q _ _
theorem QeE(t:Ty)(hl:t.args.length<2^40)(H:∀ q ∈ t.args,PartT q)(s:St):∀ (suf pre:List Ty) (acc:Str) (i:Nat),pre++suf=t.args→i=pre.length→acc.length+((ats10 bigV suf 2).map (·.length)).sum+10*suf.length<2^50→
  Q1d (t.cells.map .val) (.val (.str acc)) (.val (.int .i64 t.args.length)) (.val (.int .i64 i)) s=some (.ret (.val (.str (acc++joinS [32,42,32] (ats10 bigV suf 2) (decide (pre.length=0))))),s)
 |[],pre,acc,i,h,hi,hb=>by
   subst hi
   rw[Q62]
   simp only[go_sem,Ty.cells_eq t,Qa (by simpa using h),ats10,joinS,List.append_nil]
 |q::suf,pre,acc,i,h,hi,hb=>by
   subst hi
   have c:=Ty.cells_eq t
   have cq:=Ty.cells_eq q
   obtain⟨f1,f2,f3⟩:=Q9 (x:=.val (encS t.nl (t.args.map Ty.enc))) (Q4 _ _) h (by omega) (Ty.cells_len q) (by decide)
   have e1:=Q8q (H q (by rw[←h];simp)) 2 s
   have hu:ats10 bigV (q::suf) 2=at10 bigV q 2::ats10 bigV suf 2:=rfl
   rw[hu] at hb ⊢
   simp only[List.map_cons,List.sum_cons,List.length_cons] at hb
   have hd1:decide ((pre++[q]).length=0)=false:=decide_eq_false (by simp)
   have IH:=λ(acc':Str) (hb':acc'.length+((ats10 bigV suf 2).map (·.length)).sum+10*suf.length<2^50)=>QeE t hl H s suf (pre++[q]) acc' (pre.length+1) (by simpa using h) (by simp) hb'
   rw[hd1] at IH
   generalize at10 bigV q 2=y at *
   rw[Q62]
   simp only[Ty.enc,cq] at e1 f2
   cases hz:decide (pre.length=0) with
   |true=>
     have hz':=of_decide_eq_true hz
     have z:decide ((pre.length:Int)>0)=false:=decide_eq_false (by omega)
     have b1:=adds2 (t1:=C.ti Q1) (a:=acc) (b:=y) (by omega)
     have ih:=IH (acc++y) (by simp only[List.length_append];omega)
     simp only[go_sem,Nat.reduceAdd,Nat.reduceLeDiff,c,f1,f2,f3,z,Q60,e1,b1,joinS,List.append_assoc] at ih ⊢
     exact ih
   |false=>
     have hz':=of_decide_eq_false hz
     have z:decide ((pre.length:Int)>0)=true:=decide_eq_true (by omega)
     obtain⟨b1,b2⟩:=adds3 (t1:=C.ti Q1) (t2:=C.ti Q1) (a:=acc) (b:=[32,42,32]) (c:=y) (by simp only[List.length_cons,List.length_nil];omega)
     have ih:=IH (acc++[32,42,32]++y) (by simp only[List.length_append,List.length_cons,List.length_nil];omega)
     simp only[go_sem,Nat.reduceAdd,Nat.reduceLeDiff,c,f1,f2,f3,z,Q60,e1,b1,b2,joinS,List.append_assoc] at ih ⊢
     exact ih
theorem QeF(t:Ty)(hn:t.name.length<2^40)(hl:t.args.length<2^40)(H:∀ q ∈ t.args,PartT q)(s:St):∀ (suf pre:List Ty) (acc:Str) (i:Nat),pre++suf=t.args→i=pre.length→acc.length+((ats10 bigV suf 0).map (·.length)).sum+10*suf.length<2^50→
  Q1e (t.cells.map .val) (.val (.str acc)) (.val (.int .i64 t.args.length)) (.val (.int .i64 i)) s=some (.ret (.val (.str (40::(acc++joinS [44,32] (ats10 bigV suf 0) (decide (pre.length=0))++(41::32::t.name))))),s)
 |[],pre,acc,i,h,hi,hb=>by
   subst hi
   obtain⟨b1,b2,b3⟩:=adds4 (t1:=C.ti Q1) (t2:=C.ti Q1) (t3:=C.ti Q1) (a:=[40]) (b:=acc) (c:=[41,32]) (d:=t.name) (by simp only[List.length_cons,List.length_nil];omega)
   simp only[List.append_assoc,List.cons_append,List.nil_append] at b1 b2 b3
   rw[Q63]
   simp only[go_sem,Ty.cells_eq t,Qa (by simpa using h),ats10,joinS,List.append_nil,b1,b2,b3]
 |q::suf,pre,acc,i,h,hi,hb=>by
   subst hi
   have c:=Ty.cells_eq t
   have cq:=Ty.cells_eq q
   obtain⟨f1,f2,f3⟩:=Q9 (x:=.val (encS t.nl (t.args.map Ty.enc))) (Q4 _ _) h (by omega) (Ty.cells_len q) (by decide)
   have e1:=Q8q (H q (by rw[←h];simp)) 0 s
   have hu:ats10 bigV (q::suf) 0=at10 bigV q 0::ats10 bigV suf 0:=rfl
   rw[hu] at hb ⊢
   simp only[List.map_cons,List.sum_cons,List.length_cons] at hb
   have hd1:decide ((pre++[q]).length=0)=false:=decide_eq_false (by simp)
   have IH:=λ(acc':Str) (hb':acc'.length+((ats10 bigV suf 0).map (·.length)).sum+10*suf.length<2^50)=>QeF t hn hl H s suf (pre++[q]) acc' (pre.length+1) (by simpa using h) (by simp) hb'
   rw[hd1] at IH
   generalize at10 bigV q 0=y at *
   rw[Q63]
   simp only[Ty.enc,cq] at e1 f2
   cases hz:decide (pre.length=0) with
   |true=>
     have hz':=of_decide_eq_true hz
     have z:decide ((pre.length:Int)>0)=false:=decide_eq_false (by omega)
     have b1:=adds2 (t1:=C.ti Q1) (a:=acc) (b:=y) (by omega)
     have ih:=IH (acc++y) (by simp only[List.length_append];omega)
     simp only[go_sem,Nat.reduceAdd,Nat.reduceLeDiff,c,f1,f2,f3,z,Q61,e1,b1,joinS,List.append_assoc] at ih ⊢
     exact ih
   |false=>
     have hz':=of_decide_eq_false hz
     have z:decide ((pre.length:Int)>0)=true:=decide_eq_true (by omega)
     obtain⟨b1,b2⟩:=adds3 (t1:=C.ti Q1) (t2:=C.ti Q1) (a:=acc) (b:=[44,32]) (c:=y) (by simp only[List.length_cons,List.length_nil];omega)
     have ih:=IH (acc++[44,32]++y) (by simp only[List.length_append,List.length_cons,List.length_nil];omega)
     simp only[go_sem,Nat.reduceAdd,Nat.reduceLeDiff,c,f1,f2,f3,z,Q61,e1,b1,b2,joinS,List.append_assoc] at ih ⊢
     exact ih
theorem Qfo{l:List Ty}{i:Nat}{q:Ty}(h:l[i]? = some q)(lv:Int):(ats10 bigV l lv).getD i []=at10 bigV q lv:=by
 rw[Q7t];simp[List.getD_eq_getElem?_getD,h]
theorem QcK:∀ (m:Nat) (t:Ty),t.size≤m→t.size<2^26→allTy goodB t=true→VarOK t→PartT t
 |0,t,h,_,_,_=>by have:=Ty.size_pos t;omega
 |m+1,t,h,h',hg,hp=>by
   have hsz:Ty.sizes t.args+1=t.size:=by cases t;simp only[Ty.size,Ty.args]
   have hal:=Ty.len_sizes t.args
   have hg1:goodB t=true∧allTys goodB t.args=true:=by cases t;simp only[allTy,Bool.and_eq_true] at hg;exact hg
   have hp1:varB (λn=>decide (0≤n)&&decide (n≤9223372036854775807)) t=true∧allTys (varB λn=>decide (0≤n)&&decide (n≤9223372036854775807)) t.args=true:=by cases t;unfold VarOK at hp;simp only[allTy,Bool.and_eq_true] at hp;exact hp
   have HV:∀ u ∈ t.args,PartT u:=λu hu=>by
    have h2:=Ty.mem_sizes hu
    exact QcK m u (by omega) (by omega) (Q5H hg1.2 u hu) (Q5H hp1.2 u hu)
   have c:=Ty.cells_eq t
   have hTl:=Q6T bigV (by decide) t hg hp
   refine⟨λs=>?_,by omega⟩
   have hL0:=Q6N bigV (by decide) 0 t.args hg1.2 hp1.2
   have hL2:=Q6N bigV (by decide) 2 t.args hg1.2 hp1.2
   have hil:∀ a b:Nat,decide ((a:Int)=(b:Int))=decide (a=b):=λa b=>by
    by_cases h:a=b
    ·rw[decide_eq_true h,decide_eq_true (by omega)]
    ·rw[decide_eq_false h,decide_eq_false (by omega)]
   have i0:=hil t.args.length 0
   have i1:=hil t.args.length 1
   rw[show ((0:Nat):Int)=0 from rfl] at i0
   rw[show ((1:Nat):Int)=1 from rfl] at i1
   rw[Qcm]
   cases hk:decide (t.kind=1) with
   |true=>
     have hn:0≤t.n∧t.n≤9223372036854775807:=by
      cases t with
      |mk k n s l b=>
        have:=Q7p hp1.1 hk
        simp only[Bool.and_eq_true,decide_eq_true_eq] at this
        exact this
     rw[Qi0 t (by unfold bigV;omega),hk]
     have e1:=Q8f t.n hn.1 (by omega) s
     have hl:=Q89 hn.1 hn.2
     have b1:=adds2 (t1:=C.ti Q1) (a:=[39]) (b:=letT t.n) (by simp only[List.length_singleton];omega)
     simp only[List.append_assoc,List.cons_append,List.nil_append] at b1
     simp only[go_sem,Nat.reduceAdd,Nat.reduceLeDiff,c,hk,e1,b1,cond_true]
   |false=>
     have hcon:t.n=0∧((givenB t.name).1≤t.args.length∧(t.args.length:Int)≤(givenB t.name).2.1)∧((givenB t.name).2.2 || lowB t.name)=true:=by
      cases t with
      |mk k n s l b=>exact⟨(Q6Y hg1.1 hk).2.1,(Q6Y hg1.1 hk).2.2⟩
     have hnl:=Q7V hcon.2.2
     rw[Qi0 t (by rw[hcon.1];decide),hk]
     cases h1:decide (t.name=[45,62]) with
     |true=>
       have h1':=of_decide_eq_true h1
       have hc2:=hcon.2.1
       rw[h1',Qba] at hc2
       have h0:decide (t.args.length=0)=false:=decide_eq_false (by omega)
       obtain⟨x,hx⟩:∃ x,t.args[0]? = some x:=⟨t.args[0]'(by simp at hc2;omega),by simp⟩
       obtain⟨y,hy⟩:∃ y,t.args[1]? = some y:=⟨t.args[1]'(by simp at hc2;omega),by simp⟩
       have f0:=Q5I t hx
       have f1:=Q5I t hy
       rw[show ((0:Nat):Int)=0 from rfl] at f0
       rw[show ((1:Nat):Int)=1 from rfl] at f1
       have Hx:=HV x (List.mem_of_getElem? hx)
       have Hy:=HV y (List.mem_of_getElem? hy)
       have e1:=Q8q Hx 1 s
       have e2:=Q8q Hy 0 s
       have l1:=Qb6 x 1
       have l2:=Qb6 y 0
       have l3:=Hx.len
       have l4:=Hy.len
       have cx:=Ty.cells_eq x
       have cy:=Ty.cells_eq y
       simp only[Qfo hx,Qfo hy]
       simp only[Ty.enc,cx,cy] at e1 e2 f0 f1
       generalize at10 bigV x 1=u at *
       generalize at10 bigV y 0=v at *
       obtain⟨b1,b2⟩:=adds3 (t1:=C.ti Q1) (t2:=C.ti Q1) (a:=u) (b:=[32,45,62,32]) (c:=v) (by simp only[List.length_cons,List.length_nil];omega)
       simp only[List.append_assoc,List.cons_append,List.nil_append] at b1 b2
       simp only[go_sem,Nat.reduceAdd,Nat.reduceLeDiff,c,hk,h1,h0,f0,f1,e1,e2,b1,b2,cond_true,cond_false]
     |false=>
       cases h2:decide (t.name=[42]) with
       |true=>
         have h2':=of_decide_eq_true h2
         have hc2:=hcon.2.1
         rw[h2',Qc0] at hc2
         have h0:decide (t.args.length=0)=false:=decide_eq_false (by omega)
         have e1:=QeE t (by omega) HV s t.args [] [] 0 rfl rfl (by simp only[List.length_nil];omega)
         rw[show ((0:Nat):Int)=0 from rfl] at e1
         simp only[go_sem,Nat.reduceAdd,Nat.reduceLeDiff,c,hk,h1,h2,h0,Q4,List.length_map,List.nil_append,List.length_nil,decide_true,cond_true,cond_false] at e1 ⊢
         exact e1
       |false=>
         cases h0:decide (t.args.length=0) with
         |true=>
           rw[h0] at i0
           simp only[go_sem,Nat.reduceAdd,Nat.reduceLeDiff,c,hk,h1,h2,Q4,List.length_map,i0,cond_true,cond_false]
         |false=>
           rw[h0] at i0
           cases h3:decide (t.args.length=1) with
           |true=>
             rw[h3] at i1
             have h3':=of_decide_eq_true h3
             obtain⟨x,hx⟩:∃ x,t.args[0]? = some x:=⟨t.args[0]'(by omega),by simp⟩
             have f0:=Q5I t hx
             rw[show ((0:Nat):Int)=0 from rfl] at f0
             have Hx:=HV x (List.mem_of_getElem? hx)
             have e1:=Q8q Hx 2 s
             have l1:=Qb6 x 2
             have l3:=Hx.len
             have cx:=Ty.cells_eq x
             simp only[Qfo hx]
             simp only[Ty.enc,cx] at e1 f0
             generalize at10 bigV x 2=u at *
             obtain⟨b1,b2⟩:=adds3 (t1:=C.ti Q1) (t2:=C.ti Q1) (a:=u) (b:=[32]) (c:=t.name) (by simp only[List.length_cons,List.length_nil];omega)
             simp only[List.append_assoc,List.cons_append,List.nil_append] at b1 b2
             simp only[go_sem,Nat.reduceAdd,Nat.reduceLeDiff,c,hk,h1,h2,Q4,List.length_map,i0,i1,f0,e1,b1,b2,cond_true,cond_false]
           |false=>
             rw[h3] at i1
             have e1:=QeF t (by omega) (by omega) HV s t.args [] [] 0 rfl rfl (by simp only[List.length_nil];omega)
             rw[show ((0:Nat):Int)=0 from rfl] at e1
             simp only[go_sem,Nat.reduceAdd,Nat.reduceLeDiff,c,hk,h1,h2,Q4,List.length_map,i0,i1,List.nil_append,List.length_nil,decide_true,cond_true,cond_false] at e1 ⊢
             exact e1
end Go.Proofs.YtgfhplcmcdimiaaGreatDoor