/- A part of the proof: SRx5, SRx6, SBlK, SRef3, SRef4. -/
import Derived.Test.YtgfhplcmcdimiaaGreatDoorM6
import Derived.Test.YtgfhplcmcdimiaaGreatDoorM7
import Derived.Test.YtgfhplcmcdimiaaGreatDoorM8
import Derived.Test.YtgfhplcmcdimiaaGreatDoorM10
import Derived.Test.YtgfhplcmcdimiaaGreatDoorM11
import Derived.Test.YtgfhplcmcdimiaaGreatDoorM13
import Derived.Test.YtgfhplcmcdimiaaGreatDoorM14
set_option linter.unusedVariables false
set_option linter.unusedSimpArgs false
namespace Go.Proofs.YtgfhplcmcdimiaaGreatDoor
open Go Go.Am
set_option linter.unusedVariables false
set_option maxRecDepth 4000
theorem Q7Y(p:Int)(hp:1≤p∧p≤8)(s:St):∀ (k i:Nat) (acc:Str),((i+k:Nat):Int)=p→acc.length≤100*i→
  Q0j (.val (.int .i64 p)) (.val (.str acc)) (.val (.int .i64 p)) (.val (.int .i64 i)) s=some (.ret (.val (.str (parS (decide (p>1)) (acc++joinS [44,32] ((List.range' i k).map varT) (decide (i=0)))++[32]))),s)
 |0,i,acc,h,hl=>by
   have z:decide ((i:Int)<p)=false:=decide_eq_false (by omega)
   have e1:=Q1t acc (decide (p>1)) (by omega) s
   have hw:=Q0q (decide (p>1)) acc
   have b1:=adds2 (t1:=C.ti Q1) (a:=parS (decide (p>1)) acc) (b:=[32]) (by simp only[List.length_singleton];omega)
   rw[Q5Z]
   simp only[go_sem,z,e1,b1,List.range'_zero,List.map_nil,joinS,List.append_nil]
 |k+1,i,acc,h,hl=>by
   have z:decide ((i:Int)<p)=true:=decide_eq_true (by omega)
   have hi:i<8:=by omega
   have e1:=Q8f (i:Int) (by omega) (by omega) s
   have hv:=Q89 (n:=(i:Int)) (by omega) (by omega)
   have w1:IntKind.i64.wrap ((i:Int)+1)=((i+1:Nat):Int):=by rw[wrap64 (by omega) (by omega)];rfl
   have hr:(List.range' i (k+1)).map varT=varT i::(List.range' (i+1) k).map varT:=rfl
   have hv2:varT i=39::letT (i:Int):=rfl
   rw[Q5Z,hr]
   cases hz:decide (i=0) with
   |true=>
     have hz':=of_decide_eq_true hz
     have z2:decide ((i:Int)>0)=false:=decide_eq_false (by omega)
     obtain⟨b1,b2⟩:=adds3 (t1:=C.ti Q1) (t2:=C.ti Q1) (a:=acc) (b:=[39]) (c:=letT (i:Int)) (by simp only[List.length_singleton];omega)
     have ih:=Q7Y p hp s k (i+1) (acc++39::letT (i:Int)) (by omega) (by simp only[List.length_append,List.length_cons];omega)
     rw[decide_eq_false (show ¬ i+1=0 by omega)] at ih
     simp only[List.append_assoc,List.cons_append,List.nil_append] at b1 b2
     simp only[go_sem,z,z2,e1,w1,b1,b2,joinS,hv2,List.append_assoc,List.cons_append,List.nil_append,cond_true,cond_false] at ih ⊢
     exact ih
   |false=>
     have hz':=of_decide_eq_false hz
     have z2:decide ((i:Int)>0)=true:=decide_eq_true (by omega)
     obtain⟨b1,b2,b3⟩:=adds4 (t1:=C.ti Q1) (t2:=C.ti Q1) (t3:=C.ti Q1) (a:=acc) (b:=[44,32]) (c:=[39]) (d:=letT (i:Int)) (by simp only[List.length_cons,List.length_nil];omega)
     have ih:=Q7Y p hp s k (i+1) (acc++[44,32]++39::letT (i:Int)) (by omega) (by simp only[List.length_append,List.length_cons,List.length_nil];omega)
     rw[decide_eq_false (show ¬ i+1=0 by omega)] at ih
     simp only[List.append_assoc,List.cons_append,List.nil_append] at b1 b2 b3 ih
     simp only[go_sem,z,z2,e1,w1,b1,b2,b3,joinS,hv2,List.append_assoc,List.cons_append,List.nil_append,cond_true,cond_false] at ih ⊢
     exact ih
theorem QaV(p:Int)(hp:0≤p∧p≤8)(s:St):cw (.f Q3a) [.int .i64 p] s=some (.ret (.val (.str (parmS p))),s):=by
 rw[Qcl]
 unfold parmS
 cases h0:decide (p=0) with
 |true=>simp only[go_sem,h0,cond_true]
 |false=>
   have h0':=of_decide_eq_false h0
   obtain⟨m,rfl⟩:=Int.eq_ofNat_of_zero_le hp.1
   have e1:=Q7Y (m:Int) (by omega) s m 0 [] (by omega) (by simp)
   rw[show ((0:Nat):Int)=0 from rfl] at e1
   simp only[go_sem,h0,e1,cond_false,Int.toNat_natCast,List.range_eq_range',decide_true,List.nil_append]
structure PartK (c:Con):Prop where
 ty:c.has=true→PartT c.arg∧tyS c.arg=txt10 bigV c.arg
 len:c.name.length≤32
theorem Qfw{c:Con}(H:PartK c)(s:St):cw (.f Q5B) [c.enc] s=some (.ret (.val (.str (conS c))),s):=by
 have ct:=Ty.cells_eq c.arg
 have cc:c.cells = .str c.name :: .int .i64 c.at_ :: .bool c.has::c.arg.cells:=rfl
 have hn:=H.len
 rw[Qgv]
 unfold conS
 cases hh:c.has with
 |false=>simp only[go_sem,Nat.reduceAdd,Nat.reduceLeDiff,Con.enc,cc,ct,hh,cond_false]
 |true=>
   obtain⟨H1,H2⟩:=H.ty hh
   have e1:=H1.ok s
   have hl:=H1.len
   rw[H2]
   generalize txt10 bigV c.arg=y at *
   obtain⟨b1,b2⟩:=adds3 (t1:=C.ti Q1) (t2:=C.ti Q1) (a:=c.name) (b:=[32,111,102,32]) (c:=y) (by simp only[List.length_cons,List.length_nil];omega)
   simp only[List.append_assoc,List.cons_append,List.nil_append] at b1 b2
   simp only[Ty.enc,ct] at e1
   simp only[go_sem,Nat.reduceAdd,Nat.reduceLeDiff,Con.enc,cc,ct,hh,e1,b1,b2,cond_true]
theorem QhC{c:Con}(H:PartK c):(conS c).length<2^41:=by
 have hn:=H.len
 unfold conS
 cases hh:c.has with
 |false=>simp only[cond_false];omega
 |true=>
   obtain⟨H1,H2⟩:=H.ty hh
   have hl:=H1.len
   rw[H2]
   simp only[cond_true,List.length_append,List.length_cons,List.length_nil];omega
section
variable (a:Int) (nm:Str) (p:Int) (cons:List Con) (nb:Bool) (cs:List Case) (cb:Bool) (fs:List Fun) (fb:Bool)
theorem Qfz(k:Int)(hl:cons.length<2^40)(H:∀ c ∈ cons,PartK c)(s:St)(r:Str→Option (Out × St))(hr:∀ x:Str,x.length<2^51→(bif decide (k=3) then some (.ret (.val (.str x)),s) else Q20 ((Dec.mk k a nm p cons nb cs cb fs fb).cells.map .val) (.val (.str [102,117,110,32])) (.val (.int .i64 fs.length)) (.val (.int .i64 0)) s)=r x):∀ (suf pre:List Con) (acc:Str) (i:Nat),pre++suf=cons→i=pre.length→acc.length+((suf.map conS).map (·.length)).sum+10*suf.length<2^50→
  Q30 ((Dec.mk k a nm p cons nb cs cb fs fb).cells.map .val) (.val (.str acc)) (.val (.int .i64 cons.length)) (.val (.int .i64 i)) s=r (acc++joinS [32,124,32] (suf.map conS) (decide (pre.length=0)))
 |[],pre,acc,i,h,hi,hb=>by
   subst hi
   have hx:=hr acc (by omega)
   rw[Q7D]
   simp only[Dec.cells_mk,List.map_cons,List.map_nil] at hx
   cases hk:decide (k=3) with
   |true=>
     rw[hk] at hx
     simp only[go_sem,Nat.reduceAdd,Nat.reduceLeDiff,Dec.cells_mk,Qa (by simpa using h),hk,List.map_nil,joinS,List.append_nil,cond_true] at hx ⊢
     exact hx
   |false=>
     rw[hk] at hx
     simp only[go_sem,Nat.reduceAdd,Nat.reduceLeDiff,Dec.cells_mk,Qa (by simpa using h),hk,List.map_nil,joinS,List.append_nil,cond_false,Q4,List.length_map] at hx ⊢
     exact hx
 |c::suf,pre,acc,i,h,hi,hb=>by
   subst hi
   obtain⟨f1,f2',f3⟩:=Q9 (x:=.val (encS nb (cons.map Con.enc))) (Q4 _ _) h (by omega) (Con.cells_len c) (by decide)
   have f2:ixS 7 (.val (encS nb (cons.map Con.enc))) (.val (.int .i64 (pre.length:Int)))=some (.val (.cp c.cells)):=f2'
   clear f2'
   have e1:=Qfw (H c (by rw[←h];simp)) s
   have hcl:=QhC (H c (by rw[←h];simp))
   have ct:=Ty.cells_eq c.arg
   have cc:c.cells = .str c.name :: .int .i64 c.at_ :: .bool c.has::c.arg.cells:=rfl
   rw[cc,ct] at f2
   simp only[Con.enc,cc,ct] at e1
   simp only[List.map_cons,List.sum_cons,List.length_cons] at hb ⊢
   have hd1:decide ((pre++[c]).length=0)=false:=decide_eq_false (by simp)
   have IH:=λ(acc':Str) (hb':acc'.length+((suf.map conS).map (·.length)).sum+10*suf.length<2^50)=>Qfz k hl H s r hr suf (pre++[c]) acc' (pre.length+1) (by simpa using h) (by simp) hb'
   rw[hd1] at IH
   generalize conS c=y at *
   rw[Q7D]
   cases hz:decide (pre.length=0) with
   |true=>
     have hz':=of_decide_eq_true hz
     have z:decide ((pre.length:Int)>0)=false:=decide_eq_false (by omega)
     have b1:=adds2 (t1:=C.ti Q1) (a:=acc) (b:=y) (by omega)
     have ih:=IH (acc++y) (by simp only[List.length_append];omega)
     simp only[go_sem,Nat.reduceAdd,Nat.reduceLeDiff,Dec.cells_mk,f1,f2,f3,z,Q7C,e1,b1,joinS,List.append_assoc] at ih ⊢
     exact ih
   |false=>
     have hz':=of_decide_eq_false hz
     have z:decide ((pre.length:Int)>0)=true:=decide_eq_true (by omega)
     obtain⟨b1,b2⟩:=adds3 (t1:=C.ti Q1) (t2:=C.ti Q1) (a:=acc) (b:=[32,124,32]) (c:=y) (by simp only[List.length_cons,List.length_nil];omega)
     have ih:=IH (acc++[32,124,32]++y) (by simp only[List.length_append,List.length_cons,List.length_nil];omega)
     simp only[go_sem,Nat.reduceAdd,Nat.reduceLeDiff,Dec.cells_mk,f1,f2,f3,z,Q7C,e1,b1,b2,joinS,List.append_assoc] at ih ⊢
     exact ih
theorem Qjj(k:Int)(hl:fs.length<2^40)(H:∀ f ∈ fs,PartY f.case∧f.name.length≤32)(s:St):∀ (suf pre:List Fun) (acc:Str) (i:Nat),pre++suf=fs→i=pre.length→acc.length+((suf.map funS).map (·.length)).sum+10*suf.length<2^50→
  Q20 ((Dec.mk k a nm p cons nb cs cb fs fb).cells.map .val) (.val (.str acc)) (.val (.int .i64 fs.length)) (.val (.int .i64 i)) s=some (.ret (.val (.str (acc++joinS [32,97,110,100,32] (suf.map funS) (decide (pre.length=0))))),s)
 |[],pre,acc,i,h,hi,hb=>by
   subst hi
   rw[Q7E]
   simp only[go_sem,Dec.cells_mk,Qa (by simpa using h),List.map_nil,joinS,List.append_nil]
 |f::suf,pre,acc,i,h,hi,hb=>by
   subst hi
   obtain⟨f1,f2',f3⟩:=Q9 (x:=.val (encS fb (fs.map Fun.enc))) (Q4 _ _) h (by omega) (Fun.cells_len f) (by decide)
   have f2:ixS 14 (.val (encS fb (fs.map Fun.enc))) (.val (.int .i64 (pre.length:Int)))=some (.val (.cp f.cells)):=f2'
   clear f2'
   obtain⟨hf,hn⟩:=H f (by rw[←h];simp)
   have e1:=Q5v hf.p 2 s
   have e2:=Q17 hf.e s
   have cf:f.cells=_:=Fun.cells_eq f
   have cc:f.case.cells=_:=Case.cells_eq f.case
   have cp:=Pat.cells_eq f.case.pat
   have ce:=Exp.cells_eq f.case.exp
   rw[cf,cc,cp,ce] at f2
   simp only[List.cons_append,List.nil_append] at f2
   simp only[Pat.enc,cp] at e1
   simp only[Exp.enc,ce] at e2
   have hlen:(funS f).length=f.name.length+1+(parS (decide (patLv f.case.pat<2)) (patS f.case.pat)).length+3+(expS f.case.exp).length:=by
    unfold funS
    simp only[List.length_append,List.length_cons,List.length_nil];omega
   simp only[List.map_cons,List.sum_cons,List.length_cons] at hb ⊢
   rw[hlen] at hb
   have hd1:decide ((pre++[f]).length=0)=false:=decide_eq_false (by simp)
   have IH:=λ(acc':Str) (hb':acc'.length+((suf.map funS).map (·.length)).sum+10*suf.length<2^50)=>Qjj k hl H s suf (pre++[f]) acc' (pre.length+1) (by simpa using h) (by simp) hb'
   rw[hd1] at IH
   have hS:=funS.eq_1 f
   rw[hS] at hlen ⊢
   clear hS
   generalize parS (decide (patLv f.case.pat<2)) (patS f.case.pat)=y at *
   generalize expS f.case.exp=w at *
   have J:∀ acc1:Str,acc1.length+f.name.length+1+y.length+3+w.length+((suf.map funS).map (·.length)).sum+10*suf.length<2^50→
     Q2Z ((Dec.mk k a nm p cons nb cs cb fs fb).cells.map .val) (.val (.str acc1)) (.val (.int .i64 pre.length)) (.val (.int .i64 fs.length)) (.val (.int .i64 pre.length)) s=some (.ret (.val (.str (acc1++(f.name++(32::(y++([32,61,32]++w))))++joinS [32,97,110,100,32] (suf.map funS) false))),s):=λacc1 hb1=>by
    have ih:=IH (acc1++(f.name++(32::(y++([32,61,32]++w))))) (by simp only[List.length_append,List.length_cons,List.length_nil];omega)
    obtain⟨b1,b2,b3,b4,b5⟩:=adds6 (t1:=C.ti Q1) (t2:=C.ti Q1) (t3:=C.ti Q1) (t4:=C.ti Q1) (t5:=C.ti Q1) (a:=acc1) (b:=f.name) (c:=[32]) (d:=y) (e:=[32,61,32]) (f:=w) (by simp only[List.length_cons,List.length_nil];omega)
    simp only[List.append_assoc,List.cons_append,List.nil_append] at b1 b2 b3 b4 b5 ih ⊢
    rw[Qch]
    simp only[Dec.cells_mk,List.map_cons,List.map_nil] at ih ⊢
    simp only[go_sem,Nat.reduceAdd,Nat.reduceLeDiff,Dec.cells_mk,f2,f3,e1,e2,b1,b2,b3,b4,b5,ih,List.append_assoc,List.cons_append,List.nil_append]
   rw[Q7E]
   simp only[Dec.cells_mk,List.map_cons,List.map_nil] at J
   cases hz:decide (pre.length=0) with
   |true=>
     have hz':=of_decide_eq_true hz
     have z:decide ((pre.length:Int)>0)=false:=decide_eq_false (by omega)
     have j:=J acc (by omega)
     simp only[List.append_assoc,List.cons_append,List.nil_append] at j
     simp only[go_sem,Dec.cells_mk,f1,z,j,joinS,List.append_assoc,List.cons_append,List.nil_append]
   |false=>
     have hz':=of_decide_eq_false hz
     have z:decide ((pre.length:Int)>0)=true:=decide_eq_true (by omega)
     have b1:=adds2 (t1:=C.ti Q1) (a:=acc) (b:=[32,97,110,100,32]) (by simp only[List.length_cons,List.length_nil];omega)
     have j:=J (acc++[32,97,110,100,32]) (by simp only[List.length_append,List.length_cons,List.length_nil];omega)
     simp only[List.append_assoc,List.cons_append,List.nil_append] at b1 j
     simp only[go_sem,Dec.cells_mk,f1,z,b1,j,joinS,List.append_assoc,List.cons_append,List.nil_append]
def ZOK(d:Dec):Prop:=∀ s,cw (.f Q1n) [d.enc] s=some (.ret (.val (.str (decS d))),s)
theorem Qwq{c:Case}(qc:cs[0]? = some c)(hc:PartY c):ZOK (.mk 1 a nm p cons nb cs cb fs fb):=λs=>by
 have f0:=QcY (b:=cb) qc
 have cc:c.cells=_:=Case.cells_eq c
 have cp:=Pat.cells_eq c.pat
 have ce:=Exp.cells_eq c.exp
 rw[cc,cp,ce,show ((0:Nat):Int)=0 from rfl] at f0
 simp only[List.cons_append,List.nil_append] at f0
 have e1:=Q5v hc.p 0 s
 rw[Q8Q,show parS false (patS c.pat)=patS c.pat from rfl] at e1
 have e2:=Q17 hc.e s
 have l1:=hc.p.len
 have l2:=hc.e.len
 have hcs:(caseSs cs).headD ([],[],false)=(patS c.pat,expS c.exp,openE c.exp):=by
  rw[Q08]
  cases cs with
  |nil=>simp at qc
  |cons x l=>simp at qc;subst qc;rfl
 rw[Q4J,decS,hcs]
 simp only[Pat.enc,cp] at e1
 simp only[Exp.enc,ce] at e2
 generalize patS c.pat=y at *
 generalize expS c.exp=w at *
 obtain⟨b1,b2,b3⟩:=adds4 (t1:=C.ti Q1) (t2:=C.ti Q1) (t3:=C.ti Q1) (a:=[118,97,108,32]) (b:=y) (c:=[32,61,32]) (d:=w) (by simp only[List.length_cons,List.length_nil];omega)
 simp only[List.append_assoc,List.cons_append,List.nil_append] at b1 b2 b3
 simp only[go_sem,Int.reduceEq,Nat.reduceAdd,Nat.reduceLeDiff,Dec.cells_mk,decide_true,decide_false,f0,e1,e2,b1,b2,b3,cond_true,cond_false]
theorem Qwt{c:Con}(qc:cons[0]? = some c)(hc:PartK c):ZOK (.mk 4 a nm p cons nb cs cb fs fb):=λs=>by
 have f0:=Qfv (b:=nb) qc
 have cc:c.cells = .str c.name :: .int .i64 c.at_ :: .bool c.has::c.arg.cells:=rfl
 have ct:=Ty.cells_eq c.arg
 rw[cc,ct,show ((0:Nat):Int)=0 from rfl] at f0
 have e1:=Qfw hc s
 have l1:=QhC hc
 have hh:(cons.map conS).headD []=conS c:=by
  cases cons with
  |nil=>simp at qc
  |cons x l=>simp at qc;subst qc;rfl
 rw[Q4J,decS,hh]
 simp only[Con.enc,cc,ct] at e1
 generalize conS c=y at *
 have b1:=adds2 (t1:=C.ti Q1) (a:=[101,120,99,101,112,116,105,111,110,32]) (b:=y) (by simp only[List.length_cons,List.length_nil];omega)
 simp only[List.append_assoc,List.cons_append,List.nil_append] at b1
 simp only[go_sem,Int.reduceEq,Nat.reduceAdd,Nat.reduceLeDiff,Dec.cells_mk,decide_true,decide_false,f0,e1,b1,cond_true,cond_false]
theorem Qws(hp:0≤p∧p≤8)(hn:nm.length≤32)(H:∀ c ∈ cons,PartK c)(hl:cons.length<2^30)(hs:((cons.map conS).map (·.length)).sum<2^45):ZOK (.mk 3 a nm p cons nb cs cb fs fb):=λs=>by
 have e1:=QaV p hp s
 have h1:=Qem p hp
 rw[Q4J,decS]
 generalize parmS p=y at *
 obtain⟨b1,b2,b3⟩:=adds4 (t1:=C.ti Q1) (t2:=C.ti Q1) (t3:=C.ti Q1) (a:=[100,97,116,97,116,121,112,101,32]) (b:=y) (c:=nm) (d:=[32,61,32]) (by simp only[List.length_cons,List.length_nil];omega)
 have e2:=Qfz a nm p cons nb cs cb fs fb 3 (by omega) H s (λx=>some (.ret (.val (.str x)),s)) (λx _=>rfl) cons [] ([100,97,116,97,116,121,112,101,32]++y++nm++[32,61,32]) 0 rfl rfl (by simp only[List.length_append,List.length_cons,List.length_nil];omega)
 rw[show ((0:Nat):Int)=0 from rfl] at e2
 simp only[List.append_assoc,List.cons_append,List.nil_append,Dec.cells_mk,List.map_cons,List.map_nil,List.length_nil,decide_true] at b1 b2 b3 e2
 simp only[go_sem,Int.reduceEq,Nat.reduceAdd,Dec.cells_mk,decide_true,decide_false,e1,b1,b2,b3,Q4,List.length_map,e2,cond_true,cond_false,List.append_assoc,List.cons_append,List.nil_append]
theorem Qwr(hp:p=0)(hn:nm=[])(hc:cons=[])(H:∀ f ∈ fs,PartY f.case∧f.name.length≤32)(hl:fs.length<2^30)(hs:((fs.map funS).map (·.length)).sum<2^45):ZOK (.mk 2 a nm p cons nb cs cb fs fb):=λs=>by
 subst hp hn hc
 have e1:=QaV 0 (by decide) s
 have hp0:parmS 0=[]:=rfl
 rw[hp0] at e1
 have e3:=Qjj a [] 0 [] nb cs cb fs fb 2 (by omega) H s fs [] [102,117,110,32] 0 rfl rfl (by simp only[List.length_cons,List.length_nil];omega)
 rw[show ((0:Nat):Int)=0 from rfl] at e3
 have e2:=Qfz a [] 0 [] nb cs cb fs fb 2 (by simp) (by simp) s (λ_=>some (.ret (.val (.str ([102,117,110,32]++joinS [32,97,110,100,32] (fs.map funS) true))),s)) (λx _=>by
  rw[show decide ((2:Int)=3)=false from rfl,cond_false,e3];rfl) [] [] [100,97,116,97,116,121,112,101,32,32,61,32] 0 rfl rfl (by simp)
 rw[show ((0:Nat):Int)=0 from rfl] at e2
 obtain⟨b1,b2,b3⟩:=adds4 (t1:=C.ti Q1) (t2:=C.ti Q1) (t3:=C.ti Q1) (a:=[100,97,116,97,116,121,112,101,32]) (b:=[]) (c:=[]) (d:=[32,61,32]) (by simp)
 rw[Q4J,decS,Q5L]
 simp only[List.append_assoc,List.cons_append,List.nil_append,List.append_nil,Dec.cells_mk,List.map_cons,List.map_nil,List.length_nil,Q1q] at b1 b2 b3 e2
 simp only[go_sem,Int.reduceEq,Nat.reduceAdd,Dec.cells_mk,decide_true,decide_false,e1,b1,b2,b3,List.map_nil,Q1q,Q4,List.length_nil,e2,cond_true,cond_false,List.append_assoc,List.cons_append,List.nil_append]
end
structure PartZ (d:Dec):Prop where
 ok:ZOK d
 len:(decS d).length<2^40
theorem QdV(ds:List Dec)(b:Bool)(x:Str)(hx:x.length≤5)(hl:ds.length<2^40)(H:∀ d ∈ ds,PartZ d)(s:St):∀ (suf pre:List Dec) (acc:Str) (i:Nat),pre++suf=ds→i=pre.length→acc.length+((decSs suf).map (·.length)).sum+10*suf.length<2^50→
  Q2r (.val (encS b (ds.map Dec.enc))) (.val (.str x)) (.val (.str acc)) (.val (.int .i64 ds.length)) (.val (.int .i64 i)) s=some (.ret (.val (.str (acc++((decSs suf).map (· ++ x)).flatten))),s)
 |[],pre,acc,i,h,hi,hb=>by
   subst hi
   rw[Q7e,Q2T]
   simp only[go_sem,Qa (by simpa using h),List.map_nil,List.flatten_nil,List.append_nil]
 |d::suf,pre,acc,i,h,hi,hb=>by
   subst hi
   obtain⟨f1,f2',f3⟩:=Q9 (x:=.val (encS b (ds.map Dec.enc))) (Q4 _ _) h (by omega) (Dec.cells_len d) (by decide)
   have f2:ixS 7 (.val (encS b (ds.map Dec.enc))) (.val (.int .i64 (pre.length:Int)))=some (.val (.cp d.cells)):=f2'
   clear f2'
   have hd:=H d (by rw[←h];simp)
   have e1:=hd.ok s
   have hdl:=hd.len
   have cd:=Dec.cells_eq d
   rw[cd] at f2
   simp only[Dec.enc,cd] at e1
   have hS:decSs (d::suf)=decS d::decSs suf:=by rw[decSs]
   rw[hS] at hb ⊢
   simp only[List.map_cons,List.sum_cons,List.length_cons,List.flatten_cons] at hb ⊢
   have ih:=QdV ds b x hx hl H s suf (pre++[d]) (acc++(decS d++x)) (pre.length+1) (by simpa using h) (by simp) (by simp only[List.length_append];omega)
   generalize decS d=y at *
   obtain⟨b1,b2⟩:=adds3 (t1:=C.ti Q1) (t2:=C.ti Q1) (a:=acc) (b:=y) (c:=x) (by omega)
   simp only[List.append_assoc] at b1 b2 ih
   rw[Q7e]
   simp only[go_sem,Nat.reduceAdd,Nat.reduceLeDiff,f1,f2,f3,e1,b1,b2,ih,List.append_assoc]
theorem QdW(ds:List Dec)(b:Bool)(x:Str)(hx:x.length≤5)(hl:ds.length<2^30)(H:∀ d ∈ ds,PartZ d)(hs:((decSs ds).map (·.length)).sum<2^45)(s:St):cw (.f Q2M) [encS b (ds.map Dec.enc),.str x] s=some (.ret (.val (.str (((decSs ds).map (· ++ x)).flatten))),s):=by
 have e1:=QdV ds b x hx (by omega) H s ds [] [] 0 rfl rfl (by simp only[List.length_nil];omega)
 rw[show ((0:Nat):Int)=0 from rfl] at e1
 rw[QeW]
 simp only[go_sem,Q4,List.length_map,List.nil_append] at e1 ⊢
 exact e1
end Go.Proofs.YtgfhplcmcdimiaaGreatDoor
namespace Go.Proofs.YtgfhplcmcdimiaaGreatDoor
open Go Go.Am
set_option linter.unusedVariables false
set_option maxRecDepth 4000
section
variable (a:Int) (nm:Str) (n:Int) (kids:List Exp) (kb:Bool) (cs:List Case) (cb:Bool) (ds:List Dec) (db:Bool)
theorem Qwn{x:Exp}(qx:kids[0]? = some x)(hx:PartX x)(HD:∀ d ∈ ds,PartZ d)(hl:ds.length<2^30)(hs:((decSs ds).map (·.length)).sum<2^45)(hf:(((decSs ds).map (· ++ [32])).flatten).length<2^46):XOK (.mk 7 a nm n kids kb cs cb ds db):=λs=>by
 have f0:ixS 7 (.val (encS kb (kids.map Exp.enc))) (.val (.int .i64 0))=some (.val (.cp x.cells)):=ZG qx
 have e1:=Q17 hx s
 have l1:=hx.len
 have e2:=QdW ds db [32] (by decide) hl HD hs s
 have cx:=Exp.cells_eq x
 rw[QE,expS]
 simp only[Q4d qx]
 simp only[Exp.enc,cx] at e1
 rw[cx] at f0
 generalize expS x=u at *
 generalize ((decSs ds).map (· ++ [32])).flatten=y at *
 obtain⟨b1,b2,b3,b4⟩:=adds5 (t1:=C.ti Q1) (t2:=C.ti Q1) (t3:=C.ti Q1) (t4:=C.ti Q1) (a:=[108,101,116,32]) (b:=y) (c:=[105,110,32]) (d:=u) (e:=[32,101,110,100]) (by simp only[List.length_cons,List.length_nil];omega)
 simp only[List.append_assoc,List.cons_append,List.nil_append] at b1 b2 b3 b4
 simp only[go_sem,Int.reduceEq,Nat.reduceAdd,Nat.reduceLeDiff,Exp.cells_mk,decide_true,decide_false,f0,e1,e2,b1,b2,b3,b4,cond_true,cond_false,List.append_assoc,List.cons_append,List.nil_append]
theorem QtQ(k:Int)(I:ExpIs k n nm kids.length cs.length ds.length)(hs:(Exp.mk k a nm n kids kb cs cb ds db).size<2^22)
  (HK:∀ e ∈ kids,PartX e) (HC:∀ c ∈ cs,PartY c) (HD:∀ d ∈ ds,PartZ d)
  (LK:∀ e ∈ kids,(expS e).length+20≤500*e.size) (LC:∀ c ∈ cs,(patS c.pat).length+20≤500*c.pat.size∧(expS c.exp).length+20≤500*c.exp.size) (LD:∀ d ∈ ds,(decS d).length+20≤500*d.size):XOK (.mk k a nm n kids kb cs cb ds db):=by
 simp only[Exp.size] at hs
 have y1:=Qe2 LK
 have y2:=Q8x LC
 have y3:=QdT LD
 have y5:((decSs ds).map (·.length)).sum≤(((decSs ds).map (· ++ [32])).flatten).length:=by
  generalize decSs ds=l
  induction l with
  |nil=>simp
  |cons q l ih=>simp only[List.map_cons,List.sum_cons,List.flatten_cons,List.length_append];omega
 rw[←Q9P,Qe1] at y1
 have z1:=Exp.len_sizes kids
 have z2:=Case.len_sizes cs
 have z3:=Dec.len_sizes ds
 have hk:k=1∨k=2∨k=3∨k=4∨k=5∨k=6∨k=7∨k=8∨k=9∨k=10∨k=11∨k=12∨k=13∨k=14∨k=15∨k=16∨k=17∨k=18∨k=19∨k=20:=by have:=I.kind;omega
 have one:∀ h:k=12∨k=16∨k=17∨k=19,∃ x,kids[0]? = some x∧x ∈ kids:=λh=>nth0 (by have:=I.one h;omega)
 have two:∀ h:k=6∨k=14∨k=15∨k=18,∃ x y,kids[0]? = some x∧kids[1]? = some y∧x ∈ kids∧y ∈ kids:=λh=>by
  have:=I.two h
  obtain⟨x,h1,h2⟩:=nth0 (l:=kids) (by omega)
  obtain⟨y,h3,h4⟩:=nth1 (l:=kids) (by omega)
  exact⟨x,y,h1,h3,h2,h4⟩
 rcases hk with rfl | rfl | rfl | rfl | rfl | rfl | rfl | rfl | rfl | rfl | rfl | rfl | rfl | rfl | rfl | rfl | rfl | rfl | rfl | rfl
 ·exact Qwi a nm n kids kb cs cb ds db (I.int rfl)
 ·exact Qwj a nm n kids kb cs cb ds db
 ·exact Qwk a nm n kids kb cs cb ds db (Qae (I.con rfl).1) HK
 ·exact Qk4 a nm n kids kb cs cb ds db 4 _ (.inl ⟨rfl,rfl⟩) HK (by omega) (by omega)
 ·exact Qwl a nm n kids kb cs cb ds db HC (by omega) (by omega)
 ·obtain⟨x,y,h1,h2,h3,h4⟩:=two (by simp)
  exact Qwm a nm n kids kb cs cb ds db h1 h2 (HK x h3) (HK y h4)
 ·obtain⟨x,h1,h2⟩:=nth0 (l:=kids) (by have:=(I.letd rfl).1;omega)
  exact Qwn a nm n kids kb cs cb ds db h1 (HK x h2) HD (by omega) (by omega) (by omega)
 ·obtain⟨x,h1,h2⟩:=nth0 (l:=kids) (by have:=I.if_ rfl;omega)
  obtain⟨y,h3,h4⟩:=nth1 (l:=kids) (by have:=I.if_ rfl;omega)
  obtain⟨z,h5,h6⟩:=nth2 (l:=kids) (by have:=I.if_ rfl;omega)
  exact Qwo a nm n kids kb cs cb ds db h1 h3 h5 (HK x h2) (HK y h4) (HK z h6)
 ·obtain⟨x,h1,h2⟩:=nth0 (l:=kids) (by have:=(I.case_ rfl).1;omega)
  exact Qwp a nm n kids kb cs cb ds db h1 (HK x h2) HC (by omega) (by omega)
 ·exact Qk4 a nm n kids kb cs cb ds db 10 _ (.inr ⟨rfl,rfl⟩) HK (by omega) (by omega)
 ·obtain⟨x,h1,h2⟩:=nth0 (l:=kids) (by have:=(I.try_ rfl).1;omega)
  exact QtL a nm n kids kb cs cb ds db h1 (HK x h2) HC (by omega) (by omega)
 ·obtain⟨x,h1,h2⟩:=one (by simp)
  exact QtM a nm n kids kb cs cb ds db h1 (HK x h2)
 ·obtain⟨hl,hn⟩:=I.op rfl
  obtain⟨x,h1,h2⟩:=nth0 (l:=kids) (by omega)
  obtain⟨y,h3,h4⟩:=nth1 (l:=kids) (by omega)
  exact QtN a nm n kids kb cs cb ds db h1 h3 (HK x h2) (HK y h4) hn
 ·obtain⟨x,y,h1,h2,h3,h4⟩:=two (by simp)
  exact Qk3 a nm n kids kb cs cb ds db 14 5 4 _ (.inr ⟨rfl,rfl,rfl,rfl⟩) h1 h2 (HK x h3) (HK y h4)
 ·obtain⟨x,y,h1,h2,h3,h4⟩:=two (by simp)
  exact Qk3 a nm n kids kb cs cb ds db 15 4 3 _ (.inl ⟨rfl,rfl,rfl,rfl⟩) h1 h2 (HK x h3) (HK y h4)
 ·obtain⟨x,h1,h2⟩:=one (by simp)
  exact QgR a nm n kids kb cs cb ds db 16 _ (.inl ⟨rfl,rfl⟩) h1 (HK x h2)
 ·obtain⟨x,h1,h2⟩:=one (by simp)
  exact QgR a nm n kids kb cs cb ds db 17 _ (.inr (.inl ⟨rfl,rfl⟩)) h1 (HK x h2)
 ·obtain⟨x,y,h1,h2,h3,h4⟩:=two (by simp)
  exact QtO a nm n kids kb cs cb ds db h1 h2 (HK x h3) (HK y h4)
 ·obtain⟨x,h1,h2⟩:=one (by simp)
  exact QgR a nm n kids kb cs cb ds db 19 _ (.inr (.inr ⟨rfl,rfl⟩)) h1 (HK x h2)
 ·exact QtP a nm n kids kb cs cb ds db
end
theorem QgL:∀ m:Nat,(∀ e:Exp,e.size≤m→e.size<2^22→RN (nodesExp e)→XOK e)∧(∀ (d:Dec) (i:Bool),d.size≤m→d.size<2^22→RN (nodesDec i d)→(i=true∨NumCons d.cons)→ZOK d)
 |0=>⟨λe h=>by cases e;simp only[Exp.size] at h;omega,λd i h=>by cases d;simp only[Dec.size] at h;omega⟩
 |m+1=>by
   obtain⟨HE,HD⟩:=QgL m
   have HX:∀ e:Exp,e.size≤m→e.size<2^22→RN (nodesExp e)→PartX e:=λe h1 h2 hr=>⟨HE e h1 h2 hr,hr,by have:=Q71 hr;omega⟩
   have HP:∀ p:Pat,p.size≤m→p.size<2^22→RN (nodesPat p)→PartP p:=λp h1 h2 hr=>QaW p.size p (Nat.le_refl _) (by omega) hr
   have LP:∀ p:Pat,RN (nodesPat p)→(patS p).length+20≤500*p.size:=λp hr=>Q44 p.size p (Nat.le_refl _) hr
   have HC:∀ cs:List Case,Case.sizes cs≤m→Case.sizes cs<2^22→RN (nodesCases cs)→∀ c ∈ cs,PartY c∧(patS c.pat).length+20≤500*c.pat.size∧(expS c.exp).length+20≤500*c.exp.size:=λcs hs hs2 hr c hc=>by
    have h1:=Case.mem_sizes hc
    have h2:=RN.cases hr c hc
    cases c with
    |mk p e=>
      simp only[Case.size] at h1
      simp only[nodesCase] at h2
      exact⟨⟨HP p (by omega) (by omega) h2.l,HX e (by omega) (by omega) h2.r⟩,LP p h2.l,Q71 h2.r⟩
   refine⟨λe h hb hr=>?_,λd i h hb hr hn=>?_⟩
   ·cases e with
    |mk k a nm n kids kb cs cb ds db=>
      have hb':=hb
      simp only[Exp.size] at h hb
      simp only[nodesExp] at hr
      have I:ExpIs k n nm kids.length cs.length ds.length:=Q9D (hr _ List.mem_cons_self)
      have hr':=hr.t
      have hC:=HC cs (by omega) (by omega) hr'.r.r
      refine QtQ a nm n kids kb cs cb ds db k I hb' (λe he=>?_) (λc hc=>(hC c hc).1) (λd hd=>?_) (λe he=>Q71 (RN.exps hr'.r.l e he)) (λc hc=>(hC c hc).2) (λd hd=>Q6Z (RN.decs hr'.l d hd) (.inl rfl))
      ·have:=Exp.mem_sizes he
       exact HX e (by omega) (by omega) (RN.exps hr'.r.l e he)
      ·have:=Dec.mem_sizes hd
       have h3:=Q6Z (RN.decs hr'.l d hd) (.inl rfl)
       exact⟨HD d true (by omega) (by omega) (RN.decs hr'.l d hd) (.inl rfl),by omega⟩
   ·cases d with
    |mk k a nm p cons nb cs cb fs fb=>
      simp only[Dec.size] at h hb
      simp only[nodesDec] at hr
      have I:DecIs k nm p cons.length cs.length fs.length i:=Q9y (hr _ List.mem_cons_self)
      have hr':=hr.t
      have hC:=HC cs (by omega) (by omega) hr'.l
      have HN:∀ c ∈ cons,PartK c∧(conS c).length+20≤500*c.size:=λc hc=>by
       have hs1:=Con.mem_sizes hc
       have h1:∀ n ∈ nodesCon c,n.wrong.1=0:=λn hn=>hr'.r.r n (Q1N hc n hn)
       have hw:wrongConB c=0:=h1 (.con c) (by unfold nodesCon;exact List.mem_cons_self)
       have hcap:capB c.name=true:=by
        unfold wrongConB at hw
        grind
       have key:c.has=true→allTy goodB c.arg=true∧VarOK c.arg:=λhh=>by
        rcases hn with rfl | hn
        ·have hz:cons=[]:=by
          rcases I.inn rfl with h2 | h2
          ·exact len0 (I.val h2).2.2
          ·exact len0 (I.fn h2).2.1
         rw[hz] at hc;cases hc
        ·exact⟨Q5r c.at_ c.arg λn hn=>h1 n (by unfold nodesCon;rw[hh];exact List.mem_cons_of_mem _ hn),hn c hc hh⟩
       refine⟨⟨λhh=>?_,QcX hcap⟩,Qft hcap key⟩
       obtain⟨hg,hv⟩:=key hh
       refine⟨QcK c.arg.size c.arg (Nat.le_refl _) (by unfold Con.size at hs1;omega) hg hv,?_⟩
       unfold tyS
       exact (QdE hg hv).2
      have hcl:=QdS λc hc=>(HN c hc).2
      have z1:=Con.len_sizes cons
      have z2:=Fun.len_sizes fs
      have HF:∀ f ∈ fs,(PartY f.case∧f.name.length≤32)∧f.name.length≤32∧(patS f.case.pat).length+20≤500*f.case.pat.size∧(expS f.case.exp).length+20≤500*f.case.exp.size:=λf hf=>by
       have h1:=Fun.mem_sizes hf
       have h2:=RN.funs hr'.r.l f hf
       have h3:=Q3i (Qd1 hr'.r.l f hf)
       cases f with
       |mk nm' a' c'=>
         cases c' with
         |mk p' e'=>
           simp only[Fun.size,Case.size] at h1
           simp only[Fun.case,nodesCase] at h2
           exact⟨⟨⟨HP p' (by omega) (by omega) h2.l,HX e' (by omega) (by omega) h2.r⟩,h3⟩,h3,LP p' h2.l,Q71 h2.r⟩
      have hfl:=Qec λf hf=>(HF f hf).2
      rw[Q5L] at hfl
      rcases I.kind with rfl | rfl | rfl | rfl
      ·obtain⟨c,h1,h2⟩:=nth0 (l:=cs) (by have:=(I.val rfl).1;omega)
       exact Qwq a nm p cons nb cs cb fs fb h1 (hC c h2).1
      ·have hfn:=I.fn rfl
       exact Qwr a nm p cons nb cs cb fs fb (by first | exact hfn.2.2.2.1 | grind [DecIs]) (by first | exact hfn.2.2.2.2 | grind [DecIs]) (len0 hfn.2.1) (λf hf=>(HF f hf).1) (by omega) (by omega)
      ·have hd:=I.data rfl
       exact Qws a nm p cons nb cs cb fs fb ⟨hd.2.2.1,hd.2.2.2.1⟩ (Q3i hd.2.2.2.2.1) (λc hc=>(HN c hc).1) (by omega) (by omega)
      ·obtain⟨c,h1,h2⟩:=nth0 (l:=cons) (by have:=(I.exn rfl).2.2;omega)
       exact Qwt a nm p cons nb cs cb fs fb h1 (HN c h2).1
theorem Qwu{d:Dec}{i:Bool}(hs:d.size<2^22)(hr:RN (nodesDec i d))(hn:NumCons d.cons):PartZ d:=⟨(QgL d.size).2 d i (Nat.le_refl _) hs hr (.inr hn),by have:=Q6Z hr (.inr hn);omega⟩
end Go.Proofs.YtgfhplcmcdimiaaGreatDoor
namespace Go.Am
open Go
set_option linter.unusedVariables false
set_option maxRecDepth 4000
def InB(B:List (Nat × TypeId))(s:St):Prop:=∀ p ∈ B,p ∈ s.bl
def KB(B:List (Nat × TypeId))(r:Res):Prop:=∀ o s',r=some (o,s')→InB B s'
section
variable {B:List (Nat × TypeId)} {C:Cfg}
theorem InB.of{s s':St}(h:InB B s)(e:s'.bl=s.bl):InB B s':=λp hp=>by rw[e];exact h p hp
theorem KB.no:KB B none:=λo s' h=>by cases h
theorem KB.yes{o:Out}{s:St}(h:InB B s):KB B (some (o,s)):=λo s' k=>by cases k;exact h
theorem KB.back{r:Res}{k:Slot→St→Res}(h:KB B r)(hk:∀ v s,InB B s→KB B (k v s)):KB B (back r k):=by
 match r,h with
 |none,h=>exact .no
 |some (.ret v,s),h=>exact hk v s (h _ _ rfl)
 |some (.pan v,s),h=>exact .yes (h _ _ rfl)
theorem KB.noPan{r:Res}(h:KB B r):KB B (noPan r):=by
 match r,h with
 |none,h=>exact .no
 |some (.ret v,s),h=>exact .yes (h _ _ rfl)
 |some (.pan v,s),h=>exact .no
theorem KB.bind1{r:Option Slot}{k:Slot→Res}(hk:∀ v,KB B (k v)):KB B (bind1 r k):=by cases r <;> first | exact .no | exact hk _
theorem KB.bindL{r:Option (List Slot)}{k:List Slot→Res}(hk:∀ v,KB B (k v)):KB B (bindL r k):=by cases r <;> first | exact .no | exact hk _
theorem KB.bindA{r:Option (List AV)}{k:List AV→Res}(hk:∀ v,KB B (k v)):KB B (bindA r k):=by cases r <;> first | exact .no | exact hk _
theorem KB.bindB{r:Option Bool}{k:Bool→Res}(hk:∀ v,KB B (k v)):KB B (bindB r k):=by cases r <;> first | exact .no | exact hk _
theorem KB.bindS{r:Option St}{k:St→Res}{s0:St}(h0:InB B s0)(h:∀ s,r=some s→s.bl=s0.bl)(hk:∀ s,InB B s→KB B (k s)):KB B (bindS r k):=by
 cases r with
 |none=>exact .no
 |some s=>exact hk s (h0.of (h s rfl))
theorem KB.bind2{r:Option (Slot × St)}{k:Slot→St→Res}{s0:St}(h0:InB B s0)(h:∀ v s,r=some (v,s)→s.bl=s0.bl)(hk:∀ v s,InB B s→KB B (k v s)):KB B (bind2 r k):=by
 match r,h with
 |none,h=>exact .no
 |some (v,s),h=>exact hk v s (h0.of (h v s rfl))
theorem KB.bindLS{r:Option (List Slot × St)}{k:List Slot→St→Res}{s0:St}(h0:InB B s0)(h:∀ v s,r=some (v,s)→s.bl=s0.bl)(hk:∀ v s,InB B s→KB B (k v s)):KB B (bindLS r k):=by
 match r,h with
 |none,h=>exact .no
 |some (v,s),h=>exact hk v s (h0.of (h v s rfl))
theorem KB.cond{b:Bool}{x y:Res}(h:b=true→KB B x)(h':b=false→KB B y):KB B (bif b then x else y):=by cases b <;> first | exact h' rfl | exact h rfl
theorem KB.condS{c:Slot}{a b:Res}(h:KB B a)(h':KB B b):KB B (condS c a b):=by
 unfold Go.Am.condS
 cases c.bool? with
 |none=>exact .no
 |some t=>cases t <;> first | exact h' | exact h
theorem Qq8{s s':St}{a:Slot}{cs:List Slot}(h:stV s a cs=some s'):s'.bl=s.bl:=by unfold stV at h;((try simp only[Bool.cond_eq_ite] at h);(repeat' (split at h)) <;> first | (cases h;rfl) | (cases h;done))
theorem QbQ{e:TypeId}{t:TI}{s s':St}{x y v:Slot}(h:appendS e t s x y=some (v,s')):s'.bl=s.bl:=by unfold appendS at h;((try simp only[Bool.cond_eq_ite] at h);(repeat' (split at h)) <;> first | (cases h;rfl) | (cases h;done))
theorem Qfn{e:TypeId}{t:TI}{s s':St}{x y v:Slot}(h:appendStr e t s x y=some (v,s')):s'.bl=s.bl:=by
 unfold appendStr at h
 try simp only[Bool.cond_eq_ite] at h
 (repeat' (split at h)) <;> first | exact QbQ h | (cases h;done)
theorem Qia{C:Cfg}{e u:TypeId}{s s':St}{x y v:Slot}(h:appendX C e u s x y=some (v,s')):s'.bl=s.bl:=by
 unfold appendX at h
 split at h
 ·exact Qfn h
 ·cases h
theorem Qd9{e:TypeId}{t:TI}{l:List AV}{s s':St}{v:Slot}(h:newV e t l s=some (v,s')):s'.bl=s.bl:=by unfold newV at h;((try simp only[Bool.cond_eq_ite] at h);(repeat' (split at h)) <;> first | (cases h;rfl) | (cases h;done))
theorem Qi9{e:TypeId}{t:TI}{s s':St}{x y v:Slot}(h:appendV e t s x y=some (v,s')):s'.bl=s.bl:=by
 unfold appendV at h
 try simp only[Bool.cond_eq_ite] at h
 (repeat' (split at h)) <;> first | exact Qd9 h | (cases h;rfl) | (cases h;done)
theorem QkT{e:TypeId}{t:TI}{s s':St}{x y v:Slot}(h:makeV e t s x y=some (v,s')):s'.bl=s.bl:=by
 unfold makeV at h
 (repeat' (split at h)) <;> first | exact Qd9 h | (cases h;rfl) | (cases h;done)
theorem QkS{e:TypeId}{t:TI}{s s':St}{x y v:Slot}(h:makeS e t s x y=some (v,s')):s'.bl=s.bl:=by unfold makeS at h;((try simp only[Bool.cond_eq_ite] at h);(repeat' (split at h)) <;> first | (cases h;rfl) | (cases h;done))
theorem Qm1{e:TypeId}{t:TI}{s s':St}{xs:List Slot}{v:Slot}(h:bslV e t s xs=some (v,s')):s'.bl=s.bl:=by
 unfold bslV at h
 split at h
 ·exact Qd9 h
 ·cases h
theorem Qd0{f:AV→St→Option (AV × St)}(hf:∀ v s v' s',f v s=some (v',s')→s'.bl=s.bl):∀ (l:List AV) (s:St) (l':List AV) (s':St),frzW f l s=some (l',s')→s'.bl=s.bl
 |[],s,l',s',h=>by cases h;rfl
 |v::r,s,l',s',h=>by
   simp only[frzW] at h
   split at h
   ·rename_i v1 s1 e1
    split at h
    ·rename_i r1 s2 e2
     cases h
     rw[Qd0 hf r s1 _ _ e2,hf _ _ _ _ e1]
    ·cases h
   ·cases h
theorem QfQ(ti:TypeId→TI):∀ (n:Nat) (v:AV) (s:St) (v':AV) (s':St),frz ti n v s=some (v',s')→s'.bl=s.bl
 |0,v,s,v',s',h=>by simp[frz] at h
 |n+1,v,s,v',s',h=>by
   unfold frz at h
   try simp only[Bool.cond_eq_ite] at h
   split at h
   ·cases h
   ·(repeat' (split at h)) <;> first | (cases h;done) | skip
    cases h
    have e:=‹n+1=Nat.succ _›
    cases e
    have hq:=‹frzW _ _ _=some _›
    have hr:=Qd0 (QfQ ti n) _ _ _ _ hq
    exact hr
   ·split at h
    ·cases h
     have e:=‹n+1=Nat.succ _›
     cases e
     have hq:=‹frzW _ _ _=some _›
     have hr:=Qd0 (QfQ ti n) _ _ _ _ hq
     exact hr
    ·cases h
   ·cases h;rfl
theorem QbZ{ti:TypeId→TI}{x x':Slot}{s s':St}(h:frzSlot ti x s=some (x',s')):s'.bl=s.bl:=by
 unfold frzSlot at h
 split at h
 ·split at h
  ·cases h;exact QfQ ti 16 _ _ _ _ ‹_›
  ·cases h
 ·cases h;rfl
theorem QaQ{ti:TypeId→TI}:∀ {l l':List Slot} {s s':St},frzSlots ti l s=some (l',s')→s'.bl=s.bl
 |[],l',s,s',h=>by cases h;rfl
 |x::r,l',s,s',h=>by
   simp only[frzSlots] at h
   split at h
   ·rename_i v1 s1 e1
    split at h
    ·rename_i r1 s2 e2
     cases h
     rw[QaQ e2,QbZ e1]
    ·cases h
   ·cases h
theorem QiP{kt et:TI}{s s':St}{x i w v:Slot}(h:updateS kt et s x i w=some (v,s')):s'.bl=s.bl:=by unfold updateS at h;((try simp only[Bool.cond_eq_ite] at h);(repeat' (split at h)) <;> first | (cases h;rfl) | (cases h;done))
theorem Qjm{kt et:TI}{s s':St}{x i v:Slot}(h:entryS kt et s x i=some (v,s')):s'.bl=s.bl:=by unfold entryS at h;((try simp only[Bool.cond_eq_ite] at h);(repeat' (split at h)) <;> first | (cases h;rfl) | (cases h;done))
theorem Qin{s s':St}{x i w v:Slot}(h:entrySt s x i w=some (v,s')):s'.bl=s.bl:=by unfold entrySt at h;((try simp only[Bool.cond_eq_ite] at h);(repeat' (split at h)) <;> first | (cases h;rfl) | (cases h;done))
theorem Qij{kt:TI}{s s':St}{x i v:Slot}(h:deleteS kt s x i=some (v,s')):s'.bl=s.bl:=by unfold deleteS at h;((try simp only[Bool.cond_eq_ite] at h);(repeat' (split at h)) <;> first | (cases h;rfl) | (cases h;done))
theorem QkR{s s':St}{v:Slot}(h:makeM s=some (v,s')):s'.bl=s.bl:=by unfold makeM at h;cases h;rfl
theorem Qma{C:Cfg}{e:Env}{s s':St}{op:Op}{v:Slot}(h:effM C e s op=some (v,s')):s'.bl=s.bl:=by
 unfold effM at h
 try simp only[Bool.cond_eq_ite] at h
 (repeat' (split at h)) <;> first | exact QkR h | exact QiP h | exact Qjm h | exact Qin h | exact Qij h | (cases h;done)
theorem Qcp{loc:Nat}{st:LSt}{p:Option AExit}{s s':St}(h:setLoop loc st p s=some s'):s'.bl=s.bl:=by unfold setLoop at h;((try simp only[Bool.cond_eq_ite] at h);(repeat' (split at h)) <;> first | (cases h;rfl) | (cases h;done))
theorem Qja{loc:Nat}{s s':St}(h:beginL loc s=some s'):s'.bl=s.bl:=by unfold beginL at h;((try simp only[Bool.cond_eq_ite] at h);(repeat' (split at h)) <;> first | (cases h;rfl) | (cases h;done))
theorem KB.frzE{ti:TypeId→TI}:∀ {l:List Nat} {e:Env} {s:St} {k:Env→St→Res},InB B s→(∀ e s,InB B s→KB B (k e s))→KB B (frzE ti l e s k)
 |[],e,s,k,h,hk=>hk e s h
 |t::ts,e,s,k,h,hk=>by
   have ih:=λ(x:Ent) (s:St) (h:InB B s)=>KB.frzE (ti:=ti) (l:=ts) (e:=(t,x)::e) (s:=s) h hk
   simp only[Go.Am.frzE]
   cases e.get t with
   |s v=>exact .bind2 h (λv s' hh=>QbZ hh) λv s h=>ih _ s h
   |var cs=>exact .bindLS h (λv s' hh=>QaQ hh) λv s h=>ih _ s h
   |none=>exact ih _ s h
   |ptr w d off=>exact ih _ s h
theorem KB.newS{m:AMode}{t:TypeId}{cs:List Slot}{old:Ent}{s:St}{k:Ent→St→Res}(h:InB B s)(hk:∀ v s,InB B s→KB B (k v s)):KB B (newS m t cs old s k):=by
 cases m with
 |var=>cases old <;> first | exact hk _ _ h | exact .no
 |con=>exact .bindA λv=>hk _ _ h
 |loc=>exact hk _ _ (h.of rfl)
 |tl=>
   refine .cond (λ_=>.no) λ_=>hk _ _ λp hp=>?_
   exact List.mem_cons_of_mem _ (h p hp)
theorem KB.stS{rt:Root}{x:Option Nat}{e:Env}{s:St}{a:Ent}{cs:List Slot}{k:Env→St→Res}(h:InB B s)(hk:∀ e s,InB B s→KB B (k e s)):KB B (stS rt x e s a cs k):=by
 refine .cond (λ_=>?_) λ_=>.no
 cases a with
 |none=>exact .no
 |s v=>exact .bindS h (λs' hh=>Qq8 hh) λs hs=>hk _ s hs
 |var l=>
   cases x with
   |none=>exact .no
   |some d=>exact .bindL λv=>hk _ _ h
 |ptr w d off=>
   simp only[]
   split
   ·exact .bindL λv=>hk _ _ h
   ·exact .no
theorem KB.cal{cl:CallFn}(hc:∀ c l s,InB B s→KB B (cl c l s)){w:Bool}{t:Option (Callee × List AV)}{s:St}(h:InB B s):KB B (cal cl w t s):=by
 unfold Go.Am.cal
 refine .cond (λ_=>?_) λ_=>.yes h
 match t with
 |none=>exact .no
 |some (c,l)=>exact hc c l s h
theorem KB.effK{cl:CallFn}(hc:∀ c l s,InB B s→KB B (cl c l s)){dr:Bool}{f:FuncId}{o:Oper}{rt:Root}{w:Bool}{e:Env}{s:St}{k:Ent→Env→St→Res}(h:InB B s)(hk:∀ v e s,InB B s→KB B (k v e s)):KB B (effK C cl dr f o rt w e s k):=by
 unfold Go.Am.effK
 split
 ·refine .back (.cond (λ_=>.noPan (.cal hc h)) λ_=>.cal hc h) λv s hs=>hk _ _ _ hs
 ·refine .cond (λ_=>?_) λ_=>hk _ _ _ h
  split
  ·exact .cond (λ_=>.newS h λv s hs=>hk _ _ _ hs) λ_=>.no
  ·exact .bindL λcs=>.newS h λv s hs=>hk _ _ _ hs
  ·exact .bindL λcs=>.stS h λe s hs=>hk _ _ _ hs
  ·split
   ·exact .cond (λ_=>.bind2 h (λv s' hh=>QkT hh) λv s hs=>hk _ _ _ hs) λ_=>.bind2 h (λv s' hh=>QkS hh) λv s hs=>hk _ _ _ hs
   ·exact .no
  ·split
   ·exact .cond (λ_=>.bind2 h (λv s' hh=>Qm1 hh) λv s hs=>hk _ _ _ hs) λ_=>.no
   ·exact .no
  ·refine .cond (λ_=>.no) λ_=>?_
   unfold panK
   split
   ·exact .yes h
   ·exact .no
  ·split
   ·split
    ·exact .cond (λ_=>.bind2 h (λv s' hh=>Qi9 hh) λv s hs=>hk _ _ _ hs) λ_=>.bind2 h (λv s' hh=>QbQ hh) λv s hs=>hk _ _ _ hs
    ·exact .bind2 h (λv s' hh=>Qia hh) λv s hs=>hk _ _ _ hs
    ·exact .no
   ·exact .no
  ·exact .bind2 h (λv s' hh=>Qma hh) λv s hs=>hk _ _ _ hs
theorem KB.pureK{e:Env}{w:Bool}{op:Op}{k:Ent→Res}(hk:∀ v,KB B (k v)):KB B (pureK C e w op k):=by
 have hf:∀ {off:Nat} {w:Bool} {x:Option Nat} {a:Ent},KB B (faK off w x a k):=λ{off w x a}=>by
  unfold faK
  cases a with
  |none=>exact .no
  |s v=>exact .bind1 λv=>hk _
  |var l=>cases x <;> first | exact .no | exact hk _
  |ptr w' d o=>exact .cond (λ_=>hk _) λ_=>.no
 unfold Go.Am.pureK
 split
 ·exact hk _
 ·exact hk _
 ·split
  ·exact .cond (λ_=>.no) λ_=>hf
  ·exact .no
 ·split
  ·exact .cond (λ_=>hk _) λ_=>.no
  ·exact .bind1 λv=>hk _
  ·exact .no
 ·exact .bind1 λv=>hk _
theorem KB.opsK{cl:CallFn}(hc:∀ c l s,InB B s→KB B (cl c l s)){dr r:Bool}{f:FuncId}{all:List Oper}:∀ {os:List Oper} {rts:List (Option Nat)} {e:Env} {s:St} {k:Env→St→Res},InB B s→(∀ e s,InB B s→KB B (k e s))→KB B (opsK C cl dr r f all os rts e s k)
 |[],_,e,s,k,h,hk=>hk e s h
 |o::os,rts,e,s,k,h,hk=>by
   simp only[Go.Am.opsK]
   refine .bindB λw=>.cond (λ_=>.pureK λv=>KB.opsK hc h hk) λ_=>.cond (λ_=>.bind1 λv=>KB.opsK hc h hk) λ_=>.effK hc h λv e s hs=>KB.opsK hc hs hk
theorem KB.loopN{b:Env→St→K→Res}(hb:∀ e s (k:K),InB B s→(∀ x e s,InB B s→KB B (k x e s))→KB B (b e s k)){ks:List Nat}:∀ {n:Nat} {e:Env} {s:St} {k:K},InB B s→(∀ x e s,InB B s→KB B (k x e s))→KB B (loopN b ks n e s k)
 |0,_,_,_,_,_=>.no
 |n+1,e,s,k,h,hk=>by
   simp only[Go.Am.loopN]
   refine hb _ _ _ h λx e s hs=>?_
   cases x with
   |normal=>exact KB.loopN hb hs hk
   |exit id=>exact hk _ _ _ hs
   |ret=>exact hk _ _ _ hs
theorem KB.endK{loc:Nat}{e:Env}{s:St}{k:K}(h:InB B s)(hk:∀ x e s,InB B s→KB B (k x e s)):KB B (endK loc e s k):=by
 unfold Go.Am.endK endX
 split
 ·split
  ·exact .no
  ·refine .bindS h (λs' hh=>Qcp hh) λs hs=>?_
   unfold pendX
   split <;> exact hk _ _ _ hs
 ·exact .no
theorem KB.exec{cl:CallFn}(hc:∀ c l s,InB B s→KB B (cl c l s)){m:Nat}{g rd:Bool}{f:FuncId} :
  ∀ (c:Code) (e:Env) (s:St) (k:K),InB B s→(∀ x e s,InB B s→KB B (k x e s))→KB B (exec C cl m g rd f c e s k)
 |.skip,e,s,k,h,hk=>hk _ _ _ h
 |.region id ops draw,e,s,k,h,hk=>by
   simp only[Go.Am.exec]
   exact .frzE h λe s hs=>.opsK hc hs λe s hs=>hk _ _ _ hs
 |.seq a b,e,s,k,h,hk=>by
   simp only[Go.Am.exec]
   refine KB.exec hc a e s _ h λx e s hs=>?_
   cases x with
   |normal=>
     simp only[cutK]
     cases C.cut f (regionOf b) with
     |none=>exact KB.exec hc b e s k hs hk
     |some l=>exact .cond (λ_=>KB.exec hc b _ s k hs hk) λ_=>.no
   |exit id=>exact hk _ _ _ hs
   |ret=>exact hk _ _ _ hs
 |.cond c a b,e,s,k,h,hk=>by
   simp only[Go.Am.exec]
   exact .condS (KB.exec hc a e s k h hk) (KB.exec hc b e s k h hk)
 |.block id b,e,s,k,h,hk=>by
   simp only[Go.Am.exec]
   refine KB.exec hc b e s _ h λx e s hs=>?_
   cases x with
   |normal=>exact hk _ _ _ hs
   |exit j=>exact .cond (λ_=>hk _ _ _ hs) λ_=>hk _ _ _ hs
   |ret=>exact hk _ _ _ hs
 |.loop b,e,s,k,h,hk=>by
   simp only[Go.Am.exec,loopK]
   exact .loopN (λe s k h hk=>KB.exec hc b e s k h hk) h hk
 |.exit id,e,s,k,h,hk=>hk _ _ _ h
 |.scope b,e,s,k,h,hk=>by
   simp only[Go.Am.exec]
   exact KB.exec hc b e s k h hk
 |.label _,e,s,k,h,hk=>hk _ _ _ h
 |.ret,e,s,k,h,hk=>hk _ _ _ h
 |.rangeFunc hh ps asg body,e,s,k,h,hk=>by
   simp only[Go.Am.exec]
   refine .cond (λ_=>.no) λ_=>?_
   split
   ·exact .cond (λ_=>.no) λ_=>.back (hc _ _ _ (h.of rfl)) λv s hs=>.endK hs hk
   ·exact .no
 |.goto _,_,_,_,_,_=>.no
 |.refuse _,_,_,_,_,_=>.no
theorem KB.outK{rs:List ResultVar}{x:AExit}{e:Env}{s:St}(h:InB B s):KB B (outK C rs x e s):=by
 cases x with
 |exit id=>exact .no
 |normal=>exact .bind1 λv=>.yes h
 |ret=>exact .bind1 λv=>.yes h
theorem KB.roundK{loc:Nat}{x:AExit}{e:Env}{s:St}(h:InB B s):KB B (roundK loc x e s):=by
 cases x <;> exact .bindS h (λs' hh=>Qcp hh) λs hs=>.yes hs
theorem KB.call(hx:∀ f g,C.ext f=some g→∀ l s v s',g l s=some (v,s')→s'.bl=s.bl):∀ (n:Nat) (c:Callee) (l:List AV) (s:St),InB B s→KB B (call C n c l s)
 |0,_,_,_,_=>.no
 |n+1,.f f,l,s,h=>by
   simp only[Go.Am.call]
   split
   ·rename_i g hg
    split
    ·rename_i v s' e
     exact .yes (h.of (hx f g hg _ _ _ _ e))
    ·exact .no
   ·split
    ·split
     ·exact .cond (λ_=>KB.exec (KB.call hx n) _ _ _ _ h λx e s hs=>.outK hs) λ_=>.no
     ·exact .no
    ·exact .no
 |n+1,.y loc,l,s,h=>by
   simp only[Go.Am.call]
   split
   ·split
    ·refine .noPan (KB.exec (KB.call hx n) _ _ _ _ h λx e s hs=>?_)
     cases x with
     |normal=>exact .bindS hs (λs' hh=>Qja hh) λs hs=>KB.exec (KB.call hx n) _ _ _ _ hs λx e s hs=>.roundK hs
     |exit id=>exact .no
     |ret=>exact .no
    ·exact .no
   ·exact .no
theorem Qkp(hx:∀ f g,C.ext f=some g→∀ l s v s',g l s=some (v,s')→s'.bl=s.bl){c:Callee}{l:List AV}{s s':St}{o:Out}(h:callw C c l s=some (o,s')):InB s.bl s':=by
 unfold callw at h
 obtain⟨n,hn⟩:=(Q0M (Q0v c l s)).1 h
 exact KB.call (B:=s.bl) hx n c l s (λp hp=>hp) o s' hn
end
theorem QbX{f:Nat}{g:List AV→St→Option (Slot × St)}:∀ {L:List (Nat × (List AV→St→Option (Slot × St)))},findExt f L=some g→∃ i,(i,g) ∈ L
 |[],h=>by cases h
 |(i,c)::r,h=>by
   unfold findExt at h
   cases hb:Nat.beq f i with
   |true=>rw[hb] at h;cases h;exact⟨i,List.mem_cons_self⟩
   |false=>
     rw[hb] at h
     obtain⟨j,hj⟩:=QbX h
     exact⟨j,List.mem_cons_of_mem _ hj⟩
theorem Ql5{g:List AV→Option AV}{l:List AV}{s s':St}{v:Slot}(h:pureX g l s=some (v,s')):s'.bl=s.bl:=by unfold pureX at h;((try simp only[Bool.cond_eq_ite] at h);(repeat' (split at h)) <;> first | (cases h;rfl) | (cases h;done))
theorem QbW{t:TypeId}{l:List AV}{s s':St}{v:Slot}(h:extCopyCheck t l s=some (v,s')):s'.bl=s.bl:=by unfold extCopyCheck at h;((try simp only[Bool.cond_eq_ite] at h);(repeat' (split at h)) <;> first | (cases h;rfl) | (cases h;done))
theorem QeI{t:TypeId}{l:List AV}{s s':St}{v:Slot}(h:extBString t l s=some (v,s')):s'.bl=s.bl:=by unfold extBString at h;((try simp only[Bool.cond_eq_ite] at h);(repeat' (split at h)) <;> first | (cases h;rfl) | (cases h;done))
theorem Qio{e:TypeId}{t:TI}{l:List AV}{s s':St}{v:Slot}(h:extGrow e t l s=some (v,s')):s'.bl=s.bl:=by unfold extGrow at h;((try simp only[Bool.cond_eq_ite] at h);(repeat' (split at h)) <;> first | (cases h;rfl) | (cases h;done))
end Go.Am
namespace Go.Proofs.YtgfhplcmcdimiaaGreatDoor
open Go Go.Am
set_option linter.unusedVariables false
set_option maxRecDepth 4000
theorem Qox:∀ f g,C.ext f=some g→∀ l s v s',g l s=some (v,s')→s'.bl=s.bl:=λf g hg l s v s' h=>by
 obtain⟨i,hi⟩:=QbX (L:=exts) hg
 unfold exts at hi
 simp only[List.mem_cons,List.not_mem_nil,or_false,Prod.mk.injEq] at hi
 rcases hi with ⟨-,rfl⟩ | ⟨-,rfl⟩ | ⟨-,rfl⟩ | ⟨-,rfl⟩ | ⟨-,rfl⟩ | ⟨-,rfl⟩ <;> first | exact Ql5 h | exact QbW h | exact QeI h | exact Qio h
theorem Qlu{c:Am.Callee}{l:List AV}{s s':St}{o:Out}(h:cw c l s=some (o,s')):InB s.bl s':=Qkp Qox h
theorem Qiy{s s':St}(h:InB s.bl s'){t:TypeId}{loc:Nat}(hb:isBld t s loc=true):isBld t s' loc=true:=by
 unfold isBld at hb ⊢
 rw[List.any_eq_true] at hb ⊢
 obtain⟨p,h1,h2⟩:=hb
 exact⟨p,h p h1,h2⟩
theorem BldIs.stay{s s':St}{loc:Nat}{bs:List UInt8}{h:List Nat}(H:BldIs s loc bs h)(g:Grew s s')(hb:InB s.bl s'):BldIs s' loc bs h:=by
 obtain⟨h1,a,x,h2,h3,h4,h5⟩:=H
 refine⟨Qiy hb h1,a,x,g.loc h2,h3,h4.stab λk hk=>?_,h5⟩
 obtain⟨n,hn⟩:∃ n,s.toks[k]? = some n:=⟨s.toks[k]'(h4.held k hk),by simp⟩
 rw[hn];exact g.tok hn
end Go.Proofs.YtgfhplcmcdimiaaGreatDoor
namespace Go.Proofs.YtgfhplcmcdimiaaGreatDoor
open Go Go.Am
set_option linter.unusedVariables false
set_option maxRecDepth 4000
theorem Qbt(nd:TNode)(s:St)(h:nd.ok):∃ nm:Str,cw (.f Q6a) [nd.enc] s=some (.ret (.val (.tup [.int .i64 nd.wrong.1,.str nm])),s)∧(nd.wrong.1=8→nm=nd.wrong.2):=by
 rw[Qdo]
 cases nd with
 |dec inn d=>
   have hn:d.name.length<2^62:=by simp only[TNode.ok] at h;omega
   have hw:=λs=>Qdi d inn s hn
   obtain⟨k,a,nm,p,l,nb,c,cb,f,fb⟩:=d
   simp only[go_sem,Dec.enc] at hw
   simp only[go_sem,Int.reduceEq,Nat.reduceAdd,Nat.reduceLeDiff,Nat.reduceSub,TNode.cells,hw]
   exact⟨nm,rfl,λ_=>rfl⟩
 |exp e=>
   obtain⟨h0,h1,h2,h3⟩:=h
   have hw:=λs=>Qdk e s (by omega) h1 h2 h3
   obtain⟨k,a,nm,n,l,lb,c,cb,d,db⟩:=e
   simp only[go_sem,Exp.enc] at hw
   simp only[go_sem,Int.reduceEq,Nat.reduceAdd,Nat.reduceLeDiff,Nat.reduceSub,TNode.cells,Dec.zero,hw]
   exact⟨nm,rfl,λ_=>rfl⟩
 |pat e=>
   obtain⟨h0,h2,h3⟩:=h
   have hw:=λs=>Qdn e s (by omega) h2 h3
   obtain⟨k,a,nm,n,l,lb⟩:=e
   simp only[go_sem,Pat.enc] at hw
   simp only[go_sem,Int.reduceEq,Nat.reduceAdd,Nat.reduceLeDiff,Nat.reduceSub,TNode.cells,Dec.zero,Exp.zero,hw]
   exact⟨nm,rfl,λ_=>rfl⟩
 |ty e a=>
   have hn:e.name.length<2^62:=by simp only[TNode.ok] at h;omega
   have hw:=λs=>QeU e s hn
   obtain⟨k,n,nm,l,lb⟩:=e
   simp only[go_sem,Ty.enc] at hw
   simp only[go_sem,Int.reduceEq,Nat.reduceAdd,Nat.reduceLeDiff,Nat.reduceSub,TNode.cells,Dec.zero,Exp.zero,Pat.zero,hw]
   exact⟨nm,rfl,λ_=>rfl⟩
 |fn f=>
   have hn:f.name.length<2^62:=by simp only[TNode.ok] at h;omega
   have hw:=λs=>Q1O f.name s hn
   obtain⟨nm,a,c⟩:=f
   simp only[Fun.name,Q9N] at hw
   simp only[go_sem,Int.reduceEq,Nat.reduceAdd,Nat.reduceLeDiff,Nat.reduceSub,TNode.cells,Dec.zero,Exp.zero,Pat.zero,Ty.zero,hw]
   cases hl:lowB nm
   ·simp only[go_sem];exact⟨nm,by simp only[TNode.wrong,Fun.name,hl];rfl,λ_=>rfl⟩
   ·simp only[go_sem];exact⟨[],by simp only[TNode.wrong,Fun.name,hl];rfl,λh=>by simp only[TNode.wrong,Fun.name,hl] at h;cases h⟩
 |con c=>
   have hn:c.name.length<2^62:=by simp only[TNode.ok] at h;omega
   have hw:=λs=>Q5R c.name s hn
   have hz:=λs=>Qaq c.arg s
   obtain⟨nm,a,hs,arg⟩:=c
   obtain⟨tk,tn,tnm,tl,tb⟩:=arg
   simp only[Qje] at hw
   simp only[go_sem,Ty.enc] at hz
   simp only[go_sem,Int.reduceEq,Nat.reduceAdd,Nat.reduceLeDiff,TNode.cells,Con.cells,Dec.zero,Exp.zero,Pat.zero,Ty.zero,Fun.zero,Case.zero,hw,hz]
   have hb:(!hs && !(decide (tk=0)&&decide (tn=0)&&decide (tnm=[])&&decide ((tl.length:Int)=0)))=(!hs&&(!decide (tk=0) || !decide (tn=0) || !decide (tnm=[]) || decide ((tl.length:Int)>0))):=by
    cases hs <;> by_cases h1:tk=0 <;> by_cases h2:tn=0 <;> by_cases h3:tnm=[] <;> cases tl <;> simp[h1,h2,h3] <;> omega
   have key:∀ b1 b2:Bool,∃ nm':Str,some (Out.ret (Slot.val (bif b1 then AV.tup [.int .i64 29,.str []] else bif !b2 then AV.tup [.int .i64 8,.str nm] else AV.tup [.int .i64 0,.str []])),s)=some (Out.ret (Slot.val (.tup [.int .i64 (bif b1 then 29 else bif !b2 then 8 else 0),.str nm'])),s)∧((bif b1 then (29:Int) else bif !b2 then 8 else 0)=8→nm'=nm):=by
    intro b1 b2
    cases b1 <;> cases b2
    ·exact⟨nm,rfl,λ_=>rfl⟩
    ·exact⟨[],rfl,λh=>by cases h⟩
    ·exact⟨[],rfl,λh=>by cases h⟩
    ·exact⟨[],rfl,λh=>by cases h⟩
   obtain⟨nm',e1,e2⟩:=key (!hs && !(decide (tk=0)&&decide (tn=0)&&decide (tnm=[])&&decide ((tl.length:Int)=0))) (capB nm)
   have hw2:(TNode.con ⟨nm,a,hs,.mk tk tn tnm tl tb⟩).wrong=(bif (!hs && !(decide (tk=0)&&decide (tn=0)&&decide (tnm=[])&&decide ((tl.length:Int)=0))) then 29 else bif !capB nm then 8 else 0,nm):=by
    rw[hb];rfl
   rw[hw2]
   exact⟨nm',e1,e2⟩
end Go.Proofs.YtgfhplcmcdimiaaGreatDoor
namespace Go.Proofs.YtgfhplcmcdimiaaGreatDoor
open Go Go.Am
set_option linter.unusedVariables false
set_option maxRecDepth 4000
theorem Q6p(t:Ty)(hl:t.args.length<2^40):∀ (suf pre:List Ty) (n:Int) (s:St) (i:Nat),pre++suf=t.args→i=pre.length→(∀ t ∈ suf,∀ s,cw (.f Q0E) [t.enc] s=some (.ret (.val (.int .i64 (deepTy t))),s))→0≤n→n<2^40→Ty.sizes suf<2^40→
  Q1a (t.cells.map .val) (.val (.int .i64 n)) (.val (.int .i64 i)) s=some (.ret (.val (.int .i64 (deepTys suf n+1))),s)
 |[],pre,n,s,i,h,hi,H,h0,h1,h2=>by
   subst hi
   rw[Q5V];simp only[go_sem,Nat.reduceAdd,Nat.reduceLeDiff,Ty.cells_eq,Qa (by simpa using h)]
   rw[wrap64 (by omega) (by omega)];rfl
 |u::suf,pre,n,s,i,h,hi,H,h0,h1,h2=>by
   subst hi
   obtain⟨f1,f2,f3⟩:=Q9 (x:=.val (encS t.nl (t.args.map Ty.enc))) (Q4 _ _) h (by omega) (Ty.cells_len u) (by decide)
   have ht:=Q4b u
   have hm:=QV n (deepTy u) (2^40 - 1)
   have hn:=QU n (deepTy u)
   simp only[Ty.sizes] at h2
   have:=Q6p t hl suf (pre++[u]) (maxI n (deepTy u)) s (pre.length+1) (by simpa using h) (by simp) (λw hw=>H w (List.mem_cons_of_mem _ hw)) (by omega) (by omega) (by omega)
   rw[Q5V];rw[Ty.cells_eq] at this ⊢;simp only[go_sem,Nat.reduceAdd,Nat.reduceLeDiff,f1,f2,f3,H u (List.mem_cons_self)] at this ⊢
   exact this
theorem Q6q:∀ (m:Nat) (t:Ty) (s:St),t.size≤m→t.size<2^40→cw (.f Q0E) [t.enc] s=some (.ret (.val (.int .i64 (deepTy t))),s)
 |0,.mk _ _ _ _ _,_,h,_=>by simp only[Ty.size] at h;omega
 |m+1,.mk k n nm l nl,s,h,h'=>by
   simp only[Ty.size] at h h'
   have hl:=Ty.len_sizes l
   have:=Q6p (.mk k n nm l nl) (by simp only[Ty.args];omega) l [] 0 s 0 rfl rfl (λu hu s=>by have:=Ty.mem_sizes hu;exact Q6q m u s (by omega) (by omega)) (by decide) (by decide) (by omega)
   rw[Qcc];simp only[go_sem,Nat.reduceAdd,Ty.enc] at this ⊢
   exact this
theorem Q5U(t:Pat)(hl:t.kids.length<2^40):∀ (suf pre:List Pat) (n:Int) (s:St) (i:Nat),pre++suf=t.kids→i=pre.length→(∀ t ∈ suf,∀ s,cw (.f Zk) [t.enc] s=some (.ret (.val (.int .i64 (deepPat t))),s))→0≤n→n<2^40→Pat.sizes suf<2^40→
  Q0P (t.cells.map .val) (.val (.int .i64 n)) (.val (.int .i64 i)) s=some (.ret (.val (.int .i64 (deepPats suf n+1))),s)
 |[],pre,n,s,i,h,hi,H,h0,h1,h2=>by
   subst hi
   rw[Q54];simp only[go_sem,Nat.reduceAdd,Nat.reduceLeDiff,Pat.cells_eq,Qa (by simpa using h)]
   rw[wrap64 (by omega) (by omega)];rfl
 |u::suf,pre,n,s,i,h,hi,H,h0,h1,h2=>by
   subst hi
   obtain⟨f1,f2,f3⟩:=Q9 (x:=.val (encS t.kb (t.kids.map Pat.enc))) (Q4 _ _) h (by omega) (Pat.cells_len u) (by decide)
   have ht:=Q0x u
   have hm:=QV n (deepPat u) (2^40 - 1)
   have hn:=QU n (deepPat u)
   simp only[Pat.sizes] at h2
   have:=Q5U t hl suf (pre++[u]) (maxI n (deepPat u)) s (pre.length+1) (by simpa using h) (by simp) (λw hw=>H w (List.mem_cons_of_mem _ hw)) (by omega) (by omega) (by omega)
   rw[Q54];rw[Pat.cells_eq] at this ⊢;simp only[go_sem,Nat.reduceAdd,Nat.reduceLeDiff,f1,f2,f3,H u (List.mem_cons_self)] at this ⊢
   exact this
theorem Q19:∀ (m:Nat) (t:Pat) (s:St),t.size≤m→t.size<2^40→cw (.f Zk) [t.enc] s=some (.ret (.val (.int .i64 (deepPat t))),s)
 |0,.mk _ _ _ _ _ _,_,h,_=>by simp only[Pat.size] at h;omega
 |m+1,.mk k a nm n l nl,s,h,h'=>by
   simp only[Pat.size] at h h'
   have hl:=Pat.len_sizes l
   have:=Q5U (.mk k a nm n l nl) (by simp only[Pat.kids];omega) l [] 0 s 0 rfl rfl (λu hu s=>by have:=Pat.mem_sizes hu;exact Q19 m u s (by omega) (by omega)) (by decide) (by decide) (by omega)
   rw[Qbp];simp only[go_sem,Nat.reduceAdd,Pat.enc] at this ⊢
   exact this
def rdeepExpOK(t:Exp):Prop:=∀ s,cw (.f Zj) [t.enc] s=some (.ret (.val (.int .i64 (deepExp t))),s)
def rdeepDecsOK(l:List Dec):Prop:=∀ (v:AV) (s:St),(Slot.val v).list? = some (l.map Dec.enc)→cw (.f ZK) [v] s=some (.ret (.val (.int .i64 (deepDecs l 0))),s)
theorem Q4h(t:Exp)(hl:t.cases.length<2^40):∀ (suf pre:List Case) (n:Int) (s:St) (i:Nat),pre++suf=t.cases→i=pre.length→(∀ c ∈ suf,rdeepExpOK c.exp)→0≤n→n<2^40→Case.sizes suf<2^40→
  Q0O (t.cells.map .val) (.val (.int .i64 n)) (.val (.int .i64 i)) s=some (.ret (.val (.int .i64 (deepCases suf n+1))),s)
 |[],pre,n,s,i,h,hi,H,h0,h1,h2=>by
   subst hi
   rw[Q4Y];simp only[go_sem,Exp.cells_eq,Qa (by simpa using h)]
   rw[wrap64 (by omega) (by omega)];rfl
 |.mk p e::suf,pre,n,s,i,h,hi,H,h0,h1,h2=>by
   subst hi
   obtain⟨f1,f2,f3⟩:=Q9 (x:=.val (encS t.cb (t.cases.map Case.enc))) (Q4 _ _) h (by omega) (Case.cells_len (.mk p e)) (by decide)
   have ht:=Q0w e
   have hp:=Q0x p
   simp only[Case.sizes,Case.size] at h2
   have h4:=QU n (deepPat p)
   have h5:=QU (maxI n (deepPat p)) (deepExp e)
   have h6:=QV n (deepPat p) (2^40 - 1) (by omega) (by omega)
   have h7:=QV (maxI n (deepPat p)) (deepExp e) (2^40 - 1) (by omega) (by omega)
   have He:rdeepExpOK e:=H (.mk p e) (List.mem_cons_self)
   have:=Q4h t hl suf (pre++[.mk p e]) (maxI (maxI n (deepPat p)) (deepExp e)) s (pre.length+1) (by simpa using h) (by simp) (λw hw=>H w (List.mem_cons_of_mem _ hw)) (by omega) (by omega) (by omega)
   rw[Q4Y];rw[Exp.cells_eq] at this ⊢;simp only[go_sem,Nat.reduceLeDiff,Nat.reduceSub,f1,f2,f3,Q19 _ p _ (Nat.le_refl _) (show p.size<2^40 by omega),He s] at this ⊢
   exact this
theorem Q4g(t:Exp)(hl:t.kids.length<2^40)(hl2:t.cases.length<2^40)(hc:Case.sizes t.cases<2^40)(Hc:∀ c ∈ t.cases,rdeepExpOK c.exp):∀ (suf pre:List Exp) (n:Int) (s:St) (i:Nat),pre++suf=t.kids→i=pre.length→(∀ c ∈ suf,rdeepExpOK c)→0≤n→n<2^40→Exp.sizes suf<2^40→
  Q0N (t.cells.map .val) (.val (.int .i64 n)) (.val (.int .i64 i)) s=some (.ret (.val (.int .i64 (deepCases t.cases (deepExps suf n)+1))),s)
 |[],pre,n,s,i,h,hi,H,h0,h1,h2=>by
   subst hi
   have:=Q4h t hl2 t.cases [] n s 0 rfl rfl Hc h0 h1 hc
   rw[Q4X];rw[Exp.cells_eq] at this ⊢;simp only[go_sem,Qa (by simpa using h)] at this ⊢
   exact this
 |e::suf,pre,n,s,i,h,hi,H,h0,h1,h2=>by
   subst hi
   obtain⟨f1,f2,f3⟩:=Q9 (x:=.val (encS t.kb (t.kids.map Exp.enc))) (Q4 _ _) h (by omega) (Exp.cells_len e) (by decide)
   have ht:=Q0w e
   simp only[Exp.sizes] at h2
   have h4:=QU n (deepExp e)
   have h6:=QV n (deepExp e) (2^40 - 1) (by omega) (by omega)
   have He:rdeepExpOK e:=H e (List.mem_cons_self)
   have:=Q4g t hl hl2 hc Hc suf (pre++[e]) (maxI n (deepExp e)) s (pre.length+1) (by simpa using h) (by simp) (λw hw=>H w (List.mem_cons_of_mem _ hw)) (by omega) (by omega) (by omega)
   rw[Q4X];rw[Exp.cells_eq] at this ⊢;simp only[go_sem,Nat.reduceLeDiff,f1,f2,f3,He s] at this ⊢
   exact this
theorem Q2Y(d:Dec)(x0:Slot)(j:Nat)(fx:ixS 7 x0 (.val (.int .i64 (j:Int)))=some (.val (.cp d.cells)))(n0:Int)(hj:j<2^40)(hl:d.cons.length<2^40):∀ (suf pre:List Con) (n:Int) (s:St) (i:Nat),pre++suf=d.cons→i=pre.length→0≤n→n<2^40→Con.sizes suf<2^40→
  Q12 x0 (.val (.int .i64 n0)) (.val (.int .i64 j)) (.val (.int .i64 n)) (.val (.int .i64 i)) s=ZT x0 (.val (.int .i64 (maxI n0 (deepCons suf n+1)))) (.val (.int .i64 (j+1:Nat))) s
 |[],pre,n,s,i,h,hi,h0,h1,h2=>by
   subst hi
   rw[Q78];simp only[go_sem,fx,Dec.cells_eq,Qa (by simpa using h)]
   rw[wrap64 (n:=n+1) (by omega) (by omega),wrap64 (by omega) (by omega)];rfl
 |c::suf,pre,n,s,i,h,hi,h0,h1,h2=>by
   subst hi
   obtain⟨f1,f2,f3⟩:=Q9 (x:=.val (encS d.nb (d.cons.map Con.enc))) (Q4 _ _) h (by omega) (Con.cells_len c) (by decide)
   have ht:=Q4b c.arg
   simp only[Con.sizes,Con.size] at h2
   have hm:=QV n (deepTy c.arg) (2^40 - 1)
   have hn:=QU n (deepTy c.arg)
   obtain⟨nm,a,hs,arg⟩:=c
   dsimp only at ht hm hn h2
   rw[Q78];simp only[go_sem,Nat.reduceLeDiff,fx,Dec.cells_eq,f1,f2,f3,Con.cells]
   cases hs with
   |false=>
     simp only[go_sem]
     exact Q2Y d x0 j fx n0 hj hl suf (pre++[_]) n s _ (by simpa using h) (by simp) (by omega) (by omega) (by omega)
   |true=>
     simp only[go_sem,Q6q _ arg _ (Nat.le_refl _) (show arg.size<2^40 by omega)]
     exact Q2Y d x0 j fx n0 hj hl suf (pre++[_]) _ s _ (by simpa using h) (by simp) (by omega) (by omega) (by omega)
theorem Q5T(d:Dec)(x0:Slot)(j:Nat)(fx:ixS 7 x0 (.val (.int .i64 (j:Int)))=some (.val (.cp d.cells)))(n0:Int)(hj:j<2^40)(hl:d.funs.length<2^40)(hl3:d.cons.length<2^40)(hc:Con.sizes d.cons<2^40):∀ (suf pre:List Fun) (n:Int) (s:St) (i:Nat),pre++suf=d.funs→i=pre.length→(∀ f ∈ suf,rdeepExpOK f.case.exp)→0≤n→n<2^40→Fun.sizes suf<2^40→
  Q2o x0 (.val (.int .i64 n0)) (.val (.int .i64 j)) (.val (.int .i64 n)) (.val (.int .i64 i)) s=ZT x0 (.val (.int .i64 (maxI n0 (deepCons d.cons (deepFuns suf n)+1)))) (.val (.int .i64 (j+1:Nat))) s
 |[],pre,n,s,i,h,hi,H,h0,h1,h2=>by
   subst hi
   have:=Q2Y d x0 j fx n0 hj hl3 d.cons [] n s 0 rfl rfl h0 h1 hc
   rw[Q77];simp only[go_sem,Nat.reduceAdd,Nat.reduceLeDiff,fx,Dec.cells_eq,Qa (by simpa using h)]
   exact this
 |.mk nm a (.mk p e)::suf,pre,n,s,i,h,hi,H,h0,h1,h2=>by
   subst hi
   obtain⟨f1,f2,f3⟩:=Q9 (x:=.val (encS d.fb (d.funs.map Fun.enc))) (Q4 _ _) h (by omega) (Fun.cells_len (.mk nm a (.mk p e))) (by decide)
   have ht:=Q0w e
   have hp:=Q0x p
   simp only[Fun.sizes,Fun.size,Case.size] at h2
   have h4:=QU n (deepPat p)
   have h5:=QU (maxI n (deepPat p)) (deepExp e)
   have h6:=QV n (deepPat p) (2^40 - 1) (by omega) (by omega)
   have h7:=QV (maxI n (deepPat p)) (deepExp e) (2^40 - 1) (by omega) (by omega)
   have ha:=QfB (.mk p e) n h0
   simp only[Case.pat,Case.exp] at ha
   have He:rdeepExpOK e:=H (.mk nm a (.mk p e)) (List.mem_cons_self)
   have:=Q5T d x0 j fx n0 hj hl hl3 hc suf (pre++[_]) (maxI (maxI n (deepPat p)) (deepExp e)) s (pre.length+1) (by simpa using h) (by simp) (λw hw=>H w (List.mem_cons_of_mem _ hw)) (by omega) (by omega) (by omega)
   rw[Q77];simp only[go_sem,Nat.reduceAdd,Nat.reduceLeDiff,Nat.reduceSub,fx,Dec.cells_eq,f1,f2,f3,Q19 _ p _ (Nat.le_refl _) (show p.size<2^40 by omega),He s]
   simp only[deepFuns]
   rw[←ha]
   exact this
theorem Q5S(d:Dec)(x0:Slot)(j:Nat)(fx:ixS 7 x0 (.val (.int .i64 (j:Int)))=some (.val (.cp d.cells)))(n0:Int)(hj:j<2^40)(hl:d.case.length<2^40)(hl2:d.funs.length<2^40)(hl3:d.cons.length<2^40)(hc:Con.sizes d.cons<2^40)(hf:Fun.sizes d.funs<2^40)(HF:∀ f ∈ d.funs,rdeepExpOK f.case.exp):∀ (suf pre:List Case) (n:Int) (s:St) (i:Nat),pre++suf=d.case→i=pre.length→(∀ f ∈ suf,rdeepExpOK f.exp)→0≤n→n<2^40→Case.sizes suf<2^40→
  Q2n x0 (.val (.int .i64 n0)) (.val (.int .i64 j)) (.val (.int .i64 n)) (.val (.int .i64 i)) s=ZT x0 (.val (.int .i64 (maxI n0 (deepCons d.cons (deepFuns d.funs (deepCases suf n))+1)))) (.val (.int .i64 (j+1:Nat))) s
 |[],pre,n,s,i,h,hi,H,h0,h1,h2=>by
   subst hi
   have:=Q5T d x0 j fx n0 hj hl2 hl3 hc d.funs [] n s 0 rfl rfl HF h0 h1 hf
   rw[Q76];simp only[go_sem,fx,Dec.cells_eq,Qa (by simpa using h)]
   exact this
 |.mk p e::suf,pre,n,s,i,h,hi,H,h0,h1,h2=>by
   subst hi
   obtain⟨f1,f2,f3⟩:=Q9 (x:=.val (encS d.cb (d.case.map Case.enc))) (Q4 _ _) h (by omega) (Case.cells_len (.mk p e)) (by decide)
   have ht:=Q0w e
   have hp:=Q0x p
   simp only[Case.sizes,Case.size] at h2
   have h4:=QU n (deepPat p)
   have h5:=QU (maxI n (deepPat p)) (deepExp e)
   have h6:=QV n (deepPat p) (2^40 - 1) (by omega) (by omega)
   have h7:=QV (maxI n (deepPat p)) (deepExp e) (2^40 - 1) (by omega) (by omega)
   have He:rdeepExpOK e:=H (.mk p e) (List.mem_cons_self)
   have:=Q5S d x0 j fx n0 hj hl hl2 hl3 hc hf HF suf (pre++[_]) (maxI (maxI n (deepPat p)) (deepExp e)) s (pre.length+1) (by simpa using h) (by simp) (λw hw=>H w (List.mem_cons_of_mem _ hw)) (by omega) (by omega) (by omega)
   rw[Q76];simp only[go_sem,Nat.reduceLeDiff,Nat.reduceSub,fx,Dec.cells_eq,f1,f2,f3,Q19 _ p _ (Nat.le_refl _) (show p.size<2^40 by omega),He s]
   exact this
theorem Q4I(L:List Dec)(x:Slot)(hx:x.list? = some (L.map Dec.enc))(hl:L.length<2^40):∀ (suf pre:List Dec) (n:Int) (s:St) (i:Nat),pre++suf=L→i=pre.length→(∀ d ∈ suf,(∀ c ∈ d.case,rdeepExpOK c.exp)∧∀ f ∈ d.funs,rdeepExpOK f.case.exp)→0≤n→n<2^40→Dec.sizes suf<2^40→
  ZT x (.val (.int .i64 n)) (.val (.int .i64 i)) s=some (.ret (.val (.int .i64 (deepDecs suf n))),s)
 |[],pre,n,s,i,h,hi,H,h0,h1,h2=>by
   subst hi
   rw[Q75];simp only[go_sem,hx,Qa (by simpa using h)];rfl
 |.mk k a nm p l nb c cb f fb::suf,pre,n,s,i,h,hi,H,h0,h1,h2=>by
   subst hi
   obtain⟨f1,f2,f3⟩:=Q9 hx h (by omega) (Dec.cells_len (.mk k a nm p l nb c cb f fb)) (by decide)
   obtain⟨hC,hF⟩:=H (.mk k a nm p l nb c cb f fb) (List.mem_cons_self)
   simp only[Dec.sizes,Dec.size] at h2
   have g1:=Q1J c 0
   have g2:=Q5D f (deepCases c 0)
   have g3:=Q5C l (deepFuns f (deepCases c 0))
   have g5:=QU n (deepCons l (deepFuns f (deepCases c 0))+1)
   have g6:=QV n (deepCons l (deepFuns f (deepCases c 0))+1) (2^40 - 1) (by omega) (by omega)
   have g7:=Fun.len_sizes f
   have g8:=Case.len_sizes c
   have g9:=Con.len_sizes l
   have hlen:pre.length<L.length:=by rw[←h];simp
   have:=Q5S (.mk k a nm p l nb c cb f fb) x pre.length f2 n (by omega) (by simp only[Dec.case];omega) (by simp only[Dec.funs];omega) (by simp only[Dec.cons];omega) (by simp only[Dec.cons];omega) (by simp only[Dec.funs];omega) hF c [] 0 s 0 rfl rfl hC (by decide) (by decide) (by omega)
   rw[show ((0:Nat):Int)=0 from rfl] at this
   rw[Q75];simp only[go_sem,hx,f1,f2,this]
   exact Q4I L x hx hl suf (pre++[_]) _ s _ (by simpa using h) (by simp) (λu hu=>H u (List.mem_cons_of_mem _ hu)) (by simp only[Dec.cons,Dec.funs];omega) (by simp only[Dec.cons,Dec.funs];omega) (by omega)
theorem Qdj:∀ m:Nat,(∀ e:Exp,e.size≤m→e.size<2^40→rdeepExpOK e)∧(∀ l:List Dec,Dec.sizes l≤m→Dec.sizes l<2^40→rdeepDecsOK l):=by
 intro m
 induction m with
 |zero=>
   refine⟨λe h _=>?_,λl h _ v s hv=>?_⟩
   ·obtain⟨k,a,nm,n,l,lb,c,cb,d,db⟩:=e
    simp only[Exp.size] at h;omega
   ·cases l with
    |cons c l=>obtain⟨k,a,nm,p,l,nb,c,cb,f,fb⟩:=c;simp only[Dec.sizes,Dec.size] at h;omega
    |nil=>
      rw[Q9d]
      exact Q4I [] _ hv (by decide) [] [] 0 s 0 rfl rfl (by simp) (by decide) (by decide) (by simp only[Dec.sizes];decide)
 |succ m ih=>
   obtain⟨ihE,ihD⟩:=ih
   have hcase:∀ (c:List Case),Case.sizes c≤m+1→Case.sizes c<2^40→∀ t ∈ c,rdeepExpOK t.exp:=λc h h' t ht=>by
    have:=Case.mem_sizes ht
    obtain⟨p,e⟩:=t
    simp only[Case.size] at this
    exact ihE e (by omega) (by omega)
   refine⟨λe h h' s=>?_,λl h h' v s hv=>?_⟩
   ·obtain⟨k,a,nm,n,l,lb,c,cb,d,db⟩:=e
    simp only[Exp.size] at h h'
    have hl:=Exp.len_sizes l
    have hl2:=Case.len_sizes c
    have g1:=Q3y d 0
    have hD:=λs=>ihD d (by omega) (by omega) (encS db (d.map Dec.enc)) s (by simp only[go_sem])
    have:=Q4g (.mk k a nm n l lb c cb d db) (by simp only[Exp.kids];omega) (by simp only[Exp.cases];omega) (by simp only[Exp.cases];omega) (hcase c (by omega) (by omega)) l [] (deepDecs d 0) s 0 rfl rfl (λt ht=>ihE t (by have:=Exp.mem_sizes ht;omega) (by have:=Exp.mem_sizes ht;omega)) (by omega) (by omega) (by omega)
    rw[Qbj];simp only[go_sem,Nat.reduceAdd,Nat.reduceLeDiff,Exp.enc,hD] at this ⊢
    rw[show ((0:Nat):Int)=0 from rfl] at this
    rw[this]
    simp only[Exp.cases,deepExp]
    rw[Qh3]
   ·have:=Dec.len_sizes l
    rw[Q9d]
    refine Q4I l _ hv (by omega) l [] 0 s 0 rfl rfl (λt ht=>?_) (by decide) (by decide) h'
    have h1:=Dec.mem_sizes ht
    obtain⟨k,a,nm,p,l,nb,c,cb,f,fb⟩:=t
    simp only[Dec.size] at h1
    refine⟨hcase c (by omega) (by omega),λg hg=>?_⟩
    have h2:=Fun.mem_sizes hg
    obtain⟨nm,a,⟨p,e⟩⟩:=g
    simp only[Dec.funs,Fun.size,Case.size] at h2
    exact ihE e (by omega) (by omega)
theorem Qc9(l:List Dec)(nl:Bool)(s:St)(h:Dec.sizes l<2^40):cw (.f ZK) [encS nl (l.map Dec.enc)] s=some (.ret (.val (.int .i64 (deepDecs l 0))),s):=(Qdj (Dec.sizes l)).2 l (Nat.le_refl _) h _ s (by simp only[go_sem])
end Go.Proofs.YtgfhplcmcdimiaaGreatDoor