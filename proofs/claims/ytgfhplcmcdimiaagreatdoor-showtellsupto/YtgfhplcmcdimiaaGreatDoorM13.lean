/- A part of the proof: SExp4, SExp5, SExp6, SRef10d, PExp6. -/
import Derived.Test.YtgfhplcmcdimiaaGreatDoorM3
import Derived.Test.YtgfhplcmcdimiaaGreatDoorM9
import Derived.Test.YtgfhplcmcdimiaaGreatDoorM10
import Derived.Test.YtgfhplcmcdimiaaGreatDoorM11
import Derived.Test.YtgfhplcmcdimiaaGreatDoorM12
import Derived.Lib.IndexMore
set_option linter.unusedVariables false
set_option linter.unusedSimpArgs false
namespace Go.Proofs.YtgfhplcmcdimiaaGreatDoor
open Go Go.Am
set_option linter.unusedVariables false
set_option maxRecDepth 4000
section
variable (a:Int) (nm:Str) (n:Int) (kids:List Exp) (kb:Bool) (cs:List Case) (cb:Bool) (ds:List Dec) (db:Bool)
theorem Q8A:(C.ext Q0K).isSome=false:=by kernel_rfl
theorem Qoo(h:isIntB n=true):ExpOK (.mk 1 a nm n kids kb cs cb ds db):=λs=>by
 obtain⟨x,s1,e1,g1,h1⟩:=Q7h n (Qd4 h) s
 rw[Zx,expT]
 simp only[go_sem,Int.reduceEq,Nat.reduceAdd,Nat.reduceLeDiff,Exp.cells_mk,decide_true,decide_false,e1]
 exact⟨x,s1,rfl,g1,h1⟩
theorem Qop:ExpOK (.mk 2 a nm n kids kb cs cb ds db):=λs=>by
 rw[Zx,expT]
 simp only[go_sem,Int.reduceEq,Nat.reduceAdd,Nat.reduceLeDiff,Exp.cells_mk,decide_true,decide_false,Qh]
 exact⟨_,s,rfl,.refl s,(Qf [nm]).slot⟩
theorem Q8D{l:List Exp}{x d:Exp}(h:l[0]? = some x):l.headD d=x:=by
 cases l with
 |nil=>simp at h
 |cons a l=>simpa using h
theorem Qoq(HK:∀ q ∈ kids,PartE q)(hk:kids.length≤1):ExpOK (.mk 3 a nm n kids kb cs cb ds db):=λs=>by
 rw[Zx,expT]
 cases hz:decide (kids.length>0) with
 |false=>
   have hz':decide ((kids.length:Int)>0)=false:=decide_eq_false (by have:=of_decide_eq_false hz;omega)
   simp only[go_sem,Int.reduceEq,Nat.reduceAdd,Nat.reduceLeDiff,Exp.cells_mk,decide_true,decide_false,Qh,Q4,List.length_map,hz',hz,cond_true,cond_false]
   exact⟨_,s,rfl,.refl s,(Qf [nm]).slot⟩
 |true=>
   have hz0:=of_decide_eq_true hz
   have hz':decide ((kids.length:Int)>0)=true:=decide_eq_true (by omega)
   obtain⟨q,hq⟩:∃ q,kids[0]? = some q:=⟨kids[0],by simp[hz0]⟩
   obtain⟨x,s1,e1,g1,h1⟩:=Q8j nm (.mk 3 a nm n kids kb cs cb ds db) (q:=q) hq (HK q (List.mem_of_getElem? hq)) s
   rw[Z3 hq]
   simp only[Exp.enc,Exp.cells_mk] at e1
   simp only[go_sem,Int.reduceEq,Nat.reduceAdd,Nat.reduceLeDiff,Exp.cells_mk,decide_true,decide_false,Q4,List.length_map,hz',hz,e1,cond_true,cond_false]
   exact⟨x,s1,rfl,g1,h1⟩
theorem QfG(k:Int)(sign:Str)(hk:k=4∧sign=[44]∨k=10∧sign=[59])(HK:∀ q ∈ kids,PartE q)(hs:Exp.sizes kids<2^22):ExpOK (.mk k a nm n kids kb cs cb ds db):=λs=>by
 have P:=Ql2 (.mk k a nm n kids kb cs cb ds db) (λq hq=>(HK q hq).ok)
 have X:=Qjo (.mk k a nm n kids kb cs cb ds db)
 have hb:=QfH (l:=kids) (λq hq=>Q4c (HK q hq).rn)
 have hl:((expTs kids).map (·.1)).length=kids.length:=by rw[List.length_map,Q0A,List.length_map]
 have hsum:=QaT (expTs kids)
 have hlz:=Exp.len_sizes kids
 obtain⟨x,s1,e1,g1,h1⟩:=RetA.toS (Q0b sign _ ((expTs kids).map (·.1)) P X (by omega) s)
 obtain⟨v,av,hv⟩:=h1.av
 have hj:=QN sign ((expTs kids).map (·.1)) true
 obtain⟨y,s2,e2,g2,h2⟩:=Q9I hv (by omega) s1
 rw[hl] at e1
 rw[Zx,expT]
 simp only[Exp.cells_mk] at e1
 rcases hk with ⟨rfl,rfl⟩ | ⟨rfl,rfl⟩
 ·simp only[go_sem,Int.reduceEq,Nat.reduceAdd,Nat.reduceLeDiff,Exp.cells_mk,decide_true,decide_false,Q4,List.length_map,e1,QS av,e2,cond_true,cond_false]
  exact⟨y,s2,rfl,g1.trans g2,h2⟩
 ·simp only[go_sem,Int.reduceEq,Nat.reduceAdd,Nat.reduceLeDiff,Exp.cells_mk,decide_true,decide_false,Q4,List.length_map,e1,QS av,e2,cond_true,cond_false]
  exact⟨y,s2,rfl,g1.trans g2,h2⟩
theorem Qor(HC:∀ c ∈ cs,PartC c)(hs:Case.sizes cs<2^22):ExpOK (.mk 5 a nm n kids kb cs cb ds db):=λs=>by
 obtain⟨x,s1,e1,g1,h1⟩:=Q4N cs cb HC hs s
 obtain⟨v,av,hv⟩:=h1.av
 have hb:=Q5m (caseTs cs) true
 have hb2:=Q4a (l:=cs) (λc hc=>Q4c (HC c hc).e.rn)
 have hj:=QN [124] (caseT (caseTs cs) true) true
 obtain⟨y,s2,e2,g2,h2⟩:=cat2 (Qf [[102,110]]) hv (by simp only[List.length_singleton];omega) s1
 rw[Zx,expT]
 simp only[List.map_cons,List.map_nil] at e2
 simp only[go_sem,Int.reduceEq,Nat.reduceAdd,Nat.reduceLeDiff,Exp.cells_mk,decide_true,decide_false,Qh,e1,hv.bslx av,e2,cond_true,cond_false]
 exact⟨y,s2,rfl,g1.trans g2,h2⟩
theorem Qos{x y:Exp}(qx:kids[0]? = some x)(qy:kids[1]? = some y)(hx:PartE x)(hy:PartE y):ExpOK (.mk 6 a nm n kids kb cs cb ds db):=λs=>by
 have f0:ixS 7 (.val (encS kb (kids.map Exp.enc))) (.val (.int .i64 0))=some (.val (.cp x.cells)):=ZI (.mk 6 a nm n kids kb cs cb ds db) (i:=0) (q:=x) qx
 have f1:ixS 7 (.val (encS kb (kids.map Exp.enc))) (.val (.int .i64 1))=some (.val (.cp y.cells)):=ZI (.mk 6 a nm n kids kb cs cb ds db) (i:=1) (q:=y) qy
 have cx:=Exp.cells_eq x
 have cy:=Exp.cells_eq y
 obtain⟨u,s1,e1,g1,h1⟩:=Q0d hx 8 s
 obtain⟨v1,av1,hv1⟩:=h1.av
 have lx:=hx.len
 have ly:=hy.len
 have px:=Q4e (b:=decide (levE x<8)) (l:=expT x)
 have py:=Q4e (b:=decide (levE y<9)) (l:=expT y)
 have J:∀ (z:Slot) (l:List Str),SlotS z l→l.length≤2^28→∀ s,RetS (Q3C (.val (.cp (Exp.mk 6 a nm n kids kb cs cb ds db).cells)) z s) s (l++parT (decide (levE y<9)) (expT y)):=λz l hz hzl s=>by
  obtain⟨v,av,hv⟩:=hz.av
  obtain⟨w,s2,e2,g2,h2⟩:=Q0d hy 9 s
  obtain⟨v2,av2,hv2⟩:=h2.av
  obtain⟨q,s3,e3,g3,h3⟩:=cat2 hv hv2 (by omega) s2
  rw[Qdx]
  simp only[Exp.enc,cy] at e2
  rw[cy] at f1
  simp only[go_sem,Nat.reduceAdd,Nat.reduceLeDiff,Exp.cells_mk,cy,f1,e2,hv.bslx av,hv2.bslx av2,e3]
  exact⟨q,s3,rfl,g2.trans g3,h3⟩
 rw[Zx,expT]
 rw[cx] at f0
 simp only[Exp.cells_mk] at J
 simp only[Exp.enc,cx] at e1
 have hb:bareE x=(decide (x.kind=3)&&(decide (x.kids.length=0) && !decide (x.name=[40,41]))):=rfl
 have hz:decide ((x.kids.length:Int)=0)=decide (x.kids.length=0):=by
  by_cases h:x.kids.length=0
  ·rw[decide_eq_true h,decide_eq_true (by omega)]
  ·rw[decide_eq_false h,decide_eq_false (by omega)]
 have hd:kids.headD (.mk 0 0 [] 0 [] true [] true [] true)=x:=Q8D qx
 rw[hd,hb]
 have JN:=J u _ h1 (by omega) s1
 obtain⟨w,s2,e2,g2,h2⟩:=Q9I hv1 (by omega) s1
 have JY:=J w _ h2 (by simp only[List.length_cons,List.length_append,List.length_nil];omega) s2
 obtain⟨qn,sn,en,gn,hn⟩:=JN
 obtain⟨ky,sy,ey,gy,hy'⟩:=JY
 cases h3:decide (x.kind=3) with
 |false=>
   simp only[go_sem,Int.reduceEq,Nat.reduceAdd,Nat.reduceLeDiff,Exp.cells_mk,cx,Z3 qx,Z3 qy,decide_true,decide_false,f0,e1,h3,en,cond_true,cond_false]
   exact⟨qn,sn,rfl,g1.trans gn,hn⟩
 |true=>
   cases h4:decide (x.kids.length=0) with
   |false=>
     rw[h4] at hz
     simp only[go_sem,Int.reduceEq,Nat.reduceAdd,Nat.reduceLeDiff,Exp.cells_mk,cx,Z3 qx,Z3 qy,decide_true,decide_false,f0,e1,h3,Q4,List.length_map,hz,en,cond_true,cond_false]
     exact⟨qn,sn,rfl,g1.trans gn,hn⟩
   |true=>
     rw[h4] at hz
     cases h5:decide (x.name=[40,41]) with
     |true=>
       simp only[go_sem,Int.reduceEq,Nat.reduceAdd,Nat.reduceLeDiff,Exp.cells_mk,cx,Z3 qx,Z3 qy,decide_true,decide_false,f0,e1,h3,Q4,List.length_map,hz,h5,en,cond_true,cond_false]
       exact⟨qn,sn,rfl,g1.trans gn,hn⟩
     |false=>
       simp only[go_sem,Int.reduceEq,Nat.reduceAdd,Nat.reduceLeDiff,Exp.cells_mk,cx,Z3 qx,Z3 qy,decide_true,decide_false,f0,e1,h3,Q4,List.length_map,hz,h5,QS av1,e2,ey,cond_true,cond_false]
       exact⟨ky,sy,rfl,(g1.trans g2).trans gy,hy'⟩
theorem Qou{x y z:Exp}(qx:kids[0]? = some x)(qy:kids[1]? = some y)(qz:kids[2]? = some z)(hx:PartE x)(hy:PartE y)(hz:PartE z):ExpOK (.mk 8 a nm n kids kb cs cb ds db):=λs=>by
 obtain⟨u1,s1,e1,g1,h1⟩:=Q2d (.mk 8 a nm n kids kb cs cb ds db) (i:=0) (q:=x) qx hx.ok s
 obtain⟨u2,s2,e2,g2,h2⟩:=Q2d (.mk 8 a nm n kids kb cs cb ds db) (i:=1) (q:=y) qy hy.ok s1
 obtain⟨u3,s3,e3,g3,h3⟩:=Q2d (.mk 8 a nm n kids kb cs cb ds db) (i:=2) (q:=z) qz hz.ok s2
 obtain⟨v1,av1,hv1⟩:=h1.av
 obtain⟨v2,av2,hv2⟩:=h2.av
 obtain⟨v3,av3,hv3⟩:=h3.av
 have lx:=hx.len
 have ly:=hy.len
 have lz:=hz.len
 obtain⟨q,s4,e4,g4,h4⟩:=catL [(.sl ([[105,102]].map AV.str),[[105,102]]),(v1,expT x),(.sl ([[116,104,101,110]].map AV.str),[[116,104,101,110]]),(v2,expT y),(.sl ([[101,108,115,101]].map AV.str),[[101,108,115,101]]),(v3,expT z)] (by
  intro p hp
  simp only[List.mem_cons,List.not_mem_nil,or_false] at hp
  rcases hp with rfl | rfl | rfl | rfl | rfl | rfl
  ·exact Qf _
  ·exact hv1
  ·exact Qf _
  ·exact hv2
  ·exact Qf _
  ·exact hv3) (by simp) (by simp[sumL];omega) s3
 rw[Zx,expT,Q6Q qx,Q6Q qy,Q6Q qz]
 rw[show ((0:Nat):Int)=0 from rfl] at e1
 rw[show ((1:Nat):Int)=1 from rfl] at e2
 rw[show ((2:Nat):Int)=2 from rfl] at e3
 simp only[Exp.cells_mk] at e1 e2 e3
 simp only[List.map_cons,List.map_nil] at e4
 simp only[go_sem,Int.reduceEq,Nat.reduceAdd,Nat.reduceLeDiff,Exp.cells_mk,decide_true,decide_false,Qh,Q8A,e1,e2,e3,hv1.bslx av1,hv2.bslx av2,hv3.bslx av3,e4,cond_true,cond_false]
 refine⟨q,s4,rfl,((g1.trans g2).trans g3).trans g4,?_⟩
 simpa using h4
theorem Qov{x:Exp}(qx:kids[0]? = some x)(hx:PartE x)(HC:∀ c ∈ cs,PartC c)(hs:Case.sizes cs<2^22):ExpOK (.mk 9 a nm n kids kb cs cb ds db):=λs=>by
 obtain⟨u1,s1,e1,g1,h1⟩:=Q2d (.mk 9 a nm n kids kb cs cb ds db) (i:=0) (q:=x) qx hx.ok s
 obtain⟨v1,av1,hv1⟩:=h1.av
 obtain⟨u2,s2,e2,g2,h2⟩:=Q4N cs cb HC hs s1
 obtain⟨v2,av2,hv2⟩:=h2.av
 have hb:=Q5m (caseTs cs) true
 have hb2:=Q4a (l:=cs) (λc hc=>Q4c (HC c hc).e.rn)
 have hj:=QN [124] (caseT (caseTs cs) true) true
 have lx:=hx.len
 obtain⟨q,s4,e4,g4,h4⟩:=cat4 (Qf [[99,97,115,101]]) hv1 (Qf [[111,102]]) hv2 (by simp only[List.length_singleton];omega) s2
 rw[Zx,expT,Q6Q qx]
 rw[show ((0:Nat):Int)=0 from rfl] at e1
 simp only[Exp.cells_mk] at e1
 simp only[List.map_cons,List.map_nil] at e4
 simp only[go_sem,Int.reduceEq,Nat.reduceAdd,Nat.reduceLeDiff,Exp.cells_mk,decide_true,decide_false,Qh,Q8A,e1,e2,hv1.bslx av1,hv2.bslx av2,e4,cond_true,cond_false]
 exact⟨q,s4,rfl,(g1.trans g2).trans g4,h4⟩
theorem Qmf{x:Exp}(qx:kids[0]? = some x)(hx:PartE x):ExpOK (.mk 12 a nm n kids kb cs cb ds db):=λs=>by
 obtain⟨u1,s1,e1,g1,h1⟩:=Q2d (.mk 12 a nm n kids kb cs cb ds db) (i:=0) (q:=x) qx hx.ok s
 obtain⟨v1,av1,hv1⟩:=h1.av
 have lx:=hx.len
 obtain⟨q,s4,e4,g4,h4⟩:=cat2 (Qf [[114,97,105,115,101]]) hv1 (by simp only[List.length_singleton];omega) s1
 rw[Zx,expT,Q6Q qx]
 rw[show ((0:Nat):Int)=0 from rfl] at e1
 simp only[Exp.cells_mk] at e1
 simp only[List.map_cons,List.map_nil] at e4
 simp only[go_sem,Int.reduceEq,Nat.reduceAdd,Nat.reduceLeDiff,Exp.cells_mk,decide_true,decide_false,Qh,Q8A,e1,hv1.bslx av1,e4,cond_true,cond_false]
 exact⟨q,s4,rfl,g1.trans g4,h4⟩
end
end Go.Proofs.YtgfhplcmcdimiaaGreatDoor
namespace Go.Proofs.YtgfhplcmcdimiaaGreatDoor
open Go Go.Am
set_option linter.unusedVariables false
set_option maxRecDepth 4000
theorem Ql4(k:Nat)(h:k<9)(s:St):ixA 9 1 (.val (.cp glob0)) (.val (.int .i64 (k:Int)))=some (.val (.cp (glob0.drop (k*1))))∧ldV (C.ti Q1) true s (.val (.cp (glob0.drop (k*1))))=some (.val (.str (opN ((k:Int)+1)))):=by
 match k,h with
 |0,_ | 1,_ | 2,_ | 3,_ | 4,_ | 5,_ | 6,_ | 7,_ | 8,_=>exact⟨by kernel_rfl,by kernel_rfl⟩
 |n+9,h=>omega
section
variable (a:Int) (nm:Str) (n:Int) (kids:List Exp) (kb:Bool) (cs:List Case) (cb:Bool) (ds:List Dec) (db:Bool)
theorem QhZ{x y:Exp}(hx:PartE x)(hy:PartE y)(w:Str)(l r:Int)(s:St):∃ u1 s1 v1 u2 s2 v2 q s3,cw (.f Z8) [x.enc,.int .i64 l] s=some (.ret u1,s1)∧u1.av=some v1∧StrsAV v1 (parT (decide (levE x<l)) (expT x))∧cw (.f Z8) [y.enc,.int .i64 r] s1=some (.ret u2,s2)∧u2.av=some v2∧StrsAV v2 (parT (decide (levE y<r)) (expT y))∧
  cw (.f Qm) [.sl [v1,.sl [.str w],v2]] s2=some (.ret q,s3)∧Grew s s3∧SlotS q (parT (decide (levE x<l)) (expT x)++([w]++parT (decide (levE y<r)) (expT y))):=by
 obtain⟨u1,s1,e1,g1,h1⟩:=Q0d hx l s
 obtain⟨v1,av1,hv1⟩:=h1.av
 obtain⟨u2,s2,e2,g2,h2⟩:=Q0d hy r s1
 obtain⟨v2,av2,hv2⟩:=h2.av
 have lx:=hx.len
 have ly:=hy.len
 have px:=Q4e (b:=decide (levE x<l)) (l:=expT x)
 have py:=Q4e (b:=decide (levE y<r)) (l:=expT y)
 obtain⟨q,s3,e3,g3,h3⟩:=cat3 hv1 (Qf [w]) hv2 (by simp only[List.length_singleton];omega) s2
 exact⟨u1,s1,v1,u2,s2,v2,q,s3,e1,av1,hv1,e2,av2,hv2,e3,(g1.trans g2).trans g3,h3⟩
theorem Q41(k:Int)(hk:k=11∨k=13∨k=14∨k=15∨k=16∨k=17∨k=18∨k=19∨k=20){l:List Str}(s:St)(h:RetS (cw (.f Q3x) [(Exp.mk k a nm n kids kb cs cb ds db).enc] s) s l):RetS (cw (.f ZA) [(Exp.mk k a nm n kids kb cs cb ds db).enc] s) s l:=by
 obtain⟨x,s1,e1,g1,h1⟩:=h
 rw[Zx]
 simp only[Exp.enc,Exp.cells_mk] at e1
 rcases hk with rfl | rfl | rfl | rfl | rfl | rfl | rfl | rfl | rfl <;>
  (simp only[go_sem,Int.reduceEq,Nat.reduceAdd,Nat.reduceLeDiff,Exp.cells_mk,decide_true,decide_false,e1];exact⟨x,s1,rfl,g1,h1⟩)
theorem Qme{x:Exp}(qx:kids[0]? = some x)(hx:PartE x)(HC:∀ c ∈ cs,PartC c)(hs:Case.sizes cs<2^22):ExpOK (.mk 11 a nm n kids kb cs cb ds db):=λs=>by
 have f0:ixS 7 (.val (encS kb (kids.map Exp.enc))) (.val (.int .i64 0))=some (.val (.cp x.cells)):=ZI (.mk 11 a nm n kids kb cs cb ds db) (i:=0) (q:=x) qx
 have cx:=Exp.cells_eq x
 obtain⟨u1,s1,e1,g1,h1⟩:=Q0d hx 3 s
 obtain⟨v1,av1,hv1⟩:=h1.av
 obtain⟨u2,s2,e2,g2,h2⟩:=Q4N cs cb HC hs s1
 obtain⟨v2,av2,hv2⟩:=h2.av
 have hb:=Q5m (caseTs cs) true
 have hb2:=Q4a (l:=cs) (λc hc=>Q4c (HC c hc).e.rn)
 have hj:=QN [124] (caseT (caseTs cs) true) true
 have lx:=hx.len
 have px:=Q4e (b:=decide (levE x<3)) (l:=expT x)
 obtain⟨q,s4,e4,g4,h4⟩:=cat3 hv1 (Qf [[104,97,110,100,108,101]]) hv2 (by simp only[List.length_singleton];omega) s2
 refine Q41 a nm n kids kb cs cb ds db 11 (by decide) s ?_
 rw[cx] at f0
 simp only[Exp.enc,cx] at e1
 simp only[List.map_cons,List.map_nil] at e4
 rw[Q0U,expT]
 simp only[go_sem,Int.reduceEq,Nat.reduceAdd,Nat.reduceLeDiff,Exp.cells_mk,Z3 qx,decide_true,decide_false,Qh,f0,e1,e2,hv1.bslx av1,hv2.bslx av2,e4,cond_true,cond_false]
 exact⟨q,s4,rfl,(g1.trans g2).trans g4,h4⟩
theorem Qe3(k l r:Int)(w:Str)(hk:k=15∧l=4∧r=3∧w=[111,114,101,108,115,101]∨k=14∧l=5∧r=4∧w=[97,110,100,97,108,115,111]){x y:Exp}(qx:kids[0]? = some x)(qy:kids[1]? = some y)(hx:PartE x)(hy:PartE y):ExpOK (.mk k a nm n kids kb cs cb ds db):=λs=>by
 have f0:ixS 7 (.val (encS kb (kids.map Exp.enc))) (.val (.int .i64 0))=some (.val (.cp x.cells)):=ZI (.mk k a nm n kids kb cs cb ds db) (i:=0) (q:=x) qx
 have f1:ixS 7 (.val (encS kb (kids.map Exp.enc))) (.val (.int .i64 1))=some (.val (.cp y.cells)):=ZI (.mk k a nm n kids kb cs cb ds db) (i:=1) (q:=y) qy
 have cx:=Exp.cells_eq x
 have cy:=Exp.cells_eq y
 obtain⟨u1,s1,v1,u2,s2,v2,q,s3,e1,av1,hv1,e2,av2,hv2,e3,g,h⟩:=QhZ hx hy w l r s
 rw[cx] at f0
 rw[cy] at f1
 simp only[Exp.enc,cx,cy] at e1 e2
 rcases hk with ⟨rfl,rfl,rfl,rfl⟩ | ⟨rfl,rfl,rfl,rfl⟩
 ·refine Q41 a nm n kids kb cs cb ds db 15 (by decide) s ?_
  rw[Q0U,expT]
  simp only[go_sem,Int.reduceEq,Nat.reduceAdd,Nat.reduceLeDiff,Exp.cells_mk,Z3 qx,Z3 qy,decide_true,decide_false,Qh,f0,f1,e1,e2,hv1.bslx av1,hv2.bslx av2,e3,cond_true,cond_false]
  exact⟨q,s3,rfl,g,h⟩
 ·refine Q41 a nm n kids kb cs cb ds db 14 (by decide) s ?_
  rw[Q0U,expT]
  simp only[go_sem,Int.reduceEq,Nat.reduceAdd,Nat.reduceLeDiff,Exp.cells_mk,Z3 qx,Z3 qy,decide_true,decide_false,Qh,f0,f1,e1,e2,hv1.bslx av1,hv2.bslx av2,e3,cond_true,cond_false]
  exact⟨q,s3,rfl,g,h⟩
theorem Qmh{x y:Exp}(qx:kids[0]? = some x)(qy:kids[1]? = some y)(hx:PartE x)(hy:PartE y):ExpOK (.mk 18 a nm n kids kb cs cb ds db):=λs=>by
 have f0:ixS 7 (.val (encS kb (kids.map Exp.enc))) (.val (.int .i64 0))=some (.val (.cp x.cells)):=ZI (.mk 18 a nm n kids kb cs cb ds db) (i:=0) (q:=x) qx
 have f1:ixS 7 (.val (encS kb (kids.map Exp.enc))) (.val (.int .i64 1))=some (.val (.cp y.cells)):=ZI (.mk 18 a nm n kids kb cs cb ds db) (i:=1) (q:=y) qy
 have cx:=Exp.cells_eq x
 have cy:=Exp.cells_eq y
 rw[cx] at f0
 rw[cy] at f1
 obtain⟨u1,s1,e1,g1,h1⟩:=Q0d hx 2 s
 obtain⟨v1,av1,hv1⟩:=h1.av
 have lx:=hx.len
 have ly:=hy.len
 have px:=Q4e (b:=decide (levE x<2)) (l:=expT x)
 have py:=Q4e (b:=decide (levE y<1)) (l:=expT y)
 have J:∀ (z:Slot) (l:List Str),SlotS z l→l.length≤2^28→∀ s,RetS (Q32 ((Exp.mk 18 a nm n kids kb cs cb ds db).cells.map .val) z s) s (l++([[58,61]]++parT (decide (levE y<1)) (expT y))):=λz l hz hzl s=>by
  obtain⟨v,av,hv⟩:=hz.av
  obtain⟨w,s2,e2,g2,h2⟩:=Q0d hy 1 s
  obtain⟨v2,av2,hv2⟩:=h2.av
  obtain⟨q,s3,e3,g3,h3⟩:=cat3 hv (Qf [[58,61]]) hv2 (by simp only[List.length_singleton];omega) s2
  rw[Qcu]
  simp only[Exp.enc,cy] at e2
  simp only[List.map_cons,List.map_nil] at e3
  simp only[go_sem,Nat.reduceAdd,Nat.reduceLeDiff,Exp.cells_mk,Qh,f1,e2,hv.bslx av,hv2.bslx av2,e3]
  exact⟨q,s3,rfl,g2.trans g3,h3⟩
 have hd:kids.headD (.mk 0 0 [] 0 [] true [] true [] true)=x:=Q8D qx
 obtain⟨w,s2,e2,g2,h2⟩:=Q9I hv1 (by omega) s1
 obtain⟨qn,sn,en,gn,hn⟩:=J u1 _ h1 (by omega) s1
 obtain⟨ky,sy,ey,gy,hy'⟩:=J w _ h2 (by simp only[List.length_cons,List.length_append,List.length_nil];omega) s2
 refine Q41 a nm n kids kb cs cb ds db 18 (by decide) s ?_
 rw[Q0U,expT,hd]
 simp only[Exp.cells_mk,List.map_cons,List.map_nil] at en ey
 simp only[Exp.enc,cx] at e1
 cases h3:decide (x.kind=11) with
 |false=>
   simp only[go_sem,Int.reduceEq,Nat.reduceAdd,Nat.reduceLeDiff,Exp.cells_mk,Z3 qx,Z3 qy,decide_true,decide_false,f0,e1,h3,en,cond_true,cond_false]
   exact⟨qn,sn,rfl,g1.trans gn,hn⟩
 |true=>
   simp only[go_sem,Int.reduceEq,Nat.reduceAdd,Nat.reduceLeDiff,Exp.cells_mk,Z3 qx,Z3 qy,decide_true,decide_false,f0,e1,h3,QS av1,e2,ey,cond_true,cond_false]
   exact⟨ky,sy,rfl,(g1.trans g2).trans gy,hy'⟩
theorem Qd8{x y:Exp}(k:Int)(qx:kids[0]? = some x)(qy:kids[1]? = some y)(hx:PartE x)(hy:PartE y)(hn:1≤n∧n≤9)(l m:Int)(hm:0≤m∧m<100)(s:St):RetS (Q33 ((Exp.mk k a nm n kids kb cs cb ds db).cells.map .val) (.val (.int .i64 m)) (.val (.int .i64 l)) s) s (parT (decide (levE x<l)) (expT x)++([opN n]++parT (decide (levE y<m+1)) (expT y))):=by
 have f0:ixS 7 (.val (encS kb (kids.map Exp.enc))) (.val (.int .i64 0))=some (.val (.cp x.cells)):=ZI (.mk k a nm n kids kb cs cb ds db) (i:=0) (q:=x) qx
 have f1:ixS 7 (.val (encS kb (kids.map Exp.enc))) (.val (.int .i64 1))=some (.val (.cp y.cells)):=ZI (.mk k a nm n kids kb cs cb ds db) (i:=1) (q:=y) qy
 have cx:=Exp.cells_eq x
 have cy:=Exp.cells_eq y
 rw[cx] at f0
 rw[cy] at f1
 obtain⟨u1,s1,v1,u2,s2,v2,q,s3,e1,av1,hv1,e2,av2,hv2,e3,g,h⟩:=QhZ hx hy (opN n) l (m+1) s
 obtain⟨p,hp⟩:=Int.eq_ofNat_of_zero_le (show 0≤n - 1 by omega)
 have hw1:IntKind.i64.wrap (n - 1)=(p:Int):=by rw[wrap64 (by omega) (by omega)];omega
 have hw2:IntKind.i64.wrap (m+1)=m+1:=wrap64 (by omega) (by omega)
 obtain⟨p1,p2⟩:=Ql4 p (by omega) s1
 rw[show ((p:Int)+1)=n by omega] at p2
 generalize Slot.val (.cp (glob0.drop (p*1)))=pv at p1 p2
 simp only[Exp.enc,cx,cy] at e1 e2
 rw[Qcv]
 simp only[go_sem,Nat.reduceAdd,Nat.reduceLeDiff,Exp.cells_mk,f0,f1,e1,e2,hw1,hw2,p1,p2,Qh,hv1.bslx av1,hv2.bslx av2,e3]
 exact⟨q,s3,rfl,g,h⟩
theorem Qmg{x y:Exp}(qx:kids[0]? = some x)(qy:kids[1]? = some y)(hx:PartE x)(hy:PartE y)(hn:1≤n∧n≤9):ExpOK (.mk 13 a nm n kids kb cs cb ds db):=λs=>by
 refine Q41 a nm n kids kb cs cb ds db 13 (by decide) s ?_
 have e1:=Q4O (.mk 13 a nm n kids kb cs cb ds db) (show (1:Int)≤13∧(13:Int)≤20 by decide) s
 have hlev:levE (.mk 13 a nm n kids kb cs cb ds db)=bif decide (n≥6) then 5 else bif decide (n≤2) then 6 else 7:=rfl
 rw[hlev] at e1
 rw[Q0U,expT]
 simp only[Exp.enc,Exp.cells_mk] at e1
 cases h6:decide (n≥6) with
 |true=>
   obtain⟨q,s3,e3,g,h⟩:=Qd8 a nm n kids kb cs cb ds db 13 qx qy hx hy hn 6 5 (by decide) s
   rw[h6] at e1
   simp only[Exp.cells_mk,List.map_cons,List.map_nil] at e3
   simp only[go_sem,Int.reduceEq,Nat.reduceAdd,Nat.reduceLeDiff,Exp.cells_mk,Z3 qx,Z3 qy,decide_true,decide_false,e1,e3,cond_true,cond_false]
   exact⟨q,s3,rfl,g,h⟩
 |false=>
   cases h2:decide (n≤2) with
   |true=>
     obtain⟨q,s3,e3,g,h⟩:=Qd8 a nm n kids kb cs cb ds db 13 qx qy hx hy hn 6 6 (by decide) s
     rw[h6,h2] at e1
     simp only[Exp.cells_mk,List.map_cons,List.map_nil] at e3
     simp only[go_sem,Int.reduceEq,Nat.reduceAdd,Nat.reduceLeDiff,Exp.cells_mk,Z3 qx,Z3 qy,decide_true,decide_false,e1,e3,cond_true,cond_false]
     exact⟨q,s3,rfl,g,h⟩
   |false=>
     obtain⟨q,s3,e3,g,h⟩:=Qd8 a nm n kids kb cs cb ds db 13 qx qy hx hy hn 7 7 (by decide) s
     rw[h6,h2] at e1
     simp only[Exp.cells_mk,List.map_cons,List.map_nil] at e3
     simp only[go_sem,Int.reduceEq,Nat.reduceAdd,Nat.reduceLeDiff,Exp.cells_mk,Z3 qx,Z3 qy,decide_true,decide_false,e1,e3,cond_true,cond_false]
     exact⟨q,s3,rfl,g,h⟩
theorem Qb8(k:Int)(w:Str)(hk:k=16∧w=[114,101,102]∨k=17∧w=[33]∨k=19∧w=[112,114,105,110,116]){x:Exp}(qx:kids[0]? = some x)(hx:PartE x):ExpOK (.mk k a nm n kids kb cs cb ds db):=λs=>by
 obtain⟨q,s1,e1,g1,h1⟩:=Q8j w (.mk k a nm n kids kb cs cb ds db) (q:=x) qx hx s
 refine Q41 a nm n kids kb cs cb ds db k (by rcases hk with h | h | h <;> simp[h.1]) s ?_
 rw[Q0U,expT]
 simp only[Exp.enc,Exp.cells_mk] at e1
 rcases hk with ⟨rfl,rfl⟩ | ⟨rfl,rfl⟩ | ⟨rfl,rfl⟩
 ·simp only[go_sem,Int.reduceEq,Nat.reduceAdd,Nat.reduceLeDiff,Exp.cells_mk,Z3 qx,decide_true,decide_false,e1,cond_true,cond_false]
  exact⟨q,s1,rfl,g1,h1⟩
 ·simp only[go_sem,Int.reduceEq,Nat.reduceAdd,Nat.reduceLeDiff,Exp.cells_mk,Z3 qx,decide_true,decide_false,e1,cond_true,cond_false]
  exact⟨q,s1,rfl,g1,h1⟩
 ·simp only[go_sem,Int.reduceEq,Nat.reduceAdd,Nat.reduceLeDiff,Exp.cells_mk,Z3 qx,decide_true,decide_false,e1,cond_true,cond_false]
  exact⟨q,s1,rfl,g1,h1⟩
theorem Qmi:ExpOK (.mk 20 a nm n kids kb cs cb ds db):=λs=>by
 refine Q41 a nm n kids kb cs cb ds db 20 (by decide) s ?_
 rw[Q0U,expT]
 simp only[go_sem,Int.reduceEq,Nat.reduceAdd,Nat.reduceLeDiff,Exp.cells_mk,decide_true,decide_false,Qh,cond_true,cond_false]
 exact⟨_,s,rfl,.refl s,(Qf [[114,101,97,100],[40],[41]]).slot⟩
structure PartD (d:Dec):Prop where
 ok:DecOK d
 rn:∃ i,RN (nodesDec i d)
theorem PartD.len{d:Dec}(h:PartD d):(decT d).length+3≤30*d.size:=by obtain⟨i,h⟩:=h.rn;exact QhD h
theorem Qg0(E:Exp){x:Exp}(qx:E.kids[0]? = some x)(hx:PartE x)(ds:List Dec)(db:Bool)(hl:ds.length<2^40)(s0:St):∀ (suf pre:List Dec) (acc:List Str) (z:Slot) (s:St) (i:Nat),SlotS z acc→Grew s0 s→pre++suf=ds→i=pre.length→(∀ d ∈ suf,PartD d)→acc.length+30*Dec.sizes suf<2^28→
  RetS (Q3D (.val (.fn Q0K [.cp E.cells])) z (.val (encS db (ds.map Dec.enc))) (.val (.int .i64 ds.length)) (.val (.int .i64 i)) s) s0 (acc++((decTs suf).flatten++([[105,110]]++(expT x++[[101,110,100]]))))
 |[],pre,acc,z,s,i,hz,g,hp,hi,H,hb=>by
   subst hi
   obtain⟨v,av,hv⟩:=hz.av
   obtain⟨u,s1,e1,g1,h1⟩:=Q2d E (i:=0) qx hx.ok s
   obtain⟨v1,av1,hv1⟩:=h1.av
   have lx:=hx.len
   simp only[Dec.sizes] at hb
   obtain⟨q,s2,e2,g2,h2⟩:=cat4 hv (Qf [[105,110]]) hv1 (Qf [[101,110,100]]) (by simp only[List.length_singleton];omega) s1
   rw[show ((0:Nat):Int)=0 from rfl] at e1
   simp only[List.map_cons,List.map_nil] at e2
   rw[Q8g,decTs]
   simp only[go_sem,Nat.reduceAdd,Qa (by simpa using hp),Qh,Q8A,e1,hv.bslx av,hv1.bslx av1,e2]
   exact⟨q,s2,rfl,(g.trans g1).trans g2,h2⟩
 |d::suf,pre,acc,z,s,i,hz,g,hp,hi,H,hb=>by
   subst hi
   obtain⟨v,av,hv⟩:=hz.av
   have hd:=H d List.mem_cons_self
   obtain⟨u,s1,e1,g1,h1⟩:=hd.ok s
   obtain⟨v1,av1,hv1⟩:=h1.av
   have ld:=hd.len
   simp only[Dec.sizes] at hb
   obtain⟨f1,f2,f3⟩:=Q9 (x:=.val (encS db (ds.map Dec.enc))) (Q4 _ _) hp (by omega) (Dec.cells_len d) (by decide)
   obtain⟨q,s2,e2,g2,h2⟩:=cat2 hv hv1 (by omega) s1
   obtain⟨r,s3,e3,g3,h3⟩:=Qg0 E qx hx ds db hl s0 suf (pre++[d]) (acc++decT d) q s2 (pre.length+1) h2 ((g.trans g1).trans g2) (by simpa using hp) (by simp) (λx hx=>H x (List.mem_cons_of_mem _ hx)) (by simp only[List.length_append];omega)
   have cd:=Dec.cells_eq d
   have hdt:decTs (d::suf)=decT d::decTs suf:=by rw[decTs]
   rw[Q8g,hdt]
   simp only[Dec.enc,cd] at e1 f2
   simp only[go_sem,Nat.reduceAdd,Nat.reduceLeDiff,f1,f2,f3,e1,hv.bslx av,hv1.bslx av1,e2,e3]
   refine⟨r,s3,rfl,g3,?_⟩
   simpa using h3
theorem Qot{x:Exp}(qx:kids[0]? = some x)(hx:PartE x)(HD:∀ d ∈ ds,PartD d)(hs:Dec.sizes ds<2^22):ExpOK (.mk 7 a nm n kids kb cs cb ds db):=λs=>by
 have hl:=Dec.len_sizes ds
 obtain⟨q,s1,e1,g1,h1⟩:=Qg0 (.mk 7 a nm n kids kb cs cb ds db) (x:=x) qx hx ds db (by omega) s ds [] [[108,101,116]] (.val (.sl [.str [108,101,116]])) s 0 (Qf [[108,101,116]]).slot (.refl s) rfl rfl HD (by simp only[List.length_singleton];omega)
 rw[show ((0:Nat):Int)=0 from rfl] at e1
 simp only[Exp.cells_mk] at e1
 rw[Zx,expT,Q6Q qx]
 simp only[go_sem,Int.reduceEq,Nat.reduceAdd,Nat.reduceLeDiff,Exp.cells_mk,decide_true,decide_false,Qh,Q4,List.length_map,e1,cond_true,cond_false]
 exact⟨q,s1,rfl,g1,h1⟩
end
end Go.Proofs.YtgfhplcmcdimiaaGreatDoor
namespace Go.Proofs.YtgfhplcmcdimiaaGreatDoor
open Go Go.Am
set_option linter.unusedVariables false
set_option maxRecDepth 4000
theorem Qlc{t:Ty}(hg:goodB t=true)(hp:varB (λn=>decide (0≤n)&&decide (n≤9223372036854775807)) t=true):shpB t=true:=by
 cases t with
 |mk k n s l b=>
   show (bif decide (k=1) then decide (0≤n)&&decide (n<2^63) else !decide (s=[45,62]) || decide (l.length=2))=true
   cases hk:decide (k=1) with
   |true=>
     have h:=Q7p hp hk
     simp only[Bool.and_eq_true,decide_eq_true_eq] at h
     rw[cond_true,decide_eq_true h.1,decide_eq_true (show n<2^63 by omega)];rfl
   |false=>
     obtain⟨-,-,h,-⟩:=Q6Y hg hk
     cases hn:decide (s=[45,62]) with
     |false=>rfl
     |true=>
       have hn:=of_decide_eq_true hn
       subst hn
       rw[Qba] at h
       rw[cond_false,decide_eq_true (show l.length=2 by simp at h;omega)];rfl
mutual
theorem QgI:∀ t:Ty,allTy goodB t=true→VarOK t→allTy shpB t=true
 |.mk k n s l b,hg,hp=>by
   unfold VarOK at hp
   simp only[allTy,Bool.and_eq_true] at hg hp ⊢
   exact⟨Qlc hg.1 hp.1,Qew l hg.2 hp.2⟩
theorem Qew:∀ l:List Ty,allTys goodB l=true→allTys (varB λn=>decide (0≤n)&&decide (n≤9223372036854775807)) l=true→allTys shpB l=true
 |[],_,_=>rfl
 |t::l,hg,hp=>by
   simp only[allTys,Bool.and_eq_true] at hg hp ⊢
   exact⟨QgI t hg.1 hp.1,Qew l hg.2 hp.2⟩
end
structure PartN (c:Con):Prop where
 ty:c.has=true→TypOK c.arg
 size:c.size<2^22
theorem Q9f{c:Con}(H:PartN c)(s:St):RetS (cw (.f Q6E) [c.enc] s) s (conT c):=by
 have ct:=Ty.cells_eq c.arg
 have cc:c.cells = .str c.name :: .int .i64 c.at_ :: .bool c.has::c.arg.cells:=rfl
 rw[Qhp]
 unfold conT
 cases hh:c.has with
 |false=>
   simp only[go_sem,Nat.reduceAdd,Nat.reduceLeDiff,Con.enc,cc,ct,hh,Qh,cond_false]
   exact⟨_,s,rfl,.refl s,(Qf [c.name]).slot⟩
 |true=>
   obtain⟨u,s1,e1,g1,h1⟩:=H.ty hh 0 s
   obtain⟨v,av,hv⟩:=h1.av
   have hl:=Q2h c.arg 0
   have hs:=H.size
   unfold Con.size at hs
   obtain⟨q,s2,e2,g2,h2⟩:=cat2 (Qf [c.name,[111,102]]) hv (by simp only[List.length_cons,List.length_nil];omega) s1
   simp only[List.map_cons,List.map_nil] at e2
   simp only[Ty.enc,ct] at e1
   simp only[go_sem,Nat.reduceAdd,Nat.reduceLeDiff,Con.enc,cc,ct,hh,Qh,e1,hv.bslx av,e2,cond_true]
   exact⟨q,s2,rfl,g1.trans g2,h2⟩
theorem Qfv{cs:List Con}{b:Bool}{i:Nat}{c:Con}(hi:cs[i]? = some c):ixS 7 (.val (encS b (cs.map Con.enc))) (.val (.int .i64 (i:Int)))=some (.val (.cp c.cells)):=
 Q2A (Q4 _ _) (show (cs.map Con.enc)[i]? = some c.enc by simp[hi]) (Con.cells_len c) (by decide)
theorem QoA{fs:List Fun}{b:Bool}{i:Nat}{f:Fun}(hi:fs[i]? = some f):ixS 14 (.val (encS b (fs.map Fun.enc))) (.val (.int .i64 (i:Int)))=some (.val (.cp f.cells)):=
 Q2A (Q4 _ _) (show (fs.map Fun.enc)[i]? = some f.enc by simp[hi]) (Fun.cells_len f) (by decide)
section
variable (a:Int) (nm:Str) (p:Int) (cons:List Con) (nb:Bool) (cs:List Case) (cb:Bool) (fs:List Fun) (fb:Bool)
theorem Qoj{c:Case}(qc:cs[0]? = some c)(hc:PartC c):DecOK (.mk 1 a nm p cons nb cs cb fs fb):=λs=>by
 have f0:=QcY (b:=cb) qc
 have cc:c.cells=_:=Case.cells_eq c
 have cp:=Pat.cells_eq c.pat
 have ce:=Exp.cells_eq c.exp
 rw[cc,cp,ce,show ((0:Nat):Int)=0 from rfl] at f0
 simp only[List.cons_append,List.nil_append] at f0
 obtain⟨u1,s1,e1,g1,h1⟩:=Q3E hc.p s
 obtain⟨v1,av1,hv1⟩:=h1.av
 obtain⟨u2,s2,e2,g2,h2⟩:=hc.e.ok s1
 obtain⟨v2,av2,hv2⟩:=h2.av
 have hpl:=Q2f c.pat 0
 have hps:=hc.size
 have hel:=hc.e.len
 obtain⟨q,s3,e3,g3,h3⟩:=cat4 (Qf [[118,97,108]]) hv1 (Qf [[61]]) hv2 (by simp only[List.length_singleton];omega) s2
 have hcs:(caseTs cs).headD ([],[],false)=(patT c.pat 0,expT c.exp,openE c.exp):=by
  rw[Q09]
  cases cs with
  |nil=>simp at qc
  |cons x l=>simp at qc;subst qc;rfl
 rw[Q5F,decT,hcs]
 simp only[Pat.enc,cp] at e1
 simp only[Exp.enc,ce] at e2
 simp only[List.map_cons,List.map_nil] at e3
 simp only[go_sem,Int.reduceEq,Nat.reduceAdd,Nat.reduceLeDiff,Dec.cells_mk,decide_true,decide_false,Qh,f0,e1,e2,hv1.bslx av1,hv2.bslx av2,e3,cond_true,cond_false]
 exact⟨q,s3,rfl,(g1.trans g2).trans g3,h3⟩
theorem Qif{f:Fun}{i:Nat}(qf:fs[i]? = some f)(hc:PartC f.case)(s:St):RetS (cw (.f Q4r) [.int .i64 i,.cp (Dec.mk 2 a nm p cons nb cs cb fs fb).cells] s) s (funT f):=by
 have f0:=QoA (b:=fb) qf
 have cf:f.cells=_:=Fun.cells_eq f
 have cc:f.case.cells=_:=Case.cells_eq f.case
 have cp:=Pat.cells_eq f.case.pat
 have ce:=Exp.cells_eq f.case.exp
 rw[cf,cc,cp,ce] at f0
 simp only[List.cons_append,List.nil_append] at f0
 obtain⟨u1,s1,e1,g1,h1⟩:=hc.p 2 s (by decide) (by decide)
 obtain⟨v1,av1,hv1⟩:=h1.av
 obtain⟨u2,s2,e2,g2,h2⟩:=hc.e.ok s1
 obtain⟨v2,av2,hv2⟩:=h2.av
 have hpl:=Q2f f.case.pat 2
 have hps:=hc.size
 have hel:=hc.e.len
 obtain⟨q,s3,e3,g3,h3⟩:=cat4 (Qf [f.name]) hv1 (Qf [[61]]) hv2 (by simp only[List.length_singleton];omega) s2
 rw[Qf1]
 simp only[Pat.enc,cp] at e1
 simp only[Exp.enc,ce] at e2
 simp only[List.map_cons,List.map_nil] at e3
 simp only[go_sem,Nat.reduceAdd,Nat.reduceLeDiff,Dec.cells_mk,Qh,f0,e1,e2,hv1.bslx av1,hv2.bslx av2,e3]
 exact⟨q,s3,rfl,(g1.trans g2).trans g3,h3⟩
theorem Qok(HF:∀ f ∈ fs,PartC f.case)(hs:Fun.sizes fs<2^22):DecOK (.mk 2 a nm p cons nb cs cb fs fb):=λs=>by
 have P:PartOK (.fn Q4r [.cp (Dec.mk 2 a nm p cons nb cs cb fs fb).cells]) (funTs fs):=⟨_,_,rfl,λi l hli s=>by
  rw[Q5M,List.getElem?_map,Option.map_eq_some_iff] at hli
  obtain⟨f,h1,rfl⟩:=hli
  exact Qif a nm p cons nb cs cb fs fb h1 (HF f (List.mem_of_getElem? h1)) s⟩
 have hb:=QfV (l:=fs) (λf hf=>Q4c (HF f hf).e.rn)
 have hlen:(funTs fs).length=fs.length:=by rw[Q5M,List.length_map]
 obtain⟨u,s1,e1,g1,h1⟩:=RetA.toS (Q0b [97,110,100] _ (funTs fs) P (λg caps h=>by cases h;kernel_rfl) (by omega) s)
 obtain⟨v,av,hv⟩:=h1.av
 have hj:=QN [97,110,100] (funTs fs) true
 obtain⟨q,s2,e2,g2,h2⟩:=cat2 (Qf [[102,117,110]]) hv (by simp only[List.length_singleton];omega) s1
 rw[hlen] at e1
 rw[Q5F,decT]
 simp only[Dec.cells_mk] at e1
 simp only[List.map_cons,List.map_nil] at e2
 simp only[go_sem,Int.reduceEq,Nat.reduceAdd,Nat.reduceLeDiff,Dec.cells_mk,decide_true,decide_false,Qh,Q4,List.length_map,e1,hv.bslx av,e2,cond_true,cond_false]
 exact⟨q,s2,rfl,g1.trans g2,h2⟩
theorem Qom{c:Con}(qc:cons[0]? = some c)(hc:PartN c):DecOK (.mk 4 a nm p cons nb cs cb fs fb):=λs=>by
 have f0:=Qfv (b:=nb) qc
 have cc:c.cells = .str c.name :: .int .i64 c.at_ :: .bool c.has::c.arg.cells:=rfl
 have ct:=Ty.cells_eq c.arg
 rw[cc,ct,show ((0:Nat):Int)=0 from rfl] at f0
 obtain⟨u,s1,e1,g1,h1⟩:=Q9f hc s
 obtain⟨v,av,hv⟩:=h1.av
 have hl:=Qfu c
 have hs:=hc.size
 obtain⟨q,s2,e2,g2,h2⟩:=cat2 (Qf [[101,120,99,101,112,116,105,111,110]]) hv (by simp only[List.length_singleton];omega) s1
 have hh:(cons.map conT).headD []=conT c:=by
  cases cons with
  |nil=>simp at qc
  |cons x l=>simp at qc;subst qc;rfl
 rw[Q5F,decT,hh]
 simp only[Con.enc,cc,ct] at e1
 simp only[List.map_cons,List.map_nil] at e2
 simp only[go_sem,Int.reduceEq,Nat.reduceAdd,Nat.reduceLeDiff,Dec.cells_mk,decide_true,decide_false,Qh,f0,e1,hv.bslx av,e2,cond_true,cond_false]
 exact⟨q,s2,rfl,g1.trans g2,h2⟩
theorem Qih{c:Con}{i:Nat}(qc:cons[i]? = some c)(hc:PartN c)(s:St):RetS (cw (.f Q4t) [.int .i64 i,.cp (Dec.mk 3 a nm p cons nb cs cb fs fb).cells] s) s (conT c):=by
 have f0:=Qfv (b:=nb) qc
 have cc:c.cells = .str c.name :: .int .i64 c.at_ :: .bool c.has::c.arg.cells:=rfl
 have ct:=Ty.cells_eq c.arg
 rw[cc,ct] at f0
 obtain⟨u,s1,e1,g1,h1⟩:=Q9f hc s
 rw[Qf3]
 simp only[Con.enc,cc,ct] at e1
 simp only[go_sem,Nat.reduceAdd,Nat.reduceLeDiff,Dec.cells_mk,f0,e1]
 exact⟨u,s1,rfl,g1,h1⟩
theorem Qig(i:Nat)(hi:i<2^40)(s:St):RetS (cw (.f Q4s) [.int .i64 i] s) s [varT i]:=by
 have e1:=Q9i (i:Int) (by omega) (by omega) s
 rw[Qf2]
 simp only[go_sem,Nat.reduceAdd,e1,Qh]
 exact⟨_,s,rfl,.refl s,(Qf [varT i]).slot⟩
theorem Qoi(HN:∀ c ∈ cons,PartN c)(hs:Con.sizes cons<2^22)(z:Slot)(l:List Str)(hz:SlotS z l)(hl:l.length<2^20)(s:St):RetS (Q3B (.val (.cp (Dec.mk 3 a nm p cons nb cs cb fs fb).cells)) z s) s ([[100,97,116,97,116,121,112,101]]++(l++([nm,[61]]++joinT [124] (cons.map conT) true))):=by
 have P:PartOK (.fn Q4t [.cp (Dec.mk 3 a nm p cons nb cs cb fs fb).cells]) (cons.map conT):=⟨_,_,rfl,λi l hli s=>by
  rw[List.getElem?_map,Option.map_eq_some_iff] at hli
  obtain⟨c,h1,rfl⟩:=hli
  exact Qih a nm p cons nb cs cb fs fb h1 (HN c (List.mem_of_getElem? h1)) s⟩
 have hb:=Q9v cons
 obtain⟨v,av,hv⟩:=hz.av
 obtain⟨u1,s1,e1,g1,h1⟩:=RetA.toS (Q0b [124] _ (cons.map conT) P (λg caps h=>by cases h;kernel_rfl) (by rw[List.length_map];omega) s)
 obtain⟨v1,av1,hv1⟩:=h1.av
 have hj:=QN [124] (cons.map conT) true
 rw[List.length_map] at hj e1
 obtain⟨q,s2,e2,g2,h2⟩:=cat4 (Qf [[100,97,116,97,116,121,112,101]]) hv (Qf [nm,[61]]) hv1 (by simp only[List.length_cons,List.length_nil];omega) s1
 rw[Qdv]
 simp only[Dec.cells_mk] at e1
 simp only[List.map_cons,List.map_nil] at e2
 simp only[go_sem,Nat.reduceAdd,Dec.cells_mk,Qh,Q4,List.length_map,e1,hv.bslx av,hv1.bslx av1,e2]
 exact⟨q,s2,rfl,g1.trans g2,h2⟩
theorem Qol(hp:0≤p∧p≤8)(HN:∀ c ∈ cons,PartN c)(hs:Con.sizes cons<2^22):DecOK (.mk 3 a nm p cons nb cs cb fs fb):=λs=>by
 have J:=Qoi a nm p cons nb cs cb fs fb HN hs
 have J0:∀ (z:Slot) (l:List Str),SlotS z l→l.length<2^19→∀ s,RetS (Q3A (.val (.cp (Dec.mk 3 a nm p cons nb cs cb fs fb).cells)) z s) s ([[100,97,116,97,116,121,112,101]]++(parT (decide (p>1)) l++([nm,[61]]++joinT [124] (cons.map conT) true))):=λz l hz hl s=>by
  obtain⟨v,av,hv⟩:=hz.av
  rw[Qdu]
  cases hd:decide (p>1) with
  |false=>
    obtain⟨q,s1,e1,g1,h1⟩:=J z l hz (by omega) s
    simp only[Dec.cells_mk] at e1
    simp only[go_sem,Dec.cells_mk,hd,e1]
    exact⟨q,s1,rfl,g1,h1⟩
  |true=>
    obtain⟨w,s1,e1,g1,h1⟩:=Q9I hv (by omega) s
    obtain⟨q,s2,e2,g2,h2⟩:=J w _ h1 (by simp only[List.length_cons,List.length_append,List.length_nil];omega) s1
    simp only[Dec.cells_mk] at e2
    simp only[go_sem,Dec.cells_mk,hd,QS av,e1,e2]
    exact⟨q,s2,rfl,g1.trans g2,h2⟩
 rw[Q5F,decT]
 unfold parmT
 cases h0:decide (p>0) with
 |false=>
   have hp0:=of_decide_eq_false h0
   obtain⟨q,s1,e1,g1,h1⟩:=J0 (.val .nils) [] ⟨⟨.nils,rfl,rfl⟩,rfl⟩ (by decide) s
   rw[decide_eq_false (show ¬ p>1 by omega)] at h1
   simp only[Dec.cells_mk] at e1
   simp only[go_sem,Int.reduceEq,Nat.reduceAdd,Nat.reduceLeDiff,Dec.cells_mk,decide_true,decide_false,h0,e1,cond_true,cond_false]
   exact⟨q,s1,rfl,g1,h1⟩
 |true=>
   obtain⟨m,rfl⟩:=Int.eq_ofNat_of_zero_le hp.1
   have P:PartOK (.fn Q4s []) ((List.range m).map λi=>[varT i]):=⟨_,_,rfl,λi l hli s=>by
    rw[List.getElem?_map,Option.map_eq_some_iff] at hli
    obtain⟨j,h1,rfl⟩:=hli
    have hj:=List.getElem?_range (n:=m) (i:=i)
    have hlt:=(List.getElem?_eq_some_iff.1 h1).1
    rw[List.length_range] at hlt
    rw[List.getElem?_range hlt] at h1
    cases h1
    exact Qig i (by omega) s⟩
   have hsum:(((List.range m).map λi=>[varT i]).map (·.length)).sum=m:=by
    have:∀ l:List Nat,((l.map λi=>[varT i]).map (·.length)).sum=l.length:=by
     intro l
     induction l with
     |nil=>rfl
     |cons a l ih=>simp only[List.map_cons,List.sum_cons,ih,List.length_cons,List.length_nil];omega
    rw[this,List.length_range]
   have hlen:((List.range m).map λi=>[varT i]).length=m:=by simp
   obtain⟨u,s1,e1,g1,h1⟩:=RetA.toS (Q0b [44] _ ((List.range m).map λi=>[varT i]) P (λg caps h=>by cases h;kernel_rfl) (by omega) s)
   have hj:=QN [44] ((List.range m).map λi=>[varT i]) true
   rw[hsum,hlen] at hj
   rw[hlen] at e1
   obtain⟨q,s2,e2,g2,h2⟩:=J0 u _ h1 (by omega) s1
   simp only[Dec.cells_mk] at e2
   simp only[go_sem,Int.reduceEq,Nat.reduceAdd,Nat.reduceLeDiff,Dec.cells_mk,decide_true,decide_false,h0,e1,e2,cond_true,cond_false,Int.toNat_natCast]
   exact⟨q,s2,rfl,g1.trans g2,h2⟩
end
theorem nth0{α:Type}{l:List α}(h:0<l.length):∃ x,l[0]? = some x∧x ∈ l:=⟨l[0],by simp[h],List.getElem_mem h⟩
theorem nth1{α:Type}{l:List α}(h:1<l.length):∃ x,l[1]? = some x∧x ∈ l:=⟨l[1],by simp[h],List.getElem_mem h⟩
theorem nth2{α:Type}{l:List α}(h:2<l.length):∃ x,l[2]? = some x∧x ∈ l:=⟨l[2],by simp[h],List.getElem_mem h⟩
theorem Qmj(k a:Int)(nm:Str)(n:Int)(kids:List Exp)(kb:Bool)(cs:List Case)(cb:Bool)(ds:List Dec)(db:Bool)(I:ExpIs k n nm kids.length cs.length ds.length)(hs:(Exp.mk k a nm n kids kb cs cb ds db).size<2^22)
  (HK:∀ e ∈ kids,PartE e) (HC:∀ c ∈ cs,PartC c) (HD:∀ d ∈ ds,PartD d):ExpOK (.mk k a nm n kids kb cs cb ds db):=by
 simp only[Exp.size] at hs
 have hk:k=1∨k=2∨k=3∨k=4∨k=5∨k=6∨k=7∨k=8∨k=9∨k=10∨k=11∨k=12∨k=13∨k=14∨k=15∨k=16∨k=17∨k=18∨k=19∨k=20:=by have:=I.kind;omega
 have one:∀ h:k=12∨k=16∨k=17∨k=19,∃ x,kids[0]? = some x∧x ∈ kids:=λh=>nth0 (by have:=I.one h;omega)
 have two:∀ h:k=6∨k=14∨k=15∨k=18,∃ x y,kids[0]? = some x∧kids[1]? = some y∧x ∈ kids∧y ∈ kids:=λh=>by
  have:=I.two h
  obtain⟨x,h1,h2⟩:=nth0 (l:=kids) (by omega)
  obtain⟨y,h3,h4⟩:=nth1 (l:=kids) (by omega)
  exact⟨x,y,h1,h3,h2,h4⟩
 rcases hk with rfl | rfl | rfl | rfl | rfl | rfl | rfl | rfl | rfl | rfl | rfl | rfl | rfl | rfl | rfl | rfl | rfl | rfl | rfl | rfl
 ·exact Qoo a nm n kids kb cs cb ds db (I.int rfl)
 ·exact Qop a nm n kids kb cs cb ds db
 ·exact Qoq a nm n kids kb cs cb ds db HK (by have:=(I.con rfl).2;omega)
 ·exact QfG a nm n kids kb cs cb ds db 4 [44] (.inl ⟨rfl,rfl⟩) HK (by omega)
 ·exact Qor a nm n kids kb cs cb ds db HC (by omega)
 ·obtain⟨x,y,h1,h2,h3,h4⟩:=two (by simp)
  exact Qos a nm n kids kb cs cb ds db h1 h2 (HK x h3) (HK y h4)
 ·obtain⟨x,h1,h2⟩:=nth0 (l:=kids) (by have:=(I.letd rfl).1;omega)
  exact Qot a nm n kids kb cs cb ds db h1 (HK x h2) HD (by omega)
 ·obtain⟨x,h1,h2⟩:=nth0 (l:=kids) (by have:=I.if_ rfl;omega)
  obtain⟨y,h3,h4⟩:=nth1 (l:=kids) (by have:=I.if_ rfl;omega)
  obtain⟨z,h5,h6⟩:=nth2 (l:=kids) (by have:=I.if_ rfl;omega)
  exact Qou a nm n kids kb cs cb ds db h1 h3 h5 (HK x h2) (HK y h4) (HK z h6)
 ·obtain⟨x,h1,h2⟩:=nth0 (l:=kids) (by have:=(I.case_ rfl).1;omega)
  exact Qov a nm n kids kb cs cb ds db h1 (HK x h2) HC (by omega)
 ·exact QfG a nm n kids kb cs cb ds db 10 [59] (.inr ⟨rfl,rfl⟩) HK (by omega)
 ·obtain⟨x,h1,h2⟩:=nth0 (l:=kids) (by have:=(I.try_ rfl).1;omega)
  exact Qme a nm n kids kb cs cb ds db h1 (HK x h2) HC (by omega)
 ·obtain⟨x,h1,h2⟩:=one (by simp)
  exact Qmf a nm n kids kb cs cb ds db h1 (HK x h2)
 ·obtain⟨hl,hn⟩:=I.op rfl
  obtain⟨x,h1,h2⟩:=nth0 (l:=kids) (by omega)
  obtain⟨y,h3,h4⟩:=nth1 (l:=kids) (by omega)
  exact Qmg a nm n kids kb cs cb ds db h1 h3 (HK x h2) (HK y h4) hn
 ·obtain⟨x,y,h1,h2,h3,h4⟩:=two (by simp)
  exact Qe3 a nm n kids kb cs cb ds db 14 5 4 _ (.inr ⟨rfl,rfl,rfl,rfl⟩) h1 h2 (HK x h3) (HK y h4)
 ·obtain⟨x,y,h1,h2,h3,h4⟩:=two (by simp)
  exact Qe3 a nm n kids kb cs cb ds db 15 4 3 _ (.inl ⟨rfl,rfl,rfl,rfl⟩) h1 h2 (HK x h3) (HK y h4)
 ·obtain⟨x,h1,h2⟩:=one (by simp)
  exact Qb8 a nm n kids kb cs cb ds db 16 _ (.inl ⟨rfl,rfl⟩) h1 (HK x h2)
 ·obtain⟨x,h1,h2⟩:=one (by simp)
  exact Qb8 a nm n kids kb cs cb ds db 17 _ (.inr (.inl ⟨rfl,rfl⟩)) h1 (HK x h2)
 ·obtain⟨x,y,h1,h2,h3,h4⟩:=two (by simp)
  exact Qmh a nm n kids kb cs cb ds db h1 h2 (HK x h3) (HK y h4)
 ·obtain⟨x,h1,h2⟩:=one (by simp)
  exact Qb8 a nm n kids kb cs cb ds db 19 _ (.inr (.inr ⟨rfl,rfl⟩)) h1 (HK x h2)
 ·exact Qmi a nm n kids kb cs cb ds db
theorem QbJ:∀ m:Nat,(∀ e:Exp,e.size≤m→e.size<2^22→RN (nodesExp e)→ExpOK e)∧(∀ (d:Dec) (i:Bool),d.size≤m→d.size<2^22→RN (nodesDec i d)→(i=true∨NumCons d.cons)→DecOK d)
 |0=>⟨λe h=>by cases e;simp only[Exp.size] at h;omega,λd i h=>by cases d;simp only[Dec.size] at h;omega⟩
 |m+1=>by
   obtain⟨HE,HD⟩:=QbJ m
   have HC:∀ cs:List Case,Case.sizes cs≤m→Case.sizes cs<2^22→RN (nodesCases cs)→∀ c ∈ cs,PartC c:=λcs hs hs2 hr c hc=>by
    have h1:=Case.mem_sizes hc
    have h2:=RN.cases hr c hc
    cases c with
    |mk p e=>
      simp only[Case.size] at h1
      simp only[nodesCase] at h2
      exact⟨Q2L p.size p (Nat.le_refl _) (by omega) h2.l,⟨HE e (by omega) (by omega) h2.r,h2.r,by show e.size<_;omega⟩,by show p.size<_;omega⟩
   refine⟨λe h hb hr=>?_,λd i h hb hr hn=>?_⟩
   ·cases e with
    |mk k a nm n kids kb cs cb ds db=>
      have hb':=hb
      simp only[Exp.size] at h hb
      simp only[nodesExp] at hr
      have I:ExpIs k n nm kids.length cs.length ds.length:=Q9D (hr _ List.mem_cons_self)
      have hr':=hr.t
      refine Qmj k a nm n kids kb cs cb ds db I hb' (λe he=>?_) (HC cs (by omega) (by omega) hr'.r.r) (λd hd=>?_)
      ·have:=Exp.mem_sizes he
       exact⟨HE e (by omega) (by omega) (RN.exps hr'.r.l e he),RN.exps hr'.r.l e he,by omega⟩
      ·have:=Dec.mem_sizes hd
       exact⟨HD d true (by omega) (by omega) (RN.decs hr'.l d hd) (.inl rfl),true,RN.decs hr'.l d hd⟩
   ·cases d with
    |mk k a nm p cons nb cs cb fs fb=>
      simp only[Dec.size] at h hb
      simp only[nodesDec] at hr
      have I:DecIs k nm p cons.length cs.length fs.length i:=Q9y (hr _ List.mem_cons_self)
      have hr':=hr.t
      have HN:∀ c ∈ cons,PartN c:=λc hc=>by
       have h1:=Con.mem_sizes hc
       refine⟨λhh=>?_,by omega⟩
       rcases hn with rfl | hn
       ·have hz:cons=[]:=by
         rcases I.inn rfl with h2 | h2
         ·exact len0 (I.val h2).2.2
         ·exact len0 (I.fn h2).2.1
        rw[hz] at hc;cases hc
       ·have hv:=hn c hc hh
        have hw:∀ n ∈ nodesTy c.at_ c.arg,n.wrong.1=0:=λnd hnd=>hr'.r.r nd (Q1N hc nd (by unfold nodesCon;rw[hh];exact List.mem_cons_of_mem _ hnd))
        have hsz:c.arg.size<2^26:=by unfold Con.size at h1;omega
        exact Q6c c.arg.size c.arg (Nat.le_refl _) hsz (QgI c.arg (Q5r c.at_ c.arg hw) hv)
      rcases I.kind with rfl | rfl | rfl | rfl
      ·obtain⟨c,h1,h2⟩:=nth0 (l:=cs) (by have:=(I.val rfl).1;omega)
       exact Qoj a nm p cons nb cs cb fs fb h1 (HC cs (by omega) (by omega) hr'.l c h2)
      ·refine Qok a nm p cons nb cs cb fs fb (λf hf=>?_) (by omega)
       have h1:=Fun.mem_sizes hf
       have h2:=RN.funs hr'.r.l f hf
       cases f with
       |mk nm' a' c'=>
         cases c' with
         |mk p' e'=>
           simp only[Fun.size,Case.size] at h1
           simp only[Fun.case,nodesCase] at h2
           exact⟨Q2L p'.size p' (Nat.le_refl _) (by omega) h2.l,⟨HE e' (by omega) (by omega) h2.r,h2.r,by show e'.size<_;omega⟩,by show p'.size<_;omega⟩
      ·exact Qol a nm p cons nb cs cb fs fb ⟨(I.data rfl).2.2.1,(I.data rfl).2.2.2.1⟩ HN (by omega)
      ·obtain⟨c,h1,h2⟩:=nth0 (l:=cons) (by have:=(I.exn rfl).2.2;omega)
       exact Qom a nm p cons nb cs cb fs fb h1 (HN c h2)
theorem Qow{e:Exp}(hs:e.size<2^22)(hr:RN (nodesExp e)):ExpOK e:=(QbJ e.size).1 e (Nat.le_refl _) hs hr
theorem Qon{d:Dec}{i:Bool}(hs:d.size<2^22)(hr:RN (nodesDec i d))(hn:NumCons d.cons):DecOK d:=(QbJ d.size).2 d i (Nat.le_refl _) hs hr (.inr hn)
end Go.Proofs.YtgfhplcmcdimiaaGreatDoor
namespace Go.Am
open Go
theorem ZH(sep:Str):∀ (L:List Str) (f:Bool),(joinS sep L f).length≤(L.map (·.length)).sum+L.length*sep.length
 |[],_=>by simp[joinS]
 |s::r,f=>by
   have:=ZH sep r false
   cases f <;> simp[joinS,Nat.add_mul] <;> omega
theorem Q89{n:Int}(h0:0≤n)(h:n≤9223372036854775807):(letT n).length≤22:=by
 unfold letT
 have:=Go.Lib.itoa_length_le (n / 26) (by omega) (by omega)
 cases decide (n>25) <;> simp <;> omega
theorem Q7V{nm:Str}(h:((givenB nm).2.2 || lowB nm)=true):nm.length≤32:=by
 cases hl:lowB nm with
 |true=>
   unfold lowB runB at hl
   simp only[Bool.and_eq_true,decide_eq_true_eq] at hl
   exact hl.1.2.2
 |false=>
   rw[hl,Bool.or_false] at h
   unfold givenB at h
   by_cases c1:nm=[105,110,116]
   ·subst c1;decide
   by_cases c2:nm=[98,111,111,108]
   ·subst c2;decide
   by_cases c3:nm=[117,110,105,116]
   ·subst c3;decide
   by_cases c4:nm=[101,120,110]
   ·subst c4;decide
   by_cases c5:nm=[114,101,102]
   ·subst c5;decide
   by_cases c6:nm=[45,62]
   ·subst c6;decide
   by_cases c7:nm=[42]
   ·subst c7;decide
   rw[decide_eq_false c1,decide_eq_false c2,decide_eq_false c3,decide_eq_false c4,decide_eq_false c5,decide_eq_false c6,decide_eq_false c7] at h
   cases h
theorem Q1M:∀ (L:List Str) (i:Nat),(L.getD i []).length≤(L.map (·.length)).sum
 |[],i=>by simp
 |l::L,0=>by simp
 |l::L,i+1=>by have:=Q1M L i;simp at this ⊢;omega
mutual
theorem Q6T(vars:Int)(hv:0≤vars):∀ t:Ty,allTy goodB t=true→VarOK t→(txt10 vars t).length+12≤200*t.size
 |.mk k n nm ags b,hg,hp=>by
   simp only[allTy,Bool.and_eq_true] at hg
   unfold VarOK at hp
   simp only[allTy,Bool.and_eq_true] at hp
   simp only[txt10,Ty.size]
   cases hk:decide (k=1) with
   |true=>
     have hn:=Q7p hp.1 hk
     simp only[Bool.and_eq_true,decide_eq_true_eq] at hn
     rw[cond_true]
     cases hd:decide (n<vars) with
     |true=>
       have:=Q89 hn.1 hn.2
       simp only[cond_true,List.length_cons];omega
     |false=>
       have hd':=of_decide_eq_false hd
       have:=Q89 (n:=n - vars) (by omega) (by omega)
       simp only[cond_false,List.length_cons];omega
   |false=>
     obtain⟨-,-,-,hnm⟩:=Q6Y hg.1 hk
     have hs:=Q7V hnm
     have h0:=Q6N vars hv 0 ags hg.2 hp.2
     have h1:=Q6N vars hv 1 ags hg.2 hp.2
     have h2:=Q6N vars hv 2 ags hg.2 hp.2
     have hc:∀ lv,(ats10 vars ags lv).length=ags.length:=λlv=>by rw[Q7t,List.length_map]
     have hsz:=Ty.len_sizes ags
     rw[cond_false]
     cases decide (ags.length=0) with
     |true=>simp only[cond_true];omega
     |false=>
       rw[cond_false]
       cases decide (nm=[45,62]) with
       |true=>
         have a1:=Q1M (ats10 vars ags 1) 0
         have a2:=Q1M (ats10 vars ags 0) 1
         have a3:=QlV vars hv ags hg.2 hp.2
         simp only[cond_true,List.length_append,List.length_cons,List.length_nil];omega
       |false=>
         rw[cond_false]
         cases decide (nm=[42]) with
         |true=>
           have:=ZH [32,42,32] (ats10 vars ags 2) true
           rw[hc,show ([32,42,32]:Str).length=3 from rfl] at this
           simp only[cond_true];omega
         |false=>
           rw[cond_false]
           cases decide (ags.length=1) with
           |true=>
             have a1:=Q1M (ats10 vars ags 2) 0
             simp only[cond_true,List.length_append,List.length_cons];omega
           |false=>
             have:=ZH [44,32] (ats10 vars ags 0) true
             rw[hc,show ([44,32]:Str).length=2 from rfl] at this
             simp only[cond_false,List.length_append,List.length_cons];omega
theorem Q6N(vars:Int)(hv:0≤vars)(lv:Int):∀ l:List Ty,allTys goodB l=true→allTys (varB λn=>decide (0≤n)&&decide (n≤9223372036854775807)) l=true→((ats10 vars l lv).map (·.length)).sum+10*l.length≤200*Ty.sizes l
 |[],_,_=>by simp[ats10]
 |t::l,hg,hp=>by
   simp only[allTys,Bool.and_eq_true] at hg hp
   have h1:=Q6T vars hv t hg.1 hp.1
   have h2:=Q6N vars hv lv l hg.2 hp.2
   have h3:(parS (decide (levelT t<lv)) (txt10 vars t)).length≤(txt10 vars t).length+2:=by
    cases decide (levelT t<lv) <;> simp[parS]
   simp only[ats10,List.map_cons,List.sum_cons,List.length_cons,Ty.sizes]
   omega
theorem QlV(vars:Int)(hv:0≤vars):∀ l:List Ty,allTys goodB l=true→allTys (varB λn=>decide (0≤n)&&decide (n≤9223372036854775807)) l=true→((ats10 vars l 1).getD 0 []).length+((ats10 vars l 0).getD 1 []).length≤200*Ty.sizes l
 |[],_,_=>by simp[ats10]
 |[t],hg,hp=>by
   simp only[allTys,Bool.and_eq_true] at hg hp
   have h1:=Q6T vars hv t hg.1 hp.1
   have h3:(parS (decide (levelT t<1)) (txt10 vars t)).length≤(txt10 vars t).length+2:=by
    cases decide (levelT t<1) <;> simp[parS]
   simp[ats10,Ty.sizes]
   omega
 |t::u::l,hg,hp=>by
   simp only[allTys,Bool.and_eq_true] at hg hp
   have h1:=Q6T vars hv t hg.1 hp.1
   have h2:=Q6T vars hv u hg.2.1 hp.2.1
   have h3:(parS (decide (levelT t<1)) (txt10 vars t)).length≤(txt10 vars t).length+2:=by
    cases decide (levelT t<1) <;> simp[parS]
   have h4:(parS (decide (levelT u<0)) (txt10 vars u)).length≤(txt10 vars u).length+2:=by
    cases decide (levelT u<0) <;> simp[parS]
   simp[ats10,Ty.sizes]
   omega
end
end Go.Am
namespace Go.Am
open Go
set_option linter.unusedVariables false
theorem lbc{b:Bool}{x y:Str}{N:Nat}(h:b=true→x.length≤N)(g:b=false→y.length≤N):(bif b then x else y).length≤N:=by
 cases b
 ·exact g rfl
 ·exact h rfl
theorem Q0q(b:Bool)(s:Str):(parS b s).length≤s.length+2:=by cases b <;> simp[parS]
theorem Q3i{nm:Str}(h:lowB nm=true):nm.length≤32:=Q7V (by rw[h,Bool.or_true])
theorem QcX{nm:Str}(h:capB nm=true):nm.length≤32:=by
 unfold capB runB at h
 simp only[Bool.and_eq_true,decide_eq_true_eq] at h
 exact h.2.2
theorem Qae{nm:Str}(h:conB nm=true):nm.length≤32:=by
 unfold conB at h
 simp only[Bool.or_eq_true,decide_eq_true_eq] at h
 rcases h with ((h | rfl) | rfl) | rfl
 ·exact QcX h
 ·decide
 ·decide
 ·decide
theorem QfD{n:Int}(h:isIntB n=true):(digS n).length≤22:=by
 unfold isIntB at h
 simp only[Bool.and_eq_true,decide_eq_true_eq] at h
 unfold digS
 refine lbc (λhd=>?_) (λhd=>?_)
 ·have:=Go.Lib.itoa_length_le (-n) (by omega) (by omega)
  simp only[List.length_cons];omega
 ·have:=Go.Lib.itoa_length_le n (by omega) (by omega)
  omega
theorem Q9R{l:List Pat}(H:∀ p ∈ l,(patS p).length+20≤500*p.size)(lv:Int):((patSs l lv).map (·.length)).sum+18*l.length≤500*Pat.sizes l:=by
 rw[Q5P]
 induction l with
 |nil=>simp[Pat.sizes]
 |cons p l ih=>
   have h1:=H p List.mem_cons_self
   have h2:=ih λx hx=>H x (List.mem_cons_of_mem _ hx)
   have h3:=Q0q (decide (patLv p<lv)) (patS p)
   simp only[List.map_cons,List.sum_cons,List.length_cons,Pat.sizes]
   omega
theorem Q44:∀ (m:Nat) (p:Pat),p.size≤m→(∀ n ∈ nodesPat p,n.wrong.1=0)→(patS p).length+20≤500*p.size
 |0,.mk _ _ _ _ _ _,h,_=>by simp only[Pat.size] at h;omega
 |m+1,.mk k a nm n kids b,h,hr=>by
   simp only[Pat.size] at h
   simp only[nodesPat,List.forall_mem_cons] at hr
   have I:PatIs k n nm kids.length:=Qc5 hr.1
   have HV:∀ u ∈ kids,(patS u).length+20≤500*u.size:=λu hu=>by
    have:=Pat.mem_sizes hu
    exact Q44 m u (by omega) (Go.Proofs.YtgfhplcmcdimiaaGreatDoor.pats_wrong hr.2 u hu)
   have h0:=Q9R HV 0
   have h2:=Q9R HV 2
   have g0:=Q1M (patSs kids 0) 0
   have g2:=Q1M (patSs kids 2) 0
   have j0:=ZH [44,32] (patSs kids 0) true
   have hl:(patSs kids 0).length=kids.length:=by rw[Q5P,List.length_map]
   rw[hl,show ([44,32]:Str).length=2 from rfl] at j0
   have key:(patS (.mk k a nm n kids b)).length≤500*(Pat.sizes kids+1) - 20:=by
    simp only[patS]
    refine lbc (λ_=>by simp only[List.length_singleton];omega) λh1=>lbc (λh3=>?_) λh3=>lbc (λh6=>?_) λh6=>lbc (λ_=>by simp only[List.length_cons,List.length_append,List.length_nil];omega) λh5=>?_
    ·have:=QfD (I.int (of_decide_eq_true h3));omega
    ·have:=Q3i (I.as_ (of_decide_eq_true h6)).1
     simp only[List.length_append,List.length_cons,List.length_nil];omega
    ·have hk:k=2∨k=4:=by
      have:=I.kind
      have:=of_decide_eq_false h1
      have:=of_decide_eq_false h3
      have:=of_decide_eq_false h6
      have:=of_decide_eq_false h5
      omega
     have hn:nm.length≤32:=by
      rcases hk with hk | hk
      ·exact Q3i (I.var hk)
      ·exact Qae (I.con hk).1
     exact lbc (λ_=>by simp only[List.length_append,List.length_cons];omega) λ_=>by omega
   simp only[Pat.size];omega
theorem getS3(L:List (Str × Int)):(L.getD 0 ([],9)).1.length+((L.getD 1 ([],9)).1.length+(L.getD 2 ([],9)).1.length)≤(L.map λx=>x.1.length).sum:=by
 match L with
 |[]=>simp
 |[a]=>simp
 |[a,b]=>simp
 |a::b::c::l=>simp only[List.getD_cons_zero,List.getD_cons_succ,List.map_cons,List.sum_cons];omega
theorem Qhz(L:List (Str × Int))(i:Nat)(lv:Int):(atS L i lv).length≤(L.getD i ([],9)).1.length+2:=Q0q _ _
theorem Q9P(L:List (Str × Int)):((L.map (·.1)).map (·.length)).sum=(L.map λx=>x.1.length).sum:=by rw[List.map_map];rfl
theorem Q5J:∀ (X:List (Str × Str × Bool)) (f:Bool),((caseS X f).map (·.length)).sum+4*(caseS X f).length≤(X.map λx=>x.1.length+x.2.1.length+10).sum
 |[],f=>by simp[caseS]
 |(p,e,o)::X,f=>by
   have h1:=Q5J X false
   have h2:=Q0q (!X.isEmpty&&o) e
   simp only[caseS,List.map_cons,List.sum_cons,List.length_cons,List.length_append,List.length_nil]
   omega
theorem Qe2{l:List Exp}(H:∀ e ∈ l,(expS e).length+20≤500*e.size):((expSs l).map λx=>x.1.length).sum+20*l.length≤500*Exp.sizes l:=by
 rw[Q0c]
 induction l with
 |nil=>simp[Exp.sizes]
 |cons e l ih=>
   have h1:=H e List.mem_cons_self
   have h2:=ih λx hx=>H x (List.mem_cons_of_mem _ hx)
   simp only[List.map_cons,List.sum_cons,List.length_cons,Exp.sizes]
   omega
theorem Q8x{l:List Case}(H:∀ c ∈ l,(patS c.pat).length+20≤500*c.pat.size∧(expS c.exp).length+20≤500*c.exp.size):((caseSs l).map λx=>x.1.length+x.2.1.length+10).sum≤500*Case.sizes l:=by
 rw[Q08]
 induction l with
 |nil=>simp[Case.sizes]
 |cons c l ih=>
   obtain⟨h1,h3⟩:=H c List.mem_cons_self
   have h2:=ih λx hx=>H x (List.mem_cons_of_mem _ hx)
   have h4:c.size=c.pat.size+c.exp.size+1:=by cases c;simp only[Case.size,Case.pat,Case.exp]
   simp only[List.map_cons,List.sum_cons,Case.sizes]
   omega
theorem QdT{l:List Dec}(H:∀ d ∈ l,(decS d).length+20≤500*d.size):((decSs l).map (· ++ [32])).flatten.length≤500*Dec.sizes l:=by
 rw[Q2T]
 induction l with
 |nil=>simp[Dec.sizes]
 |cons d l ih=>
   have h1:=H d List.mem_cons_self
   have h2:=ih λx hx=>H x (List.mem_cons_of_mem _ hx)
   simp only[List.map_cons,List.flatten_cons,List.length_append,List.length_singleton,Dec.sizes]
   omega
theorem Qec{l:List Fun}(H:∀ f ∈ l,f.name.length≤32∧(patS f.case.pat).length+20≤500*f.case.pat.size∧(expS f.case.exp).length+20≤500*f.case.exp.size):((funSs l).map (·.length)).sum+5*(funSs l).length≤500*Fun.sizes l:=by
 rw[Q5L]
 induction l with
 |nil=>simp[Fun.sizes]
 |cons f l ih=>
   obtain⟨h0,h1,h3⟩:=H f List.mem_cons_self
   have h2:=ih λx hx=>H x (List.mem_cons_of_mem _ hx)
   have h4:f.size=f.case.pat.size+f.case.exp.size+2:=by
    cases f with
    |mk nm a c=>cases c;simp only[Fun.size,Case.size,Fun.case,Case.pat,Case.exp]
   have h5:=Q0q (decide (patLv f.case.pat<2)) (patS f.case.pat)
   simp only[List.map_cons,List.sum_cons,List.length_cons,Fun.sizes,funS,List.length_append,List.length_nil]
   omega
theorem Qda(n:Int):(opN n).length≤3:=by
 unfold opN
 match n.toNat with
 |0 | 1 | 2 | 3 | 4 | 5 | 6 | 7 | 8 | 9=>decide
 |m+10=>simp
theorem Qjp(k a:Int)(nm:Str)(n:Int)(kids:List Exp)(kb:Bool)(cs:List Case)(cb:Bool)(ds:List Dec)(db:Bool)(I:ExpIs k n nm kids.length cs.length ds.length)
  (HK:∀ e ∈ kids,(expS e).length+20≤500*e.size) (HC:∀ c ∈ cs,(patS c.pat).length+20≤500*c.pat.size∧(expS c.exp).length+20≤500*c.exp.size) (HD:∀ d ∈ ds,(decS d).length+20≤500*d.size):(expS (.mk k a nm n kids kb cs cb ds db)).length+20≤500*(Exp.mk k a nm n kids kb cs cb ds db).size:=by
 have h1:=Qe2 HK
 have h2:=Q8x HC
 have h3:=QdT HD
 have g:=getS3 (expSs kids)
 have t0:=λlv=>Qhz (expSs kids) 0 lv
 have t1:=λlv=>Qhz (expSs kids) 1 lv
 have hl:(expSs kids).length=kids.length:=by rw[Q0c,List.length_map]
 have j0:=ZH [44,32] ((expSs kids).map (·.1)) true
 have j1:=ZH [59,32] ((expSs kids).map (·.1)) true
 rw[Q9P,List.length_map,hl] at j0 j1
 have c0:=Q5J (caseSs cs) true
 have j2:=ZH [32,124,32] (caseS (caseSs cs) true) true
 simp only[List.length_cons,List.length_nil] at j0 j1 j2
 have ho:=Qda n
 have key:(expS (.mk k a nm n kids kb cs cb ds db)).length≤500*(Exp.sizes kids+Case.sizes cs+Dec.sizes ds+1) - 20:=by
  rw[expS]
  have a8:=t0 8;have a9:=t0 9;have a3:=t0 3;have a2:=t0 2;have a4:=t0 4;have a5:=t0 5;have a6:=t0 6;have a7:=t0 7
  have b9:=t1 9;have b1:=t1 1;have b3:=t1 3;have b4:=t1 4;have b6:=t1 6;have b7:=t1 7;have b8:=t1 8
  have p1:=λb=>Q0q b ((expSs kids).getD 0 ([],9)).1
  have q1:=p1 (decide (((expSs kids).getD 0 ([],9)).2<2) || decide ((kids.headD (.mk 0 0 [] 0 [] true [] true [] true)).kind=11))
  have q2:=p1 (decide (((expSs kids).getD 0 ([],9)).2<8) || bareE (kids.headD (.mk 0 0 [] 0 [] true [] true [] true)))
  clear t0 t1 HK HC HD p1
  refine lbc (λh=>?_) λ_=>lbc (λh=>?_) λ_=>lbc (λh=>?_) λ_=>?_
  ·have:=QfD (I.int (of_decide_eq_true h));omega
  ·have:=Q3i (I.var (of_decide_eq_true h));omega
  ·have:=Qae (I.con (of_decide_eq_true h)).1
   exact lbc (λ_=>by omega) λ_=>by simp only[List.length_append,List.length_cons];omega
  refine lbc (λ_=>?_) λ_=>lbc (λ_=>?_) λ_=>lbc (λ_=>?_) λ_=>lbc (λ_=>?_) λ_=>lbc (λ_=>?_) λ_=>lbc (λ_=>?_) λ_=>lbc (λ_=>?_) λ_=>lbc (λ_=>?_) λ_=>lbc (λ_=>?_) λ_=>lbc (λ_=>?_) λ_=>lbc (λ_=>?_) λ_=>lbc (λ_=>?_) λ_=>lbc (λ_=>?_) λ_=>lbc (λ_=>?_) λ_=>lbc (λ_=>?_) λ_=>lbc (λ_=>?_) λ_=>lbc (λ_=>?_) λ_=>lbc (λ_=>?_) λ_=>?_ <;>
   (try simp only[List.length_append,List.length_cons,List.length_nil]) <;> omega
 simp only[Exp.size]
 omega
theorem Qft{c:Con}(hcap:capB c.name=true)(h:c.has=true→allTy goodB c.arg=true∧VarOK c.arg):(conS c).length+20≤500*c.size:=by
 have hn:=QcX hcap
 have hp:=c.arg.size_pos
 unfold conS Con.size
 refine Nat.le_trans (Nat.add_le_add_right (lbc (N:=36+200*c.arg.size) (λhh=>?_) λ_=>by omega) 20) (by omega)
 obtain⟨hg,hv⟩:=h hh
 have h1:=(QdE hg hv).2
 have h2:=Q6T bigV (by decide) c.arg hg hv
 unfold tyS
 rw[h1]
 simp only[List.length_append,List.length_cons,List.length_nil]
 omega
theorem QdS{l:List Con}(H:∀ c ∈ l,(conS c).length+20≤500*c.size):((l.map conS).map (·.length)).sum+20*l.length≤500*Con.sizes l:=by
 induction l with
 |nil=>simp[Con.sizes]
 |cons c l ih=>
   have h1:=H c List.mem_cons_self
   have h2:=ih λx hx=>H x (List.mem_cons_of_mem _ hx)
   simp only[List.map_cons,List.sum_cons,List.length_cons,Con.sizes]
   omega
theorem Qlm(i:Nat)(h:i<2^40):(varT i).length≤23:=by
 have:=Q89 (n:=(i:Int)) (by omega) (by omega)
 unfold varT
 simp only[List.length_cons];omega
theorem Qem(p:Int)(h:0≤p∧p≤8):(parmS p).length≤210:=by
 obtain⟨m,rfl⟩:=Int.eq_ofNat_of_zero_le h.1
 have hm:m≤8:=by omega
 have hs:∀ l:List Nat,(∀ i ∈ l,i<2^40)→((l.map varT).map (·.length)).sum≤23*l.length:=by
  intro l
  induction l with
  |nil=>intro _;simp
  |cons i l ih=>
    intro hl
    have h1:=Qlm i (hl i List.mem_cons_self)
    have h2:=ih λx hx=>hl x (List.mem_cons_of_mem _ hx)
    simp only[List.map_cons,List.sum_cons,List.length_cons];omega
 have h1:=hs (List.range m) (λi hi=>by have:=List.mem_range.1 hi;omega)
 have h2:=ZH [44,32] ((List.range m).map varT) true
 have h3:=Q0q (decide ((m:Int)>1)) (joinS [44,32] ((List.range m).map varT) true)
 simp only[List.length_map,List.length_range,List.length_cons,List.length_nil] at h1 h2
 unfold parmS
 refine lbc (λ_=>by simp) λ_=>?_
 simp only[Int.toNat_natCast,List.length_append,List.length_singleton]
 omega
theorem Qjk(k a:Int)(nm:Str)(p:Int)(cons:List Con)(nb:Bool)(cs:List Case)(cb:Bool)(fs:List Fun)(fb:Bool)(inn:Bool)(I:DecIs k nm p cons.length cs.length fs.length inn)
  (HC:∀ c ∈ cs,(patS c.pat).length+20≤500*c.pat.size∧(expS c.exp).length+20≤500*c.exp.size) (HF:∀ f ∈ fs,f.name.length≤32∧(patS f.case.pat).length+20≤500*f.case.pat.size∧(expS f.case.exp).length+20≤500*f.case.exp.size) (HN:∀ c ∈ cons,(conS c).length+20≤500*c.size) :
  (decS (.mk k a nm p cons nb cs cb fs fb)).length+20≤500*(Dec.mk k a nm p cons nb cs cb fs fb).size:=by
 have h2:=Q8x HC
 have h3:=Qec HF
 have h4:=QdS HN
 have j1:=ZH [32,124,32] (cons.map conS) true
 have j2:=ZH [32,97,110,100,32] (funSs fs) true
 simp only[List.length_map,List.length_cons,List.length_nil] at j1 j2
 have c1:((caseSs cs).headD ([],[],false)).1.length+((caseSs cs).headD ([],[],false)).2.1.length≤500*Case.sizes cs:=by
  cases hq:caseSs cs with
  |nil=>simp
  |cons x l=>
    rw[hq] at h2
    simp only[List.map_cons,List.sum_cons,List.headD_cons] at h2 ⊢
    omega
 have c2:((cons.map conS).headD []).length≤500*Con.sizes cons:=by
  cases cons with
  |nil=>simp
  |cons c l=>
    simp only[List.map_cons,List.sum_cons,List.length_cons,List.headD_cons] at h4 ⊢
    omega
 have key:(decS (.mk k a nm p cons nb cs cb fs fb)).length≤500*(Con.sizes cons+Case.sizes cs+Fun.sizes fs+1) - 20:=by
  rw[decS]
  refine lbc (λ_=>?_) λ_=>lbc (λ_=>?_) λ_=>lbc (λh=>?_) λ_=>?_
  ·simp only[List.length_append,List.length_cons,List.length_nil];omega
  ·simp only[List.length_append,List.length_cons,List.length_nil];omega
  ·have hd:=I.data (of_decide_eq_true h)
   have hp:=Qem p ⟨hd.2.2.1,hd.2.2.2.1⟩
   have hn:=Q3i hd.2.2.2.2.1
   simp only[List.length_append,List.length_cons,List.length_nil];omega
  ·simp only[List.length_append,List.length_cons,List.length_nil];omega
 simp only[Dec.size]
 omega
theorem QbA:∀ m:Nat,(∀ e:Exp,e.size≤m→Go.Proofs.YtgfhplcmcdimiaaGreatDoor.RN (nodesExp e)→(expS e).length+20≤500*e.size)∧(∀ (d:Dec) (i:Bool),d.size≤m→Go.Proofs.YtgfhplcmcdimiaaGreatDoor.RN (nodesDec i d)→(i=true∨NumCons d.cons)→(decS d).length+20≤500*d.size)
 |0=>⟨λe h=>by cases e;simp only[Exp.size] at h;omega,λd i h=>by cases d;simp only[Dec.size] at h;omega⟩
 |m+1=>by
   obtain⟨HE,HD⟩:=QbA m
   have HC:∀ cs:List Case,Case.sizes cs≤m→Go.Proofs.YtgfhplcmcdimiaaGreatDoor.RN (nodesCases cs)→∀ c ∈ cs,(patS c.pat).length+20≤500*c.pat.size∧(expS c.exp).length+20≤500*c.exp.size:=λcs hs hr c hc=>by
    have h1:=Case.mem_sizes hc
    have h2:=Go.Proofs.YtgfhplcmcdimiaaGreatDoor.RN.cases hr c hc
    cases c with
    |mk p e=>
      simp only[Case.size] at h1
      simp only[nodesCase] at h2
      exact⟨Q44 p.size p (Nat.le_refl _) h2.l,HE e (by omega) h2.r⟩
   refine⟨λe h hr=>?_,λd i h hr hn=>?_⟩
   ·cases e with
    |mk k a nm n kids kb cs cb ds db=>
      simp only[Exp.size] at h
      simp only[nodesExp] at hr
      have I:ExpIs k n nm kids.length cs.length ds.length:=Q9D (hr _ List.mem_cons_self)
      have hr':=hr.t
      refine Qjp k a nm n kids kb cs cb ds db I (λe he=>?_) (HC cs (by omega) hr'.r.r) (λd hd=>?_)
      ·have:=Exp.mem_sizes he
       exact HE e (by omega) (Go.Proofs.YtgfhplcmcdimiaaGreatDoor.RN.exps hr'.r.l e he)
      ·have:=Dec.mem_sizes hd
       exact HD d true (by omega) (Go.Proofs.YtgfhplcmcdimiaaGreatDoor.RN.decs hr'.l d hd) (.inl rfl)
   ·cases d with
    |mk k a nm p cons nb cs cb fs fb=>
      simp only[Dec.size] at h
      simp only[nodesDec] at hr
      have I:DecIs k nm p cons.length cs.length fs.length i:=Q9y (hr _ List.mem_cons_self)
      have hr':=hr.t
      refine Qjk k a nm p cons nb cs cb fs fb i I (HC cs (by omega) hr'.l) (λf hf=>?_) (λc hc=>?_)
      ·have h1:=Fun.mem_sizes hf
       have h2:=Go.Proofs.YtgfhplcmcdimiaaGreatDoor.RN.funs hr'.r.l f hf
       refine⟨Q3i (Qd1 hr'.r.l f hf),?_⟩
       cases f with
       |mk nm' a' c'=>
         cases c' with
         |mk p' e'=>
           simp only[Fun.size,Case.size] at h1
           simp only[Fun.case,nodesCase] at h2
           exact⟨Q44 p'.size p' (Nat.le_refl _) h2.l,HE e' (by omega) h2.r⟩
      ·have h1:∀ n ∈ nodesCon c,n.wrong.1=0:=λn hn=>hr'.r.r n (Q1N hc n hn)
       have hw:wrongConB c=0:=h1 (.con c) (by unfold nodesCon;exact List.mem_cons_self)
       have hcap:capB c.name=true:=by
        unfold wrongConB at hw
        grind
       refine Qft hcap λhh=>?_
       rcases hn with rfl | hn
       ·have hz:cons=[]:=by
         rcases I.inn rfl with h2 | h2
         ·exact len0 (I.val h2).2.2
         ·exact len0 (I.fn h2).2.1
        rw[hz] at hc;cases hc
       ·exact⟨Q5r c.at_ c.arg λn hn=>h1 n (by unfold nodesCon;rw[hh];exact List.mem_cons_of_mem _ hn),hn c hc hh⟩
theorem Q71{e:Exp}(hr:Go.Proofs.YtgfhplcmcdimiaaGreatDoor.RN (nodesExp e)):(expS e).length+20≤500*e.size:=(QbA e.size).1 e (Nat.le_refl _) hr
theorem Q6Z{d:Dec}{i:Bool}(hr:Go.Proofs.YtgfhplcmcdimiaaGreatDoor.RN (nodesDec i d))(hn:i=true∨NumCons d.cons):(decS d).length+20≤500*d.size:=(QbA d.size).2 d i (Nat.le_refl _) hr hn
theorem QjX:∀ (l:List Str) (p:Option Str),tokSum l≤(textGo p l).length+l.length
 |[],p=>by simp[tokSum]
 |s::l,p=>by
   have:=QjX l (some s)
   rw[Q81]
   have h:s.length≤(bif sepB p s then 32::s else s).length:=by cases sepB p s <;> simp
   simp only[textGo,List.length_append,List.length_cons]
   omega
theorem QbB(l:List Str):tokSum l≤(textB l).length+l.length:=QjX l none
end Go.Am