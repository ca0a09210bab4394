/- A part of the proof: SKnow7, SFew7, SLex5, SLex6, SLex7, SLex8, SLex9. -/
import Derived.Test.YtgfhplcmcdimiaaGreatDoorM12
import Derived.Test.YtgfhplcmcdimiaaGreatDoorM14
import Derived.Test.YtgfhplcmcdimiaaGreatDoorM16
set_option linter.unusedVariables false
set_option linter.unusedSimpArgs false
open Bool renaming and_eq_true→Yf
open List renaming length_cons→Ya,length_append→Yb,mem_cons_of_mem→Yc,mem_cons_self→Yd,length_nil→Ye,map_cons→Yh,length_map→Yi,append_assoc→Yj,cons_append→Yk,nil_append→Ym,map_nil→Yo,append_nil→Yr,mem_cons→Yw
open Nat renaming le_refl→Yg
namespace Go.Proofs.YtgfhplcmcdimiaaGreatDoor
open Go Go.Am
set_option maxRecDepth 4000
def k7b:Ty:=.mk 1 27 [] [] true
def k7i:Ty:=.mk 2 0 [105,110,116] [] true
def k7f:Ty:=.mk 2 0 [45,62] [k7b,k7i] false
def k7n(n:Int):Exp:=.mk 1 0 [] n [] true [] true [] true
def k7o(n:Int)(a b:Exp):Exp:=.mk 13 0 [] n [a,b] false [] true [] true
def k7z:Exp:=.mk 0 0 [] 0 [] true [] true [] true
def k7p:Pat:=.mk 1 0 [] 0 [] true
theorem Qy5:exprS (k7o 2 (k7n 1) (k7o 2 (k7n 2) (k7n 3)))=[49,32,45,32,40,50,32,45,32,51,41]:=by decide +kernel
theorem Qy6:exprS (k7o 2 (k7o 2 (k7n 1) (k7n 2)) (k7n (-3)))=[49,32,45,32,50,32,45,32,126,51]:=by decide +kernel
theorem Qy7:exprS k7z=[]:=by decide +kernel
theorem Qy8:patnS k7p=[95]:=by decide +kernel
theorem Qy9:textB (typT k7f 0)=[39,98,49,32,45,62,32,105,110,116]:=by decide +kernel
section
variable (L:Nat)
def TellOK(t:Ty):Prop:=∀ m s,AtL L m s->(t.size:Int)<=m->m<2^40->∃ s',cw (.f Q1N) [t.enc,.vp L 0] s=some (.ret (.val (.bool true)),s')/\AtL L (m - t.size) s'/\Moves [L] [] [] s s'
theorem Qgn(l:List Ty)(x:Slot)(hx:x.list? = some (l.map Ty.enc))(hl:l.length<2^40):∀ (suf pre:List Ty) (m:Int) (s:St) (i:Nat),pre++suf=l->i=pre.length->(∀ t ∈ suf,TellOK L t)->AtL L m s->(Ty.sizes suf:Int)<=m->m<2^40->
  ∃ s',Z0 x (.val (.fn Zs [.cp [.vp L 0]])) (.val (.int .i64 l.length)) (.val (.int .i64 i)) s=some (.ret (.val (.int .i64 (-1))),s')/\AtL L (m - Ty.sizes suf) s'/\Moves [L] [] [] s s'
 |[],pre,m,s,i,h,hi,H,hL,h0,h1=>by
   subst hi
   refine⟨s,?_,by simpa [Ty.sizes] using hL,.refl _ _ _⟩
   rw[Zm];simp only[go_sem,Int.reduceNeg,Qg (by simpa using h)]
 |t::suf,pre,m,s,i,h,hi,H,hL,h0,h1=>by
   subst hi
   obtain⟨f1,f2,f3⟩:=Qe hx h (by omega) (Ty.cells_len t) (by decide)
   have hsz:Ty.sizes (t::suf)=t.size+Ty.sizes suf:=rfl
   rw[hsz] at h0 |-
   obtain⟨s1,e1,l1,v1⟩:=H t Yd m s hL (by omega) h1
   have e2:cw (.f Zs) [t.enc,.cp [.vp L 0]] s=some (.ret (.val (.bool false)),s1):=by
    rw[Q9t]
    simp only[go_sem,Nat.reduceAdd,Nat.reduceLeDiff,e1,Bool.not_true]
   obtain⟨s2,e3,l3,v3⟩:=Qgn l x hx hl suf (pre++[t]) (m - t.size) s1 (pre.length+1) (by simpa using h) (by simp) (λw hw=>H w (Yc _ hw)) l1 (by omega) (by omega)
   rw[Zm]
   simp only[go_sem,Int.reduceNeg,Nat.reduceLeDiff,f1,f2,f3,e2]
   refine⟨s2,e3,?_,v1.trans v3⟩
   rwa [show m - ((t.size+Ty.sizes suf:Nat):Int)=m - t.size - Ty.sizes suf by omega]
theorem QkA(t:Ty)(HV:∀ u ∈ t.args,TellOK L u)(hl:t.args.length<2^40)(m:Int)(s:St)(hL:AtL L m s)(h0:(Ty.sizes t.args:Int)<=m)(h1:m<2^40) :
  ∃ s',Zq (t.cells.map .val) (.val (.cp [.vp L 0])) (.val (.bool true)) s=some (.ret (.val (.bool true)),s')/\AtL L (m - Ty.sizes t.args) s'/\Moves [L] [] [] s s':=by
 have c:=Ty.cells_eq t
 rw[Q8O]
 obtain⟨s2,e3,l3,v3⟩:=Qgn L t.args (.val (encS t.nl (t.args.map Ty.enc))) (Q4 _ _) hl t.args [] m s 0 rfl rfl HV hL h0 h1
 have e4:cw (.f Zv) [encS t.nl (t.args.map Ty.enc),.fn Zs [.cp [.vp L 0]]] s=some (.ret (.val (.bool false)),s2):=by
  rw[Q1W]
  have:cw (.f Zh) [encS t.nl (t.args.map Ty.enc),.fn Zs [.cp [.vp L 0]]] s=some (.ret (.val (.int .i64 (-1))),s2):=by
   rw[Q2W];simp only[go_sem,Int.reduceNeg]
   exact e3
  simp only[go_sem,Int.reduceGE,Int.reduceNeg,this]
 exact⟨s2,by simp only[go_sem,Nat.reduceAdd,Nat.reduceLeDiff,c,e4,Bool.not_false],l3,v3⟩
theorem QsD:TellOK L k7b:=λm s hL h0 h1=>by
 have hL':AtL L (m - 1) { s with locs:=s.locs.set L (.var [.val (.int .i64 (m - 1))]) }:=Qea hL
 have hM':Moves [L] [] [] s { s with locs:=s.locs.set L (.var [.val (.int .i64 (m - 1))]) }:=(Moves.refl _ _ _).setLoc (.inl (by simp)) _
 simp only[k7b,Ty.size,Ty.sizes] at h0
 have w1:IntKind.i64.wrap (m - 1)=m - 1:=wrap64 (by omega) (by omega)
 have hst:=Q8s (c:=[.val (.int .i64 (m - 1))]) hL (off:=0) (by simp)
 have hm:decide (m - 1<0)=false:=decide_eq_false (by omega)
 simp only[go_sem,Nat.reduceAdd] at hst
 have z0:((0:Nat):Int)=0:=rfl
 have z2:((2:Nat):Int)=2:=rfl
 rw[Q5N]
 refine⟨_,?_,hL',hM'⟩
 simp only[go_sem,Int.reduceEq,Int.reduceGE,Int.reduceLE,Nat.reduceAdd,Nat.reduceLeDiff,k7b,Ty.enc,Ty.cells_mk,Q4b hL,w1,hst,Q4b hL',hm,decide_true,z0,z2,Yo,Q1P,Q4,Ye]
theorem QsF:TellOK L k7i:=λm s hL h0 h1=>by
 have hL':AtL L (m - 1) { s with locs:=s.locs.set L (.var [.val (.int .i64 (m - 1))]) }:=Qea hL
 have hM':Moves [L] [] [] s { s with locs:=s.locs.set L (.var [.val (.int .i64 (m - 1))]) }:=(Moves.refl _ _ _).setLoc (.inl (by simp)) _
 simp only[k7i,Ty.size,Ty.sizes] at h0
 have w1:IntKind.i64.wrap (m - 1)=m - 1:=wrap64 (by omega) (by omega)
 have hst:=Q8s (c:=[.val (.int .i64 (m - 1))]) hL (off:=0) (by simp)
 have hm:decide (m - 1<0)=false:=decide_eq_false (by omega)
 simp only[go_sem,Nat.reduceAdd] at hst
 obtain⟨s2,e2,l2,v2⟩:=QkA L k7i (by simp[k7i,Ty.args]) (by decide) (m - 1) _ hL' (by simp[k7i,Ty.args,Ty.sizes];omega) (by omega)
 have z0:((0:Nat):Int)=0:=rfl
 have z2:((2:Nat):Int)=2:=rfl
 rw[Q5N]
 refine⟨s2,?_,by rwa [show m - (k7i.size:Int)=m - 1 - (Ty.sizes k7i.args:Nat) by simp[k7i,Ty.args,Ty.sizes,Ty.size]],hM'.trans v2⟩
 simp only[k7i,Ty.cells_mk,Yh,Yo,Q1P] at e2
 simp only[go_sem,Int.reduceEq,Int.reduceGE,Int.reduceLE,Nat.reduceAdd,Nat.reduceLeDiff,k7i,Ty.enc,Ty.cells_mk,Q4b hL,w1,hst,Q4b hL',hm,decide_true,z0,z2,decide_false,Q5O,Yo,Q1P,Q4,Ye,e2]
theorem QsE:TellOK L k7f:=λm s hL h0 h1=>by
 have hL':AtL L (m - 1) { s with locs:=s.locs.set L (.var [.val (.int .i64 (m - 1))]) }:=Qea hL
 have hM':Moves [L] [] [] s { s with locs:=s.locs.set L (.var [.val (.int .i64 (m - 1))]) }:=(Moves.refl _ _ _).setLoc (.inl (by simp)) _
 simp only[k7f,k7b,k7i,Ty.size,Ty.sizes] at h0
 have w1:IntKind.i64.wrap (m - 1)=m - 1:=wrap64 (by omega) (by omega)
 have hst:=Q8s (c:=[.val (.int .i64 (m - 1))]) hL (off:=0) (by simp)
 have hm:decide (m - 1<0)=false:=decide_eq_false (by omega)
 simp only[go_sem,Nat.reduceAdd] at hst
 obtain⟨s2,e2,l2,v2⟩:=QkA L k7f (by
  intro u hu
  simp only[k7f,Ty.args,Yw,List.not_mem_nil,or_false] at hu
  rcases hu with rfl|rfl
  ·exact QsD L
  ·exact QsF L) (by decide) (m - 1) _ hL' (by simp[k7f,k7b,k7i,Ty.args,Ty.sizes,Ty.size];omega) (by omega)
 have z0:((0:Nat):Int)=0:=rfl
 have z2:((2:Nat):Int)=2:=rfl
 have n1:decide (([45,62]:Str)=[105,110,116])=false:=rfl
 have n2:decide (([45,62]:Str)=[98,111,111,108])=false:=rfl
 have n3:decide (([45,62]:Str)=[117,110,105,116])=false:=rfl
 have n4:decide (([45,62]:Str)=[101,120,110])=false:=rfl
 have n5:decide (([45,62]:Str)=[114,101,102])=false:=rfl
 rw[Q5N]
 refine⟨s2,?_,?_,hM'.trans v2⟩
 ·simp only[k7f,Ty.cells_mk,Yh,Yo,Q5A] at e2
  simp only[go_sem,Int.reduceEq,Int.reduceGE,Int.reduceLE,Nat.reduceAdd,Nat.reduceLeDiff,k7f,Ty.enc,Ty.cells_mk,Q4b hL,w1,hst,Q4b hL',hm,decide_true,z0,z2,n1,n2,n3,n4,n5,decide_false,Q5O,Yh,Yo,Q5A,Q4,Ya,Ye,e2]
 ·rwa [show m - (k7f.size:Int)=m - 1 - (Ty.sizes k7f.args:Nat) by simp[k7f,k7b,k7i,Ty.args,Ty.sizes,Ty.size];omega]
end
theorem QnQ(s:St):Ret (cw (.f Q47) [k7f.enc] s) s (.str [39,98,49,32,45,62,32,105,110,116]):=by
 obtain⟨s1,e1,l1,v1⟩:=QsE s.locs.length 256 (St.addLoc s (.var [.val (.int .i64 256)])) (by simp[AtL,St.addLoc]) (by simp[k7f,k7b,k7i,Ty.sizes,Ty.size]) (by decide)
 have g1:Grew s s1:=Moves.toGrew (Moves.since (A:=[]) (h:=[]) (Moves.grew [] [] ((Grew.refl s).addLoc _)) v1 (λi hi=>.inr (by simp only[List.mem_singleton] at hi;omega)) (by simp))
 obtain⟨y,s2,e2,g2,h2⟩:=Q4E k7f.size k7f (Yg _) (by decide +kernel) (by decide +kernel) 0 s1
 obtain⟨v,av,hv⟩:=h2.av
 obtain⟨s3,e3,g3⟩:=Q3S (typT k7f 0) v hv (by decide +kernel) s2
 rw[Qy9] at e3
 rw[Qbf]
 have c:=Ty.cells_eq k7f
 simp only[go_sem,Nat.reduceAdd,Nat.reduceLeDiff,c,Ty.enc] at e1 e2 |-
 simp only[go_sem,e1,e2,QW av,e3,Bool.not_true]
 exact⟨s3,rfl,(g1.trans g2).trans g3⟩
theorem Qi2(n:Int)(s:St):cw (.f Q2w) [.int .i64 n] s=some (.ret (.val (k7n n).enc),s):=by
 rw[Ql5]
 simp only[go_sem,Nat.reduceAdd,Nat.reduceLeDiff,k7n,Exp.enc,Exp.cells_mk,Yo,Q1P]
theorem Qgy(n:Int)(a b:Exp)(s:St):cw (.f Q3F) [.int .i64 n,a.enc,b.enc] s=some (.ret (.val (k7o n a b).enc),s):=by
 have ca:=Exp.cells_eq a
 have cb:=Exp.cells_eq b
 rw[Qjy]
 simp only[go_sem,Nat.reduceAdd,Nat.reduceLeDiff,k7o,Exp.enc,Exp.cells_mk,ca,cb,Yh,Yo,Q1P,Q5A]
theorem Q88(s:St):Ret (cw (.f Q4s) [] s) s (.bool true):=by
 obtain⟨s1,e1,g1⟩:=Q3R (k7o 2 (k7n 1) (k7o 2 (k7n 2) (k7n 3))) s (by decide +kernel) (by
  intro n hn
  simp only[k7o,k7n,nodesExp,nodesExps,nodesCases,nodesDecs,Ym,Yr,Yk,Yw,List.not_mem_nil,or_false] at hn
  rcases hn with rfl|rfl|rfl|rfl|rfl<;>simp[TNode.ok,Exp.name,Exp.kids,Exp.n])
 obtain⟨s2,e2,g2⟩:=Q3R (k7o 2 (k7o 2 (k7n 1) (k7n 2)) (k7n (-3))) s1 (by decide +kernel) (by
  intro n hn
  simp only[k7o,k7n,nodesExp,nodesExps,nodesCases,nodesDecs,Ym,Yr,Yk,Yw,List.not_mem_nil,or_false] at hn
  rcases hn with rfl|rfl|rfl|rfl|rfl<;>simp[TNode.ok,Exp.name,Exp.kids,Exp.n])
 obtain⟨s3,e3,g3⟩:=QnQ s2
 obtain⟨s4,e4,g4⟩:=Q3R k7z s3 (by decide +kernel) (by
  intro n hn
  simp only[k7z,nodesExp,nodesExps,nodesCases,nodesDecs,Ym,Yr,Yk,Yw,List.not_mem_nil,or_false] at hn
  rcases hn with rfl<;>simp[TNode.ok,Exp.name,Exp.kids,Exp.n])
 obtain⟨s5,e5,g5⟩:=Q7y k7p s4 (by decide +kernel) (by
  intro n hn
  simp only[k7p,nodesPat,nodesPats,Ym,Yr,Yk,Yw,List.not_mem_nil,or_false] at hn
  rcases hn with rfl<;>simp[TNode.ok,Pat.name,Pat.kids,Pat.n])
 rw[Qy5] at e1
 rw[Qy6] at e2
 rw[Qy7] at e4
 rw[Qy8] at e5
 have q1:decide (([49,32,45,32,40,50,32,45,32,51,41]:Str)=[49,32,45,32,40,50,32,45,32,51,41])=true:=decide_eq_true rfl
 have q2:decide (([49,32,45,32,50,32,45,32,126,51]:Str)=[49,32,45,32,50,32,45,32,126,51])=true:=decide_eq_true rfl
 have q3:decide (([39,98,49,32,45,62,32,105,110,116]:Str)=[39,98,49,32,45,62,32,105,110,116])=true:=decide_eq_true rfl
 have q4:decide (([]:Str)=[])=true:=decide_eq_true rfl
 have q5:decide (([95]:Str)=[95])=true:=decide_eq_true rfl
 simp only[k7f,k7b,k7i,Ty.enc,Ty.cells_mk,Yh,Yo,Q1P,Q5A] at e3
 simp only[k7z,Exp.enc,Exp.cells_mk,Yo,Q1P] at e4
 simp only[k7p,Pat.enc,Pat.cells_mk,Yo,Q1P] at e5
 rw[QeQ]
 simp only[go_sem,Int.reduceNeg,Nat.reduceAdd,Nat.reduceLeDiff,Qi2,Qgy,e1,e2,e3,e4,e5,q1,q2,q3,q4,q5]
 exact⟨s5,rfl,(((g1.trans g2).trans g3).trans g4).trans g5⟩
open Go Go.Am
set_option maxRecDepth 4000
def FewV(F:Nat)(v:AV):Prop:=∀ (left deep:Int) (s:St),∃ r:Int,cw (.f F) [v,.int .i64 left,.int .i64 deep] s=some (.ret (.val (.int .i64 r)),s)
def FewT(t:Ty):Prop:=FewV Q1m t.enc
def FewP(p:Pat):Prop:=FewV Q0V p.enc
def FewE(e:Exp):Prop:=FewV Q0U e.enc
def FewC(cs:List Case):Prop:=∀ b,FewV Q07 (encS b (cs.map Case.enc))
def FewD(ds:List Dec):Prop:=∀ b,FewV Q0p (encS b (ds.map Dec.enc))
theorem Qg0(t:Ty)(hl:t.args.length<2^40)(deep:Int)(s:St):∀ (suf pre:List Ty) (left:Int) (i:Nat),pre++suf=t.args->i=pre.length->(∀ u ∈ suf,FewT u)->
  ∃ r:Int,Q2r (.val (.int .i64 left)) (.val (.int .i64 deep)) (t.cells.map .val) (.val (.int .i64 t.args.length)) (.val (.int .i64 i)) s=some (.ret (.val (.int .i64 r)),s)
 |[],pre,left,i,h,hi,H=>by
   subst hi
   rw[Q7w];simp only[go_sem,Int.reduceNeg,Qg (by simpa using h)]
   exact⟨_,rfl⟩
 |u::suf,pre,left,i,h,hi,H=>by
   subst hi
   have c:=Ty.cells_eq t
   obtain⟨f1,f2,f3⟩:=Qe (x:=.val (encS t.nl (t.args.map Ty.enc))) (Q4 _ _) h (by omega) (Ty.cells_len u) (by decide)
   obtain⟨r,e1⟩:=H u Yd left (IntKind.i64.wrap (deep+1)) s
   obtain⟨r2,ih⟩:=Qg0 t hl deep s suf (pre++[u]) r (pre.length+1) (by simpa using h) (by simp) (λw hw=>H w (Yc _ hw))
   rw[Q7w]
   cases hn:decide (r<0) with
   |true=>simp only[go_sem,Int.reduceEq,Int.reduceNeg,Nat.reduceAdd,Nat.reduceLeDiff,ne_eq,not_false_eq_true,c,f1,f2,f3,e1,hn];exact⟨_,rfl⟩
   |false=>
     simp only[go_sem,Int.reduceEq,Int.reduceNeg,Nat.reduceAdd,Nat.reduceLeDiff,ne_eq,not_false_eq_true,c,f1,f2,f3,e1,hn] at ih |-
     exact⟨r2,ih⟩
theorem QcB:∀ (m:Nat) (t:Ty),t.size<=m->t.size<2^40->FewT t
 |0,.mk _ _ _ _ _,h,_=>by simp only[Ty.size] at h;omega
 |m+1,t,h,h'=>λleft deep s=>by
   have hsz:Ty.sizes t.args+1=t.size:=by cases t;simp only[Ty.size,Ty.args]
   have hl:=Ty.len_sizes t.args
   have HV:∀ u ∈ t.args,FewT u:=λu hu=>by
    have:=Ty.mem_sizes hu
    exact QcB m u (by omega) (by omega)
   have c:=Ty.cells_eq t
   rw[Qfm]
   simp only[go_sem,Int.reduceEq,Int.reduceNeg,Nat.reduceAdd,Nat.reduceLeDiff,ne_eq,not_false_eq_true,Ty.enc,c]
   generalize IntKind.i64.wrap (IntKind.i64.wrap (left - 1) - IntKind.i64.wrap ((t.name.length:Int).tdiv 100))=x
   cases hA:decide (x<0) with
   |true=>simp only[go_sem,Int.reduceNeg,hA];exact⟨_,rfl⟩
   |false=>
     cases hB:decide (deep>130) with
     |true=>simp only[go_sem,Int.reduceNeg,hA,hB];exact⟨_,rfl⟩
     |false=>
       obtain⟨r,e1⟩:=Qg0 t (by omega) deep s t.args [] x 0 rfl rfl HV
       rw[show ((0:Nat):Int)=0 from rfl] at e1
       simp only[go_sem,c,hA,hB] at e1 |-
       exact⟨r,e1⟩
theorem QfZ(t:Pat)(hl:t.kids.length<2^40)(deep:Int)(s:St):∀ (suf pre:List Pat) (left:Int) (i:Nat),pre++suf=t.kids->i=pre.length->(∀ u ∈ suf,FewP u)->
  ∃ r:Int,Q1B (.val (.int .i64 left)) (.val (.int .i64 deep)) (t.cells.map .val) (.val (.int .i64 t.kids.length)) (.val (.int .i64 i)) s=some (.ret (.val (.int .i64 r)),s)
 |[],pre,left,i,h,hi,H=>by
   subst hi
   rw[Q6X];simp only[go_sem,Int.reduceNeg,Qg (by simpa using h)]
   exact⟨_,rfl⟩
 |u::suf,pre,left,i,h,hi,H=>by
   subst hi
   have c:=Pat.cells_eq t
   have cu:=Pat.cells_eq u
   obtain⟨f1,f2',f3⟩:=Qe (x:=.val (encS t.kb (t.kids.map Pat.enc))) (Q4 _ _) h (by omega) (Pat.cells_len u) (by decide)
   have f2:ixS 5 (.val (encS t.kb (t.kids.map Pat.enc))) (.val (.int .i64 (pre.length:Int)))=some (.val (.cp u.cells)):=f2'
   clear f2'
   obtain⟨r,e1⟩:=H u Yd left (IntKind.i64.wrap (deep+1)) s
   obtain⟨r2,ih⟩:=QfZ t hl deep s suf (pre++[u]) r (pre.length+1) (by simpa using h) (by simp) (λw hw=>H w (Yc _ hw))
   rw[cu] at f2
   simp only[Pat.enc,cu] at e1
   rw[Q6X]
   cases hn:decide (r<0) with
   |true=>simp only[go_sem,Int.reduceEq,Int.reduceNeg,Nat.reduceAdd,Nat.reduceLeDiff,ne_eq,not_false_eq_true,c,f1,f2,f3,e1,hn];exact⟨_,rfl⟩
   |false=>
     simp only[go_sem,Int.reduceEq,Int.reduceNeg,Nat.reduceAdd,Nat.reduceLeDiff,ne_eq,not_false_eq_true,c,f1,f2,f3,e1,hn] at ih |-
     exact⟨r2,ih⟩
theorem QcA:∀ (m:Nat) (t:Pat),t.size<=m->t.size<2^40->FewP t
 |0,.mk _ _ _ _ _ _,h,_=>by simp only[Pat.size] at h;omega
 |m+1,t,h,h'=>λleft deep s=>by
   have hsz:Pat.sizes t.kids+1=t.size:=by cases t;simp only[Pat.size,Pat.kids]
   have hl:=Pat.len_sizes t.kids
   have HV:∀ u ∈ t.kids,FewP u:=λu hu=>by
    have:=Pat.mem_sizes hu
    exact QcA m u (by omega) (by omega)
   have c:=Pat.cells_eq t
   rw[Qe3]
   simp only[go_sem,Int.reduceEq,Int.reduceNeg,Nat.reduceAdd,Nat.reduceLeDiff,ne_eq,not_false_eq_true,Pat.enc,c]
   generalize IntKind.i64.wrap (IntKind.i64.wrap (left - 1) - IntKind.i64.wrap ((t.name.length:Int).tdiv 100))=x
   cases hA:decide (x<0) with
   |true=>simp only[go_sem,Int.reduceNeg,hA];exact⟨_,rfl⟩
   |false=>
     cases hB:decide (deep>130) with
     |true=>simp only[go_sem,Int.reduceNeg,hA,hB];exact⟨_,rfl⟩
     |false=>
       obtain⟨r,e1⟩:=QfZ t (by omega) deep s t.kids [] x 0 rfl rfl HV
       rw[show ((0:Nat):Int)=0 from rfl] at e1
       simp only[go_sem,c,hA,hB,Q4,Yi] at e1 |-
       exact⟨r,e1⟩
theorem QfW(cs:List Case)(b:Bool)(hl:cs.length<2^40)(deep:Int)(s:St):∀ (suf pre:List Case) (left:Int) (i:Nat),pre++suf=cs->i=pre.length->(∀ c ∈ suf,FewP c.pat/\FewE c.exp)->
  ∃ r:Int,Q00 (.val (encS b (cs.map Case.enc))) (.val (.int .i64 left)) (.val (.int .i64 deep)) (.val (.int .i64 cs.length)) (.val (.int .i64 i)) s=some (.ret (.val (.int .i64 r)),s)
 |[],pre,left,i,h,hi,H=>by
   subst hi
   rw[Q5I];simp only[go_sem,Int.reduceNeg,Qg (by simpa using h)]
   exact⟨_,rfl⟩
 |c::suf,pre,left,i,h,hi,H=>by
   subst hi
   obtain⟨f1,f2',f3⟩:=Qe (x:=.val (encS b (cs.map Case.enc))) (Q4 _ _) h (by omega) (Case.cells_len c) (by decide)
   have f2:ixS 12 (.val (encS b (cs.map Case.enc))) (.val (.int .i64 (pre.length:Int)))=some (.val (.cp c.cells)):=f2'
   clear f2'
   have cc:c.cells=_:=Case.cells_eq c
   have cp:=Pat.cells_eq c.pat
   have ce:=Exp.cells_eq c.exp
   rw[cc,cp,ce] at f2
   simp only[Yk,Ym] at f2
   obtain⟨H1,H2⟩:=H c Yd
   obtain⟨r,e1⟩:=H1 left deep s
   obtain⟨r2,e2⟩:=H2 r deep s
   simp only[Pat.enc,cp] at e1
   simp only[Exp.enc,ce] at e2
   obtain⟨r3,ih⟩:=QfW cs b hl deep s suf (pre++[c]) r2 (pre.length+1) (by simpa using h) (by simp) (λw hw=>H w (Yc _ hw))
   rw[Q5I]
   cases hn:decide (r≥0) with
   |true=>
     cases hm:decide (r2<0) with
     |true=>simp only[go_sem,Int.reduceNeg,Nat.reduceAdd,Nat.reduceLeDiff,f1,f2,f3,e1,e2,hn,hm];exact⟨_,rfl⟩
     |false=>
       simp only[go_sem,Int.reduceNeg,Nat.reduceAdd,Nat.reduceLeDiff,f1,f2,f3,e1,e2,hn,hm]
       exact⟨r3,ih⟩
   |false=>
     have hm:decide (r<0)=true:=decide_eq_true (by have:=of_decide_eq_false hn;omega)
     simp only[go_sem,Int.reduceNeg,Nat.reduceAdd,Nat.reduceLeDiff,f1,f2,f3,e1,hn,hm];exact⟨_,rfl⟩
theorem QlY{cs:List Case}(hl:cs.length<2^40)(H:∀ c ∈ cs,FewP c.pat/\FewE c.exp):FewC cs:=λb left deep s=>by
 obtain⟨r,e1⟩:=QfW cs b hl deep s cs [] left 0 rfl rfl H
 rw[show ((0:Nat):Int)=0 from rfl] at e1
 rw[QbV]
 simp only[go_sem,Q4,Yi] at e1 |-
 exact⟨r,e1⟩
section
variable (ds:List Dec) (b:Bool)
def FewX(d:Dec):Prop:=FewC d.case/\(∀ c ∈ d.cons,FewT c.arg)/\(∀ f ∈ d.funs,FewC [f.case])/\d.cons.length<2^40/\d.funs.length<2^40
theorem Qkd(d:Dec)(hd:FewX d)(deep:Int)(s:St)(len:Int)(j:Nat)(hj:j+1<2^62)(K:∀ left:Int,∃ r:Int,Zp (.val (encS b (ds.map Dec.enc))) (.val (.int .i64 left)) (.val (.int .i64 deep)) (.val (.int .i64 len)) (.val (.int .i64 ((j+1:Nat):Int))) s=some (.ret (.val (.int .i64 r)),s)):∀ (suf pre:List Fun) (left:Int) (i:Nat),pre++suf=d.funs->i=pre.length->
  ∃ r:Int,Q1d (.val (encS b (ds.map Dec.enc))) (.val (.int .i64 left)) (.val (.int .i64 deep)) (d.cells.map .val) (.val (.int .i64 len)) (.val (.int .i64 j)) (.val (.int .i64 d.funs.length)) (.val (.int .i64 i)) s=some (.ret (.val (.int .i64 r)),s)
 |[],pre,left,i,h,hi=>by
   subst hi
   have c:=Dec.cells_eq d
   have w1:IntKind.i64.wrap ((j:Int)+1)=((j+1:Nat):Int):=by rw[wrap64 (by omega) (by omega)];rfl
   obtain⟨r,e1⟩:=K left
   rw[Q64];simp only[go_sem,Int.reduceNeg,Qg (by simpa using h),w1,e1]
   exact⟨_,rfl⟩
 |f::suf,pre,left,i,h,hi=>by
   subst hi
   have c:=Dec.cells_eq d
   obtain⟨f1,f2',f3⟩:=Qe (x:=.val (encS d.fb (d.funs.map Fun.enc))) (Q4 _ _) h (by have:=hd.2.2.2.2;omega) (Fun.cells_len f) (by decide)
   have f2:ixS 14 (.val (encS d.fb (d.funs.map Fun.enc))) (.val (.int .i64 (pre.length:Int)))=some (.val (.cp f.cells)):=f2'
   clear f2'
   have cf:f.cells=_:=Fun.cells_eq f
   have cc:f.case.cells=_:=Case.cells_eq f.case
   have cp:=Pat.cells_eq f.case.pat
   have ce:=Exp.cells_eq f.case.exp
   rw[cf,cc,cp,ce] at f2
   simp only[Yk,Ym] at f2
   obtain⟨r,e1⟩:=hd.2.2.1 f (by rw[<-h];simp) false (IntKind.i64.wrap (IntKind.i64.wrap (left - 1) - IntKind.i64.wrap ((f.name.length:Int).tdiv 100))) (IntKind.i64.wrap (deep+1)) s
   simp only[Yh,Yo,QlT,Case.enc,cc,cp,ce,Yk,Ym] at e1
   obtain⟨r2,ih⟩:=Qkd d hd deep s len j hj K suf (pre++[f]) r (pre.length+1) (by simpa using h) (by simp)
   rw[Q64]
   cases hn:decide (r<0) with
   |true=>simp only[go_sem,Int.reduceEq,Int.reduceNeg,Nat.reduceAdd,Nat.reduceLeDiff,ne_eq,not_false_eq_true,c,f1,f2,f3,e1,hn];exact⟨_,rfl⟩
   |false=>
     simp only[go_sem,Int.reduceEq,Int.reduceNeg,Nat.reduceAdd,Nat.reduceLeDiff,ne_eq,not_false_eq_true,c,f1,f2,f3,e1,hn] at ih |-
     exact⟨r2,ih⟩
theorem Qkc(d:Dec)(hd:FewX d)(deep:Int)(s:St)(len:Int)(j:Nat)(hj:j+1<2^62)(K:∀ left:Int,∃ r:Int,Zp (.val (encS b (ds.map Dec.enc))) (.val (.int .i64 left)) (.val (.int .i64 deep)) (.val (.int .i64 len)) (.val (.int .i64 ((j+1:Nat):Int))) s=some (.ret (.val (.int .i64 r)),s)):∀ (suf pre:List Con) (left:Int) (i:Nat),pre++suf=d.cons->i=pre.length->
  ∃ r:Int,Q1c (.val (encS b (ds.map Dec.enc))) (.val (.int .i64 left)) (.val (.int .i64 deep)) (d.cells.map .val) (.val (.int .i64 len)) (.val (.int .i64 j)) (.val (.int .i64 d.cons.length)) (.val (.int .i64 i)) s=some (.ret (.val (.int .i64 r)),s)
 |[],pre,left,i,h,hi=>by
   subst hi
   have c:=Dec.cells_eq d
   obtain⟨r,e1⟩:=Qkd ds b d hd deep s len j hj K d.funs [] left 0 rfl rfl
   rw[show ((0:Nat):Int)=0 from rfl] at e1
   rw[Q63]
   simp only[go_sem,Int.reduceNeg,Nat.reduceAdd,Nat.reduceLeDiff,c,Qg (by simpa using h),Q4,Yi] at e1 |-
   exact⟨r,e1⟩
 |q::suf,pre,left,i,h,hi=>by
   subst hi
   have c:=Dec.cells_eq d
   obtain⟨f1,f2',f3⟩:=Qe (x:=.val (encS d.nb (d.cons.map Con.enc))) (Q4 _ _) h (by have:=hd.2.2.2.1;omega) (Con.cells_len q) (by decide)
   have f2:ixS 7 (.val (encS d.nb (d.cons.map Con.enc))) (.val (.int .i64 (pre.length:Int)))=some (.val (.cp q.cells)):=f2'
   clear f2'
   have cc:q.cells = .str q.name :: .int .i64 q.at_ :: .bool q.has::q.arg.cells:=rfl
   have ct:=Ty.cells_eq q.arg
   rw[cc,ct] at f2
   obtain⟨r,e1⟩:=hd.2.1 q (by rw[<-h];simp) (IntKind.i64.wrap (IntKind.i64.wrap (left - 1) - IntKind.i64.wrap ((q.name.length:Int).tdiv 100))) (IntKind.i64.wrap (deep+1)) s
   simp only[Ty.enc,ct] at e1
   obtain⟨r2,ih⟩:=Qkc d hd deep s len j hj K suf (pre++[q]) r (pre.length+1) (by simpa using h) (by simp)
   rw[Q63]
   cases hn:decide (r<0) with
   |true=>simp only[go_sem,Int.reduceEq,Int.reduceNeg,Nat.reduceAdd,Nat.reduceLeDiff,ne_eq,not_false_eq_true,c,f1,f2,f3,e1,hn];exact⟨_,rfl⟩
   |false=>
     simp only[go_sem,Int.reduceEq,Int.reduceNeg,Nat.reduceAdd,Nat.reduceLeDiff,ne_eq,not_false_eq_true,c,f1,f2,f3,e1,hn] at ih |-
     exact⟨r2,ih⟩
theorem QfX(hl:ds.length<2^40)(deep:Int)(s:St):∀ (suf pre:List Dec) (left:Int) (i:Nat),pre++suf=ds->i=pre.length->(∀ d ∈ suf,FewX d)->
  ∃ r:Int,Zp (.val (encS b (ds.map Dec.enc))) (.val (.int .i64 left)) (.val (.int .i64 deep)) (.val (.int .i64 ds.length)) (.val (.int .i64 i)) s=some (.ret (.val (.int .i64 r)),s)
 |[],pre,left,i,h,hi,H=>by
   subst hi
   rw[Q62];simp only[go_sem,Int.reduceNeg,Qg (by simpa using h)]
   exact⟨_,rfl⟩
 |d::suf,pre,left,i,h,hi,H=>by
   subst hi
   have c:=Dec.cells_eq d
   obtain⟨f1,f2',f3⟩:=Qe (x:=.val (encS b (ds.map Dec.enc))) (Q4 _ _) h (by omega) (Dec.cells_len d) (by decide)
   have f2:ixS 7 (.val (encS b (ds.map Dec.enc))) (.val (.int .i64 (pre.length:Int)))=some (.val (.cp d.cells)):=f2'
   clear f2'
   have hd:=H d Yd
   have hlen:pre.length<ds.length:=by rw[<-h];simp
   have K:∀ left:Int,∃ r:Int,Zp (.val (encS b (ds.map Dec.enc))) (.val (.int .i64 left)) (.val (.int .i64 deep)) (.val (.int .i64 ds.length)) (.val (.int .i64 ((pre.length+1:Nat):Int))) s=some (.ret (.val (.int .i64 r)),s):=λleft=>
    QfX hl deep s suf (pre++[d]) left (pre.length+1) (by simpa using h) (by simp) (λw hw=>H w (Yc _ hw))
   rw[c] at f2
   obtain⟨r,e1⟩:=hd.1 d.cb (maxI (IntKind.i64.wrap (IntKind.i64.wrap (left - 1) - IntKind.i64.wrap ((d.name.length:Int).tdiv 100))) (-1)) (IntKind.i64.wrap (deep+1)) s
   obtain⟨r2,e2⟩:=Qkc ds b d hd deep s ds.length pre.length (by omega) K d.cons [] r 0 rfl rfl
   rw[show ((0:Nat):Int)=0 from rfl] at e2
   rw[Q62]
   cases hA:decide (r<0) with
   |true=>simp only[go_sem,Int.reduceEq,Int.reduceNeg,Nat.reduceAdd,Nat.reduceLeDiff,ne_eq,not_false_eq_true,c,f1,f2,e1,hA];exact⟨_,rfl⟩
   |false=>
     cases hB:decide (deep>130) with
     |true=>simp only[go_sem,Int.reduceEq,Int.reduceNeg,Nat.reduceAdd,Nat.reduceLeDiff,ne_eq,not_false_eq_true,c,f1,f2,e1,hA,hB];exact⟨_,rfl⟩
     |false=>
       simp only[go_sem,Int.reduceEq,Int.reduceNeg,Nat.reduceAdd,Nat.reduceLeDiff,ne_eq,not_false_eq_true,c,f1,f2,e1,hA,hB,Q4,Yi] at e2 |-
       exact⟨r2,e2⟩
end
theorem QlZ{ds:List Dec}(hl:ds.length<2^40)(H:∀ d ∈ ds,FewX d):FewD ds:=λb left deep s=>by
 obtain⟨r,e1⟩:=QfX ds b hl deep s ds [] left 0 rfl rfl H
 rw[show ((0:Nat):Int)=0 from rfl] at e1
 rw[Qd4]
 simp only[go_sem,Q4,Yi] at e1 |-
 exact⟨r,e1⟩
theorem QfY(e:Exp)(hl:e.kids.length<2^40)(HC:FewC e.cases)(HD:FewD e.decs)(deep:Int)(s:St):∀ (suf pre:List Exp) (left:Int) (i:Nat),pre++suf=e.kids->i=pre.length->(∀ u ∈ suf,FewE u)->
  ∃ r:Int,Q1A (.val (.int .i64 left)) (.val (.int .i64 deep)) (e.cells.map .val) (.val (.int .i64 e.kids.length)) (.val (.int .i64 i)) s=some (.ret (.val (.int .i64 r)),s)
 |[],pre,left,i,h,hi,H=>by
   subst hi
   have c:=Exp.cells_eq e
   obtain⟨r,e1⟩:=HC e.cb left (IntKind.i64.wrap (deep+1)) s
   obtain⟨r2,e2⟩:=HD e.db r (IntKind.i64.wrap (deep+1)) s
   rw[Q6W]
   cases hn:decide (r<0) with
   |true=>simp only[go_sem,Int.reduceNeg,Nat.reduceAdd,Nat.reduceLeDiff,c,Qg (by simpa using h),e1,hn];exact⟨_,rfl⟩
   |false=>simp only[go_sem,Int.reduceNeg,Nat.reduceAdd,Nat.reduceLeDiff,c,Qg (by simpa using h),e1,e2,hn];exact⟨_,rfl⟩
 |u::suf,pre,left,i,h,hi,H=>by
   subst hi
   have c:=Exp.cells_eq e
   have cu:=Exp.cells_eq u
   obtain⟨f1,f2',f3⟩:=Qe (x:=.val (encS e.kb (e.kids.map Exp.enc))) (Q4 _ _) h (by omega) (Exp.cells_len u) (by decide)
   have f2:ixS 7 (.val (encS e.kb (e.kids.map Exp.enc))) (.val (.int .i64 (pre.length:Int)))=some (.val (.cp u.cells)):=f2'
   clear f2'
   obtain⟨r,e1⟩:=H u Yd left (IntKind.i64.wrap (deep+1)) s
   obtain⟨r2,ih⟩:=QfY e hl HC HD deep s suf (pre++[u]) r (pre.length+1) (by simpa using h) (by simp) (λw hw=>H w (Yc _ hw))
   rw[cu] at f2
   simp only[Exp.enc,cu] at e1
   rw[Q6W]
   cases hn:decide (r<0) with
   |true=>simp only[go_sem,Int.reduceEq,Int.reduceNeg,Nat.reduceAdd,Nat.reduceLeDiff,ne_eq,not_false_eq_true,c,f1,f2,f3,e1,hn];exact⟨_,rfl⟩
   |false=>
     simp only[go_sem,Int.reduceEq,Int.reduceNeg,Nat.reduceAdd,Nat.reduceLeDiff,ne_eq,not_false_eq_true,c,f1,f2,f3,e1,hn] at ih |-
     exact⟨r2,ih⟩
theorem Qke:∀ m:Nat,(∀ e:Exp,e.size<=m->e.size<2^40->FewE e)/\(∀ d:Dec,d.size<=m->d.size<2^40->FewX d)
 |0=>⟨λe h=>by cases e;simp only[Exp.size] at h;omega,λd h=>by cases d;simp only[Dec.size] at h;omega⟩
 |m+1=>by
   obtain⟨HE,HD⟩:=Qke m
   have HC:∀ cs:List Case,Case.sizes cs<=m->Case.sizes cs<2^40->FewC cs:=λcs hs hs2=>by
    have:=Case.len_sizes cs
    refine QlY (by omega) λc hc=>?_
    have h1:=Case.mem_sizes hc
    cases c with
    |mk p e=>
      simp only[Case.size] at h1
      exact⟨QcA p.size p (Yg _) (by omega),HE e (by omega) (by omega)⟩
   refine⟨λe h hb=>λleft deep s=>?_,λd h hb=>?_⟩
   ·cases e with
    |mk k a nm n kids kb cs cb ds db=>
      simp only[Exp.size] at h hb
      have z1:=Exp.len_sizes kids
      have z3:=Dec.len_sizes ds
      have HDs:FewD ds:=QlZ (by omega) λd hd=>by have:=Dec.mem_sizes hd;exact HD d (by omega) (by omega)
      have HV:∀ u ∈ kids,FewE u:=λu hu=>by have:=Exp.mem_sizes hu;exact HE u (by omega) (by omega)
      rw[Qe2]
      simp only[go_sem,Int.reduceEq,Int.reduceNeg,Nat.reduceAdd,ne_eq,not_false_eq_true,Exp.enc,Exp.cells_mk]
      generalize IntKind.i64.wrap (IntKind.i64.wrap (left - 1) - IntKind.i64.wrap ((nm.length:Int).tdiv 100))=x
      cases hA:decide (x<0) with
      |true=>simp only[go_sem,Int.reduceNeg,hA];exact⟨_,rfl⟩
      |false=>
        cases hB:decide (deep>130) with
        |true=>simp only[go_sem,Int.reduceNeg,hA,hB];exact⟨_,rfl⟩
        |false=>
          obtain⟨r,e1⟩:=QfY (.mk k a nm n kids kb cs cb ds db) (by simp only[Exp.kids];omega) (HC cs (by omega) (by omega)) HDs deep s kids [] x 0 rfl rfl HV
          rw[show ((0:Nat):Int)=0 from rfl] at e1
          simp only[go_sem,Exp.cells_mk,Exp.kids,hA,hB,Q4,Yi] at e1 |-
          exact⟨r,e1⟩
   ·cases d with
    |mk k a nm p cons nb cs cb fs fb=>
      simp only[Dec.size] at h hb
      have z1:=Con.len_sizes cons
      have z2:=Fun.len_sizes fs
      refine⟨HC cs (by omega) (by omega),λc hc=>?_,λf hf=>?_,by simp only[Dec.cons];omega,by simp only[Dec.funs];omega⟩
      ·have:=Con.mem_sizes hc
       simp only[Dec.cons] at this
       unfold Con.size at this
       exact QcB c.arg.size c.arg (Yg _) (by omega)
      ·have h1:=Fun.mem_sizes hf
       cases f with
       |mk nm' a' c'=>
         simp only[Fun.size,Dec.funs] at h1
         exact HC [c'] (by simp only[Case.sizes];omega) (by simp only[Case.sizes];omega)
open Go Go.Am
set_option maxRecDepth 4000
theorem Q17(n:Int)(s:St):cw (.f Q2J) [.int .u8 n] s=some (.ret (.val (.bool (digB n))),s):=by
 rw[Qf3];simp only[go_sem];rfl
theorem Q8c(n:Int)(s:St):cw (.f Q7a) [.int .u8 n] s=some (.ret (.val (.bool (smaB n))),s):=by
 rw[Qf5];simp only[go_sem];rfl
theorem Q4O(n:Int)(s:St):cw (.f Q4t) [.int .u8 n] s=some (.ret (.val (.bool (greB n))),s):=by
 rw[Qf4];simp only[go_sem];rfl
theorem QcQ(c:UInt8)(s:St):cw (.f Q79) [.int .u8 c.toNat] s=some (.ret (.val (.bool (blankC c))),s):=by
 rw[Qf2];simp only[go_sem]
 rw[show decide ((c.toNat:Int)=32)=decide (c=32) from Q4R c 32 (by decide),show decide ((c.toNat:Int)=9)=decide (c=9) from Q4R c 9 (by decide),
  show decide ((c.toNat:Int)=10)=decide (c=10) from Q4R c 10 (by decide),show decide ((c.toNat:Int)=13)=decide (c=13) from Q4R c 13 (by decide)]
 rfl
theorem Q3Q(pre suf t:Str)(hl:(pre++suf).length<2^60)(ht:t.length<2^60)(i:Nat)(hi:i=pre.length)(s:St):cw (.f Q2Y) [.str (pre++suf),.int .i64 (i:Int),.str t] s=some (.ret (.val (.bool (hasP suf t))),s):=by
 subst hi
 have hL:(pre++suf).length=pre.length+suf.length:=by simp
 rw[Qiw]
 generalize hLe:pre++suf=L at hl hL |-
 simp only[go_sem,Int.reduceAdd,Int.reduceLT]
 rw[wrap64 (by omega) (by omega)]
 unfold hasP
 cases h:decide (t.length<=suf.length)
 ·have hb:decide ((L.length:Int) - (pre.length:Int)≥(t.length:Int))=false:=by simp at h |-;omega
  simp only[go_sem,hb]
 ·have hb:decide ((L.length:Int) - (pre.length:Int)≥(t.length:Int))=true:=by simp at h |-;omega
  have hle:=of_decide_eq_true h
  have hs:=Q5P (t:=C.ti Q0) Qk (l:=L) (i:=pre.length) (j:=pre.length+t.length) (by omega) (by omega)
  have e:(pre.length:Int)+(t.length:Int)=((pre.length+t.length:Nat):Int):=by omega
  rw[<-hLe,Q9j,hLe] at hs
  simp only[go_sem,hb]
  rw[wrap64 (by omega) (by omega),e,hs]
  simp only[go_sem,Int.reduceAdd,Int.reduceLT]
theorem QiI(L:Str)(hl:L.length<2^59):∀ (suf pre:Str) (d:Int) (s:St) (i:Nat),pre++suf=L->i=pre.length->-(pre.length:Int)<=d->d<=pre.length->
  ZV (.val (.str L)) (.val (.int .i64 d)) (.val (.int .i64 (i:Int))) s=some (.ret (.val (.int .i64 (match lxCom d suf with|some k=>((i+k:Nat):Int)|none=> -1))),s):=by
 intro suf
 generalize hn:suf.length=n
 induction n using Nat.strongRecOn generalizing suf with
 |ind n ih=>
   intro pre d s i h hi hd1 hd2
   subst hi
   have hL:pre.length+suf.length=L.length:=by rw[<-h];simp
   rw[Qb9]
   have ho:=λs=>Q3Q pre suf [40,42] (by rw[h];omega) (by decide) pre.length rfl s
   have hc:=λs=>Q3Q pre suf [42,41] (by rw[h];omega) (by decide) pre.length rfl s
   rw[h,Qdy] at ho
   rw[h,Qjx] at hc
   match suf,hn,h,hL with
   |[],_,h,hL=>
     simp only[Ye,Nat.add_zero] at hL
     have hb:decide ((pre.length:Int)<(L.length:Int))=false:=by simp;omega
     simp only[go_sem,Int.reduceNeg,hb,lxCom]
   |[a],hn,h,hL=>
     simp only[Ya,Ye] at hL hn
     have hb:decide ((pre.length:Int)<(L.length:Int))=true:=by simp;omega
     have i3:=ih 0 (by omega) [] rfl (pre++[a]) d s (pre.length+1) (by simp[h]) (by simp) (by simp;omega) (by simp;omega)
     simp only[go_sem,Int.reduceNeg,hb,ho,hc,lxOpens,lxCloses]
     rw[wrap64 (by omega) (by omega)]
     have e1:(pre.length:Int)+1=((pre.length+1:Nat):Int):=by omega
     rw[e1,i3]
     simp only[lxCom]
   |a::b::r,hn,h,hL=>
     simp only[Ya] at hL hn
     have hb:decide ((pre.length:Int)<(L.length:Int))=true:=by simp;omega
     simp only[go_sem,Int.reduceNeg,hb,ho,hc,lxOpens,lxCloses]
     rw[wrap64 (n:=(pre.length:Int)+2) (by omega) (by omega),wrap64 (n:=(pre.length:Int)+1) (by omega) (by omega),wrap64 (n:=d+1) (by omega) (by omega),wrap64 (n:=d - 1) (by omega) (by omega)]
     have i1:=ih r.length (by omega) r rfl (pre++[a,b]) (d+1) s (pre.length+2) (by simp[h]) (by simp) (by simp;omega) (by simp;omega)
     have i2:=ih r.length (by omega) r rfl (pre++[a,b]) (d - 1) s (pre.length+2) (by simp[h]) (by simp) (by simp;omega) (by simp;omega)
     have i3:=ih (r.length+1) (by omega) (b::r) (by simp) (pre++[a]) d s (pre.length+1) (by simp[h]) (by simp) (by simp;omega) (by simp;omega)
     have e1:(pre.length:Int)+1=((pre.length+1:Nat):Int):=by omega
     have e2:(pre.length:Int)+2=((pre.length+2:Nat):Int):=by omega
     rw[e1,e2,i1,i2,i3,Qhu]
     cases decide (a=40)&&decide (b=42)
     ·cases decide (a=42)&&decide (b=41)
      ·simp only[go_sem,Int.reduceNeg]
       cases lxCom d (b::r)<;>simp only[go_sem,Int.reduceNeg]
       simp;omega
      ·simp only[go_sem,Int.reduceNeg]
       cases decide (d - 1=0)
       ·simp only[go_sem,Int.reduceNeg]
        cases lxCom (d - 1) r<;>simp only[go_sem,Int.reduceNeg]
        simp;omega
       ·simp only[go_sem,Int.reduceNeg]
     ·simp only[go_sem,Int.reduceNeg]
      cases lxCom (d+1) r<;>simp only[go_sem,Int.reduceNeg]
      simp;omega
theorem QbN(pre suf:Str)(hl:(pre++suf).length<2^59)(s:St):cw (.f Q3H) [.str (pre++suf),.int .i64 (pre.length:Int)] s=some (.ret (.val (.int .i64 (match lxCom 0 suf with|some k=>((pre.length+k:Nat):Int)|none=> -1))),s):=by
 rw[QdN]
 exact QiI (pre++suf) hl suf pre 0 s pre.length rfl rfl (by omega) (by omega)
theorem Qp5(x:Str)(L:List Str)(hl:L.length<2^62):∀ (suf pre:List Str) (s:St) (i:Nat),pre++suf=L->i=pre.length->
  Q4d (.val (.sl (L.map .str))) (.val (.str x)) (.val (.int .i64 L.length)) (.val (.int .i64 (i:Int))) s=some (.ret (.val (.bool (hasL suf x))),s):=by
 intro suf
 induction suf with
 |nil=>
   intro pre s i h hi
   rw[Yr] at h
   subst h hi
   rw[Q9n]
   simp only[go_sem,Int.lt_irrefl]
   rfl
 |cons c suf ih=>
   intro pre s i h hi
   subst hi
   obtain⟨f1,f2,f3⟩:=Qe (f:=AV.str) (x:=.val (.sl (L.map .str))) (sz:=1) rfl h hl rfl (by decide)
   have h1:=ih (pre++[c]) s (pre.length+1) (by simp[h]) (by simp)
   rw[Q9n]
   simp only[go_sem,Nat.reduceAdd,Nat.reduceLeDiff,f1,f2,f3]
   rw[h1]
   simp only[hasL,List.any_cons]
   have e:decide (c=x)=decide (x=c):=by rw[decide_eq_decide];exact eq_comm
   rw[e]
   cases decide (x=c)<;>rfl
theorem QgL(x:Str)(L:List Str)(hl:L.length<2^62)(s:St):cw (.f Q7K) [.sl (L.map .str),.str x] s=some (.ret (.val (.bool (hasL L x))),s):=by
 rw[QjG]
 simp only[go_sem,Int.reduceAdd,Int.reduceLT]
 exact Qp5 x L hl L [] s 0 rfl rfl
theorem QcP(s:St):cw (.f Q78) [] s=some (.ret (.full (lwords.map .str)),s):=by
 rw[Qf1];simp only[go_sem,Nat.reduceAdd];rfl
theorem QcN(s:St):cw (.f Q77) [] s=some (.ret (.full (lsigns.map .str)),s):=by
 rw[Qf0];simp only[go_sem,Nat.reduceAdd];rfl
theorem Qle(pre t:Str)(hl:(pre++t).length<2^60):∀ (suf pr:List Str) (a:Str) (s:St) (i:Nat),pr++suf=lsigns->i=pr.length->a.length<=2->
  Q1q (.val (.str (pre++t))) (.val (.int .i64 (pre.length:Int))) (.full (lsigns.map .str)) (.val (.str a)) (.val (.int .i64 19)) (.val (.int .i64 (i:Int))) s =
   some (.ret (.val (.str (suf.foldl (λa w=>bif hasP t w&&decide (w.length>a.length) then w else a) a))),s):=by
 intro suf
 induction suf with
 |nil=>
   intro pr a s i h hi ha
   rw[Yr] at h
   subst h hi
   rw[Q8b,show ((lsigns.length:Nat):Int)=19 from rfl]
   simp only[go_sem,Int.reduceAdd,Int.reduceLT]
   rfl
 |cons c suf ih=>
   intro pr a s i h hi ha
   subst hi
   have hc2:c.length<=2:=by
    have hall:∀ x ∈ lsigns,x.length<=2:=by decide
    exact hall c (by rw[<-h];simp)
   obtain⟨f1,f2,f3⟩:=Qe (f:=AV.str) (x:=.full (lsigns.map .str)) (sz:=1) rfl h (by decide) rfl (by decide)
   rw[show ((lsigns.length:Nat):Int)=19 from rfl] at f1
   have hh:=λs=>Q3Q pre t c hl (by omega) pre.length rfl s
   have g1:=ih (pr++[c]) c s (pr.length+1) (by simp[h]) (by simp) hc2
   have g2:=ih (pr++[c]) a s (pr.length+1) (by simp[h]) (by simp) ha
   rw[Q8b]
   simp only[go_sem,Nat.reduceAdd,Nat.reduceLeDiff,f1,f2,f3,hh,List.foldl_cons]
   cases hp:hasP t c
   ·simp only[go_sem,Int.reduceNeg]
    exact g2
   ·simp only[go_sem,Int.reduceNeg]
    have e:decide ((c.length:Int)>(a.length:Int))=decide (c.length>a.length):=by rw[decide_eq_decide];omega
    rw[e]
    cases decide (c.length>a.length)
    ·simp only[go_sem,Int.reduceNeg]
     exact g2
    ·simp only[go_sem,Int.reduceNeg]
     exact g1
theorem QdO(pre t:Str)(hl:(pre++t).length<2^60)(s:St):cw (.f Q5f) [.str (pre++t),.int .i64 (pre.length:Int)] s=some (.ret (.val (.str (signA t))),s):=by
 rw[QgN,<-QnS]
 generalize hL:pre++t=L at hl
 simp only[go_sem,QcN]
 rw[<-hL] at hl |-
 exact Qle pre t hl lsigns [] [] s 0 rfl rfl (by decide)
open Go Go.Am
set_option maxRecDepth 4000
theorem QnN(L:Str)(hl:L.length<2^60)(at':Nat):∀ (suf pre:Str) (s:St) (i:Nat),pre++suf=L->i=pre.length->at'<i->
  Q3v (.val (.str L)) (.val (.int .i64 (at':Int))) (.val (.int .i64 (i:Int))) s=some (.ret (.val (.int .i64 ((i+(suf.takeWhile amoC).length:Nat):Int))),s):=by
 intro suf
 induction suf with
 |nil=>
   intro pre s i h hi ha
   rw[Yr] at h
   subst h hi
   rw[Q3h]
   simp only[go_sem,Int.lt_irrefl,List.takeWhile_nil]
   rfl
 |cons c suf ih=>
   intro pre s i h hi ha
   subst hi
   have hc:L[pre.length]? = some c:=by rw[<-h];simp
   have hlt:pre.length<L.length:=by rw[<-h];simp
   have:=ih (pre++[c]) s (pre.length+1) (by simp[h]) (by simp) (by omega)
   rw[Q3h]
   have hb:decide ((pre.length:Int)<(L.length:Int))=true:=by simpa using hlt
   have hg:decide ((pre.length:Int)>(at':Int))=true:=by simp;omega
   simp only[go_sem,hb,hg,Zb Qk hc,Q8c,Q4O,Q17]
   rw[wrap64 (by omega) (by omega)]
   have e:(pre.length:Int)+1=((pre.length+1:Nat):Int):=by omega
   rw[e,this]
   have ha:amoC c=(smaB c.toNat || greB c.toNat || decide ((c.toNat:Int)=95) || (digB c.toNat || decide ((c.toNat:Int)=39))):=by
    unfold amoC amoB firB smaB greB
    simp only[Bool.or_assoc]
   rw[List.takeWhile_cons,ha]
   cases smaB c.toNat<;>cases greB c.toNat<;>cases decide ((c.toNat:Int)=95)<;>cases digB c.toNat<;>cases decide ((c.toNat:Int)=39)<;>simp only[go_sem]<;>first|rfl|(simp;omega)|simp
theorem Q9m(pre suf:Str)(hl:(pre++suf).length<2^60)(i:Nat)(hi:i=pre.length)(s:St):cw (.f Q45) [.str (pre++suf),.int .i64 (i:Int)] s=some (.ret (.val (.int .i64 ((i+runLen suf:Nat):Int))),s):=by
 subst hi
 rw[Qiv]
 cases suf with
 |nil=>
   rw[Q3h]
   simp only[go_sem,Int.lt_irrefl]
   rfl
 |cons c suf=>
   have hc:(pre++c::suf)[pre.length]? = some c:=by simp
   have:=QnN (pre++c::suf) hl pre.length suf (pre++[c]) s (pre.length+1) (by simp) (by simp) (by omega)
   generalize hLe:pre++c::suf=L at hl hc this |-
   have hlt:pre.length<L.length:=by rw[<-hLe];simp
   rw[Q3h]
   have hb:decide ((pre.length:Int)<(L.length:Int))=true:=by simpa using hlt
   have hg:decide ((pre.length:Int)>(pre.length:Int))=false:=by simp
   simp only[go_sem,hb,hg,Zb Qk hc,Q8c,Q4O,Q17]
   rw[wrap64 (by omega) (by omega)]
   have e:(pre.length:Int)+1=((pre.length+1:Nat):Int):=by omega
   rw[e,this]
   have hf:firC c=(smaB c.toNat || greB c.toNat || decide ((c.toNat:Int)=95)):=rfl
   have ha:firC c=true->amoC c=true:=λh=>by unfold amoC amoB;unfold firC at h;rw[h];rfl
   unfold runLen
   rw[show (c::suf).headD 0=c from rfl,hf] at *
   revert ha
   cases smaB c.toNat<;>cases greB c.toNat<;>cases decide ((c.toNat:Int)=95)<;>simp only[go_sem]<;>intro ha<;>first|rfl|(rw[List.takeWhile_cons,ha trivial];simp;omega)|(rw[List.takeWhile_cons,ha trivial];simp)
theorem QdL(pre suf:Str)(k:Nat)(hk:0<k)(hk2:k<=suf.length)(hl:(pre++suf).length<2^60)(j:Nat)(hj:j=pre.length+k)(s:St) :
  cw (.f Q80) [.str (pre++suf),.int .i64 (pre.length:Int),.int .i64 (j:Int)] s=some (.ret (.val (LTok.mk (namedA (suf.take k)) pre.length (suf.take k) 0).enc),s):=by
 subst hj
 rw[QgM]
 have hs:=Q5P (t:=C.ti Q0) Qk (l:=pre++suf) (i:=pre.length) (j:=pre.length+k) (by omega) (by simp;omega)
 rw[Q9j] at hs
 have hidx:(pre++suf)[pre.length]? = some ((suf.take k).headD 0):=by
  cases suf with
  |nil=>simp at hk2;omega
  |cons c r=>cases k with
    |zero=>omega
    |succ k=>simp
 generalize pre++suf=L at hl hs hidx |-
 generalize suf.take k=t at hs hidx |-
 simp only[go_sem,Nat.reduceAdd,Nat.reduceLeDiff,hs,QcP,QgL t lwords (by decide),Zb Qk hidx,Q4O]
 unfold namedA
 cases hasL lwords t
 ·simp only[go_sem]
  have hg:greB ((t.headD 0).toNat:Int)=(decide (((t.headD 0).toNat:Int)≥65)&&decide (((t.headD 0).toNat:Int)<=90)):=rfl
  rw[<-hg]
  cases greB ((t.headD 0).toNat:Int)
  ·simp only[go_sem]
   cases h1:decide (t=[116,114,117,101])
   ·simp only[go_sem]
    cases h2:decide (t=[102,97,108,115,101])
    ·simp only[go_sem];rfl
    ·simp only[go_sem];rfl
   ·simp only[go_sem];rfl
  ·simp only[go_sem]
   rfl
 ·simp only[go_sem]
  rfl
open Go Go.Am
set_option maxRecDepth 4000
theorem Qci:∀ (a b:Str) (n:Int),numS n (a++b)=numS (numS n a) b
 |[],_,_=>rfl
 |c::a,b,n=>by simp only[Yk,numS];exact Qci a b _
theorem Qcj:∀ (r:Str) (n:Int),r.all digC=true->0<=n->n<=1099511627776->0<=numS n r/\numS n r<=1099511627776
 |[],n,_,h0,h1=>⟨h0,h1⟩
 |c::r,n,h,h0,h1=>by
   simp only[List.all_cons,Yf] at h
   have hb:=Q9K h.1
   exact Qcj r _ h.2 (by split<;>omega) (by split<;>omega)
theorem Qny(a b:Int):min2 (.val (.int .i64 a)) (.val (.int .i64 b))=some (.val (.int .i64 (if b<a then b else a))):=rfl
theorem Qbd(pre a r:Str)(m:Bool)(hl:(pre++(a++r)).length<2^60)(h0:a≠[])(z:List Slot)(hz:z.length=4)(hend:r=[]\/∃ c r',r=c::r'/\digC c=false)(n:Int)(i:Nat)(hi:i=pre.length+a.length)(hn:n=numS 0 a)(s:St) :
  Q0u (.val (.str (pre++(a++r)))) (.val (.int .i64 (pre.length:Int))) (.val (.bool m)) z (.val (.int .i64 (i:Int))) (.val (.int .i64 n)) s =
   some (.ret (.val (.tup [(LTok.mk 1 pre.length a n).enc,.int .i64 (bif badR a m then 13 else 0)])),s):=by
 obtain⟨z0,z1,z2,z3,rfl⟩:∃ a b c d,z=[a,b,c,d]:=by
  match z,hz with
  |[a,b,c,d],_=>exact⟨a,b,c,d,rfl⟩
 subst hi
 have hL:(pre++(a++r)).length=pre.length+a.length+r.length:=by simp;omega
 have hs:=Q5P (t:=C.ti Q0) Qk (l:=pre++(a++r)) (i:=pre.length) (j:=pre.length+a.length) (by omega) (by omega)
 rw[Q9j,List.take_left] at hs
 have hidx:(pre++(a++r))[pre.length]? = some (a.headD 0):=by
  cases a with
  |nil=>exact absurd rfl h0
  |cons c a=>simp
 have hc:∀ c r',r=c::r'->(pre++(a++r))[pre.length+a.length]? = some c:=λc r' e=>by
  subst e
  rw[<-Yj,<-Yb];simp
 have hz:decide (((a.headD 0).toNat:Int)=48)=decide (a.headD 0=48):=Q4R _ 48 (by decide)
 have hlen:decide (((pre.length+a.length:Nat):Int) - (pre.length:Int)>1)=decide ((a.length:Int)>1):=by rw[decide_eq_decide];omega
 generalize pre++(a++r)=L at hl hL hs hidx hc |-
 unfold badR
 rw[<-hn]
 rw[Q6P]
 rcases hend with rfl|⟨c,r',rfl,hd⟩
 case' inl=>
  have hb:decide (((pre.length+a.length:Nat):Int)<(L.length:Int))=false:=by simp at hL;simp;omega
  simp only[go_sem,Nat.reduceAdd,Nat.reduceLeDiff,hb,hs]
 case' inr=>
  have hb:decide (((pre.length+a.length:Nat):Int)<(L.length:Int))=true:=by simp at hL;simp;omega
  have hd:digB (c.toNat:Int)=false:=hd
  simp only[go_sem,Nat.reduceAdd,Nat.reduceLeDiff,hb,Zb Qk (hc c r' rfl),Q17,hd,hs]
 all_goals
  rw[wrap64 (by omega) (by omega),hlen]
  cases h1:decide ((a.length:Int)>1)
  case' false=>
   simp only[go_sem]
  case' true=>
   simp only[go_sem,Zb Qk hidx,hz]
   cases decide (a.headD 0=48)
   case' true=>simp only[go_sem];rfl
   case' false=>simp only[go_sem]
  all_goals
   cases decide (n>1073741824)
   ·simp only[go_sem]
    cases decide (n=1073741824)
    ·simp only[go_sem];rfl
    ·simp only[go_sem]
     cases m
     ·simp only[go_sem];rfl
     ·simp only[go_sem];rfl
   ·simp only[go_sem];rfl
theorem QiH(pre suf0:Str)(m:Bool)(hl:(pre++suf0).length<2^60)(hT:suf0.takeWhile digC≠[])(z:List Slot)(hz:z.length=4):∀ (suf a:Str) (s:St) (i:Nat),a++suf=suf0->i=pre.length+a.length->a.all digC=true->suf0.takeWhile digC=a++suf.takeWhile digC->
  Q0u (.val (.str (pre++suf0))) (.val (.int .i64 (pre.length:Int))) (.val (.bool m)) z (.val (.int .i64 (i:Int))) (.val (.int .i64 (numS 0 a))) s =
   some (.ret (.val (.tup [(LTok.mk 1 pre.length (suf0.takeWhile digC) (numS 0 (suf0.takeWhile digC))).enc,.int .i64 (bif badR (suf0.takeWhile digC) m then 13 else 0)])),s):=by
 obtain⟨z0,z1,z2,z3,rfl⟩:∃ a b c d,z=[a,b,c,d]:=by
  match z,hz with
  |[a,b,c,d],_=>exact⟨a,b,c,d,rfl⟩
 intro suf
 induction suf with
 |nil=>
   intro a s i h hi ha ht
   simp only[List.takeWhile_nil,Yr] at ht h
   subst h
   rw[ht]
   have:=Qbd pre a [] m (by rw[Yr];exact hl) (by rw[<-ht];exact hT) [z0,z1,z2,z3] rfl (.inl rfl) (numS 0 a) i hi rfl s
   rw[Yr] at this
   exact this
 |cons c suf ih=>
   intro a s i h hi ha ht
   subst hi
   have hL:(pre++suf0).length=pre.length+a.length+(suf.length+1):=by rw[<-h];simp;omega
   have hc:(pre++suf0)[pre.length+a.length]? = some c:=by rw[<-h,<-Yj,<-Yb];simp
   obtain⟨b1,b2⟩:=Qcj a 0 ha (by decide) (by decide)
   cases hd:digC c
   ·have ht':suf0.takeWhile digC=a:=by rw[ht,List.takeWhile_cons,hd];simp
    rw[ht']
    have:=Qbd pre a (c::suf) m (by rw[h];exact hl) (by rw[<-ht'];exact hT) [z0,z1,z2,z3] rfl (.inr ⟨c,suf,rfl,hd⟩) (numS 0 a) (pre.length+a.length) rfl rfl s
    rw[h] at this
    exact this
   ·have hcb:=Q9K hd
    have:=ih (a++[c]) s (pre.length+a.length+1) (by simp[h]) (by simp;omega) (by rw[List.all_append,ha];simp[hd]) (by rw[ht,List.takeWhile_cons,hd];simp)
    rw[Qci] at this
    generalize hLe:pre++suf0=L at hl hL hc this |-
    rw[Q6P]
    have hb:decide (((pre.length+a.length:Nat):Int)<(L.length:Int))=true:=by simp;omega
    simp only[go_sem,Nat.reduceAdd,Nat.reduceLeDiff,hb,Zb Qk hc,Q17]
    rw[show digB (c.toNat:Int)=digC c from rfl,hd,QhA]
    simp only[go_sem]
    rw[wrap64 (n:=10*numS 0 a) (by omega) (by omega),wrap64 (n:=(c.toNat:Int)) (by omega) (by omega),wrap64 (n:=10*numS 0 a+_) (by omega) (by omega),wrap64 (n:=_ - 48) (by omega) (by omega),Qny,wrap64 (n:=((pre.length+a.length:Nat):Int)+1) (by omega) (by omega)]
    simp only[go_sem]
    exact this
theorem QbM(pre suf:Str)(m:Bool)(hl:(pre++suf).length<2^60)(hd:digC (suf.headD 0)=true)(s:St):cw (.f Q3G) [.str (pre++suf),.int .i64 (pre.length:Int),.bool m] s =
  some (.ret (.val (.tup [(LTok.mk 1 pre.length (suf.takeWhile digC) (numS 0 (suf.takeWhile digC))).enc,.int .i64 (bif badR (suf.takeWhile digC) m then 13 else 0)])),s):=by
 rw[QdM]
 have hT:suf.takeWhile digC≠[]:=by
  cases suf with
  |nil=>cases hd
  |cons c r=>
    have hd:digC c=true:=hd
    simp[List.takeWhile_cons,hd]
 exact QiH pre suf m hl hT _ (by simp only[QkG];rfl) suf [] s pre.length rfl (by simp) rfl rfl
open Go Go.Am
set_option maxRecDepth 4000
theorem Qgg(s:Str):runLen s<=s.length:=by
 unfold runLen
 cases firC (s.headD 0)
 ·exact Nat.zero_le _
 ·exact Q1j _ _
theorem Qcp(s:Str)(h:firC (s.headD 0)=true):s.take (runLen s)=s.takeWhile amoC:=by
 unfold runLen
 rw[h]
 exact (QiW amoC s).symm
theorem Qe9{s:Str}(h0:s≠[])(h:firC (s.headD 0)=true):0<runLen s:=by
 cases s with
 |nil=>exact absurd rfl h0
 |cons c r=>
   have h':firC c=true:=h
   have:amoC c=true:=by unfold amoC amoB;unfold firC at h';rw[h'];rfl
   unfold runLen
   rw[h,cond_true,List.takeWhile_cons,this]
   simp
theorem Qcq{s:Str}(h:firC (s.headD 0)=false):runLen s=0:=by unfold runLen;rw[h];rfl
theorem QiK(c:UInt8)(r:Str):(c::r).take (runLen (c::r))=bif firC c then (c::r).takeWhile amoC else []:=by
 cases hf:firC c
 ·rw[Qcq (s:=c::r) hf];rfl
 ·exact Qcp (c::r) hf
theorem Qky(c:UInt8)(r:Str)(n:Nat):decide (((n+runLen (c::r):Nat):Int)>(n:Int))=firC c:=by
 cases hf:firC c
 ·rw[Qcq (s:=c::r) hf];simp
 ·have:=Qe9 (s:=c::r) (by simp) hf
  simp;omega
theorem QnO(r:Str)(n:Nat):decide (((n+runLen r:Nat):Int)>(n:Int))=firC (r.headD 0):=by
 cases r with
 |nil=>simp[runLen];rfl
 |cons a r=>exact Qky a r n
theorem Qsz(c:UInt8)(r:Str):(decide (1<(c::r).length)&&firC (r.headD 0))=firC (r.headD 0):=by
 cases r with
 |nil=>rfl
 |cons a r=>simp
theorem Qmq(c:UInt8)(r:Str)(hf:firC (r.headD 0)=true):(c::r).take (1+runLen r)=c::r.takeWhile amoC:=by
 rw[Nat.add_comm 1,List.take_succ_cons,Qcp r hf]
theorem Qpl(c:UInt8)(r:Str)(hf:firC c=true):((c::r).takeWhile amoC).length=runLen (c::r):=by
 unfold runLen;rw[show (c::r).headD 0=c from rfl,hf];rfl
theorem QnM(r:Str)(hf:firC (r.headD 0)=true):(r.takeWhile amoC).length=runLen r:=by
 unfold runLen;rw[hf];rfl
theorem QeZ(pre suf:Str)(m:Bool)(h0:suf≠[])(hl:(pre++suf).length<2^60)(s:St) :
  ∃ tk:LTok,cw (.f Q8W) [.str (pre++suf),.int .i64 (pre.length:Int),.bool m] s=some (.ret (.val (.tup [tk.enc,.int .i64 (oneA suf m).1])),s)/\((oneA suf m).1=0->tk={ (oneA suf m).2 with pos:=(pre.length:Int) }):=by
 obtain⟨c,r,rfl⟩:=List.exists_cons_of_ne_nil h0
 have hL:(pre++c::r).length=pre.length+(r.length+1):=by simp
 have hc:(pre++c::r)[pre.length]? = some c:=by simp
 have hnum:=QbM pre (c::r) m hl
 have hrun:=Q9m pre (c::r) hl pre.length rfl s
 have hrun2:=Q9m (pre++[c]) r (by simpa using hl) (pre.length+1) (by simp) s
 rw[show pre++[c]++r=pre++c::r by simp] at hrun2
 have hsign:=QdO pre (c::r) hl s
 have hname:=λk h1 h2=>QdL pre (c::r) k h1 h2 hl (pre.length+k) rfl s
 have hsl:=λ(k:Nat) (hk:k<=r.length+1)=>Q5P (t:=C.ti Q0) Qk (l:=pre++c::r) (i:=pre.length) (j:=pre.length+k) (by omega) (by omega)
 simp only[Q9j] at hsl
 have hr1:=Qgg (c::r)
 have hr2:=Qgg r
 have hbad:=λh1 h2=>Qk6 ((c::r).takeWhile digC) m h1 h2
 have hta:(c::r).takeWhile digC=(c::r).takeWhile digC:=rfl
 generalize pre++c::r=L at hl hL hc hnum hrun hrun2 hsign hname hsl |-
 rw[Qiu]
 unfold oneA
 rw[show (c::r).headD 0=c from rfl] at *
 rw[show ((c::r).drop 1).headD 0=r.headD 0 from rfl,Bool.and_assoc,Qsz]
 simp only[go_sem,Nat.reduceAdd,Nat.reduceLeDiff,Zb Qk hc,Q17]
 rw[show digB (c.toNat:Int)=digC c from rfl]
 cases hd:digC c
 ·simp only[go_sem,hrun]
  have h39:decide ((c.toNat:Int)=39)=decide (c=39):=Q4R c 39 (by decide)
  have e1:(pre.length:Int)+1=((pre.length+1:Nat):Int):=by omega
  have hs1:=hsl (runLen (c::r)) (by simpa using hr1)
  rw[QiK] at hs1
  simp only[Ya] at hr1
  rw[Qky,h39]
  have hs2:=hsl (1+runLen r) (by omega)
  have hw:IntKind.i64.wrap ((pre.length:Int)+1)=((pre.length+1:Nat):Int):=by rw[wrap64 (by omega) (by omega),e1]
  cases hf:firC c
  ·simp only[go_sem,Int.reduceEq]
   rw[hw]
   cases h3:decide (c=39)
   ·simp only[go_sem,Nat.reduceAdd,Nat.reduceLeDiff,hrun2,hsign]
    unfold restA
    cases decide (signA (c::r)=[])
    ·simp only[go_sem,Int.reduceEq]
     exact⟨LTok.mk 6 pre.length (signA (c::r)) 0,rfl,λ_=>rfl⟩
    ·simp only[go_sem,Int.reduceEq]
     exact⟨LTok.zero,rfl,λh=>by cases h⟩
   ·simp only[go_sem,hrun2]
    rw[QnO]
    cases h4:firC (r.headD 0)
    ·simp only[go_sem,Nat.reduceAdd,Nat.reduceLeDiff,hsign]
     unfold restA
     cases decide (signA (c::r)=[])
     ·simp only[go_sem,Int.reduceEq]
      exact⟨LTok.mk 6 pre.length (signA (c::r)) 0,rfl,λ_=>rfl⟩
     ·simp only[go_sem,Int.reduceEq]
      exact⟨LTok.zero,rfl,λh=>by cases h⟩
    ·rw[Qmq c r h4,<-Nat.add_assoc] at hs2
     have hlen:=QnM r h4
     have hlen2:(c::r.takeWhile amoC).length=runLen r+1:=by rw[Ya,hlen]
     generalize c::r.takeWhile amoC=u at hs2 hlen2 |-
     simp only[go_sem,Nat.reduceAdd,Nat.reduceLeDiff,hs2]
     rw[wrap64 (n:=((pre.length+1+runLen r:Nat):Int) - (pre.length:Int)) (by omega) (by omega),wrap64 (by omega) (by omega)]
     unfold tyvA
     have hd:decide (((pre.length+1+runLen r:Nat):Int) - (pre.length:Int) - 1>32)=decide ((u.length:Int) - 1>32):=by rw[decide_eq_decide];omega
     rw[hd]
     cases decide ((u.length:Int) - 1>32)
     ·simp only[go_sem,Int.reduceEq]
      exact⟨LTok.mk 4 pre.length u 0,rfl,λ_=>rfl⟩
     ·simp only[go_sem,Int.reduceEq]
      exact⟨LTok.zero,rfl,λh=>by cases h⟩
  ·rw[hf,cond_true] at hs1
   have hlen:=Qpl c r hf
   have hpos:=Qe9 (s:=c::r) (by simp) hf
   have hn:=hname (runLen (c::r)) hpos (by simpa using hr1)
   rw[QiK,hf,cond_true] at hn
   have h39f:decide (c=39)=false:=by
    apply decide_eq_false
    intro e
    subst e
    exact absurd hf (by decide)
   generalize hu:(c::r).takeWhile amoC=u at hs1 hlen hn |-
   cases hu:decide (u=[95])
   ·simp only[go_sem,hs1,hu]
    rw[wrap64 (by omega) (by omega)]
    have hd:decide (((pre.length+runLen (c::r):Nat):Int) - (pre.length:Int)>32)=decide ((u.length:Int)>32):=by rw[decide_eq_decide];omega
    rw[hd]
    cases decide ((u.length:Int)>32)
    ·simp only[go_sem,Nat.reduceAdd,Nat.reduceLeDiff,hn,LTok.enc,LTok.cells_mk]
     exact⟨LTok.mk (namedA u) pre.length u 0,rfl,λ_=>rfl⟩
    ·simp only[go_sem,Int.reduceEq]
     exact⟨LTok.zero,rfl,λh=>by cases h⟩
   ·simp only[go_sem,hs1,hu]
    rw[hw]
    simp only[go_sem,Nat.reduceAdd,Nat.reduceLeDiff,hrun2,h39f,hsign]
    unfold restA
    cases decide (signA (c::r)=[])
    ·simp only[go_sem,Int.reduceEq]
     exact⟨LTok.mk 6 pre.length (signA (c::r)) 0,rfl,λ_=>rfl⟩
    ·simp only[go_sem,Int.reduceEq]
     exact⟨LTok.zero,rfl,λh=>by cases h⟩
 ·have hT:(c::r).takeWhile digC≠[]:=by simp[List.takeWhile_cons,hd]
  obtain⟨hb1,hb2⟩:=Qk6 ((c::r).takeWhile digC) m hT List.all_takeWhile
  simp only[go_sem,Nat.reduceAdd,Nat.reduceLeDiff,hnum hd,hb1,LTok.enc,LTok.cells_mk]
  cases hn:(numA ((c::r).takeWhile digC) m).2
  ·simp only[go_sem,Int.reduceEq]
   exact⟨LTok.mk 1 pre.length ((c::r).takeWhile digC) (numS 0 ((c::r).takeWhile digC)),rfl,λh=>by cases h⟩
  ·simp only[go_sem,Int.reduceEq]
   exact⟨LTok.mk 1 pre.length ((c::r).takeWhile digC) (numS 0 ((c::r).takeWhile digC)),rfl,λ_=>by rw[hb2 hn]⟩
open Go Go.Am
set_option maxRecDepth 4000
theorem Qmx(L:Str)(hl:L.length<2^58):∀ (n:Nat) (suf pre:Str) (s:St) (i:Nat),suf.length<n->pre++suf=L->i=pre.length->
  Q1p (.val (.str L)) (.val (.int .i64 (i:Int))) s=some (.ret (.val (.tup [.int .i64 ((skipF n i suf).1:Int),.bool (skipF n i suf).2.1])),s):=by
 intro n
 induction n with
 |zero=>intro suf pre s i h;omega
 |succ n ih=>
   intro suf pre s i hf h hi
   subst hi
   have hL:pre.length+suf.length=L.length:=by rw[<-h];simp
   have ho:=λs=>Q3Q pre suf [40,42] (by rw[h];omega) (by decide) pre.length rfl s
   have hrem:=λs=>QbN pre suf (by rw[h];omega) s
   rw[h,Qdy] at ho
   rw[h] at hrem
   rw[QcO]
   match suf,hf,h,hL with
   |[],_,h,hL=>
     have hb:decide ((pre.length:Int)<(L.length:Int))=false:=by simp;simp at hL;omega
     simp only[go_sem,hb]
     rfl
   |c::r,hf,h,hL=>
     simp only[Ya] at hL hf
     have hc:L[pre.length]? = some c:=by rw[<-h];simp
     have hb:decide ((pre.length:Int)<(L.length:Int))=true:=by simp;omega
     simp only[go_sem,Int.reduceNeg,hb,Zb Qk hc,QcQ,ho,hrem]
     unfold skipF
     cases hbl:blankC c
     ·simp only[go_sem,Int.reduceNeg]
      cases hop:lxOpens (c::r)
      ·simp only[go_sem,Int.reduceNeg]
      ·simp only[go_sem,Int.reduceNeg]
       cases hcom:lxCom 0 (c::r) with
       |none=>simp only[go_sem,Int.reduceLT,Int.reduceNeg]
       |some k=>
         have hk:=Q5z _ _ _ hcom
         simp only[Ya] at hk
         have hneg:decide (((pre.length+k:Nat):Int)<0)=false:=by simp;omega
         simp only[go_sem,hneg]
         exact ih ((c::r).drop k) (pre++(c::r).take k) s (pre.length+k) (by simp;omega) (by rw[Yj,List.take_append_drop,h]) (by simp;omega)
     ·simp only[go_sem,Int.reduceNeg]
      rw[wrap64 (by omega) (by omega)]
      exact ih r (pre++[c]) s (pre.length+1) (by omega) (by simp[h]) (by simp)
theorem QdK(pre suf:Str)(hl:(pre++suf).length<2^58)(n:Nat)(hn:suf.length<n)(s:St):cw (.f Q5e) [.str (pre++suf),.int .i64 (pre.length:Int)] s=some (.ret (.val (.tup [.int .i64 ((skipF n pre.length suf).1:Int),.bool (skipF n pre.length suf).2.1])),s):=by
 rw[QgK]
 exact Qmx _ hl n suf pre s _ hn rfl rfl
theorem Qld(L:Str)(hl:L.length<=65536)(s0:St):∀ (fuel:Nat) (suf pre:Str) (acc:List LTok) (x:Slot) (s:St) (i:Nat),suf.length<fuel->pre++suf=L->i=pre.length->AccR Q9 s0 s x (acc.map LTok.enc)->acc.length<=pre.length->acc.length<=16384->
  ∃ nl s',Q2P (.val (.str L)) [.val (.int .i64 0),.val (.int .i64 0),.val (.str [])] x (.val (.int .i64 (i:Int))) s =
    some (.ret (.val (.tup [encS nl ((scanF fuel i suf acc).1.map LTok.enc),badEnc (scanF fuel i suf acc).2.1 (scanF fuel i suf acc).2.2])),s')/\Grew s0 s':=by
 intro fuel
 induction fuel with
 |zero=>intro suf pre acc x s i h;omega
 |succ n ih=>
   intro suf pre acc x s i hf h hi a hacc hmax
   subst hi
   have hL:pre.length+suf.length=L.length:=by rw[<-h];simp
   have hskip:=QdK pre suf (by rw[h];omega) (n+1) hf s
   rw[h] at hskip
   obtain⟨k,hk1,hk2,hk3⟩:=Qa6 (n+1) pre.length suf
   have hok:=Qda (n+1) pre.length suf hf
   obtain⟨hs1,hs2⟩:=Qbh (n+1) pre.length suf acc hf
   obtain⟨nl,hx⟩:=a.av
   rw[QcM]
   cases ho:(skipF (n+1) pre.length suf).2.1
   ·rw[hs1 ho]
    rw[ho] at hskip
    simp only[go_sem,Nat.reduceAdd,Nat.reduceLeDiff,hskip]
    exact⟨true,s,rfl,a.grew⟩
   ·have hok:=hok ho
    have hs2:=hs2 ho
    rw[ho] at hskip
    generalize (skipF (n+1) pre.length suf).1=j at hk2 hs2 hskip
    generalize (skipF (n+1) pre.length suf).2.2=t at hk1 hs2 hok
    have hpt:(pre++suf.take k)++t=L:=by rw[hk1,Yj,List.take_append_drop,h]
    have hpl:(pre++suf.take k).length=j:=by simp;omega
    generalize pre++suf.take k=p at hpt hpl
    have htl:t.length<=suf.length:=by rw[hk1];simp
    have hLp:p.length+t.length=L.length:=by rw[<-hpt];simp
    simp only[go_sem,Nat.reduceAdd,Nat.reduceLeDiff,hskip]
    rcases hok with rfl|⟨c,r,rfl,hbl,hop⟩
    ·rw[hs2 (n+1) (by simp)]
     have hb:decide ((j:Int)=(L.length:Int))=true:=by simp at hLp;simp;omega
     simp only[go_sem,hb,QfD hx]
     exact⟨nl,s,rfl,a.grew⟩
    ·have hb:decide ((j:Int)=(L.length:Int))=false:=by simp at hLp;simp;omega
     rw[hs2 (n+1) (by omega)]
     have hone:=QeZ p (c::r)
     rw[hpt,hpl] at hone
     simp only[go_sem,hb,a.list?]
     unfold scanF
     rw[hbl,hop]
     cases hge:decide (acc.length≥16384)
     ·have hge':decide ((acc.length:Int)=16384)=false:=by simp at hge |-;omega
      simp only[go_sem,hge']
      have hp:=QcJ (c::r) (tildeL acc) (by simp)
      rcases Nat.eq_zero_or_pos acc.length with h0|h0
      case' inl=>
       have hz:decide ((acc.length:Int)>0)=false:=by simp[h0]
       have ht:tildeL acc=false:=by unfold tildeL;rw[decide_eq_false (by omega)];rfl
       rw[ht] at hp |-
       obtain⟨tk,ho1,ho2⟩:=hone false (by simp) (by omega) s
       simp only[go_sem,Nat.reduceAdd,Nat.reduceLeDiff,hz,ho1]
       generalize oneA (c::r) false=z at hp ho1 ho2 |-
      case' inr=>
       have hz:decide ((acc.length:Int)>0)=true:=by simp;omega
       have ht:tildeL acc=decide ((acc.getLastD .zero).text=[126]):=by unfold tildeL;rw[decide_eq_true h0];rfl
       rw[ht] at hp |-
       obtain⟨tk,ho1,ho2⟩:=hone (decide ((acc.getLastD .zero).text=[126])) (by simp) (by omega) s
       simp only[go_sem,hz]
       rw[wrap64 (by omega) (by omega),Qdz a.list? h0]
       simp only[go_sem,Nat.reduceAdd,Nat.reduceLeDiff,ho1,LTok.cells]
       generalize oneA (c::r) (decide ((acc.getLastD .zero).text=[126]))=z at hp ho1 ho2 |-
      all_goals
       obtain⟨e,q⟩:=z
       simp only at hp ho2 |-
       cases he:decide (e=0)
       ·obtain⟨tk1,tk2,tk3,tk4⟩:=tk
        simp only[go_sem,Nat.reduceAdd,Nat.reduceLeDiff,LTok.enc,LTok.cells_mk,he]
        exact⟨true,s,rfl,a.grew⟩
       ·obtain⟨hp1,hp2,hp3⟩:=hp (of_decide_eq_true he)
        have ho3:=ho2 (of_decide_eq_true he)
        obtain⟨q1,q2,q3,q4⟩:=q
        simp only at hp1 hp2 hp3 ho3
        subst ho3
        obtain⟨x',s',ha,a'⟩:=tokAcc (b:=⟨q1,j,q3,q4⟩) a (by omega)
        have ht1:=hp1.length_le
        have ht0:0<q3.length:=List.length_pos_iff.2 hp2
        simp only[Ya] at ht1 htl
        simp only[Ya] at hLp
        simp only[LTok.enc,LTok.cells_mk] at ha
        simp only[go_sem,Nat.reduceAdd,Nat.reduceLeDiff,LTok.enc,LTok.cells_mk,he,ha]
        rw[wrap64 (by omega) (by omega)]
        exact ih ((c::r).drop q3.length) (p++(c::r).take q3.length) _ x' s' (j+q3.length) (by simp;omega) (by rw[Yj,List.take_append_drop,hpt]) (by simp;omega) a' (by simp;omega) (by simp at hge |-;omega)
     ·have hge':decide ((acc.length:Int)=16384)=true:=by simp at hge |-;omega
      simp only[go_sem,hge']
      exact⟨true,s,rfl,a.grew⟩
theorem QdJ(L:Str)(hl:L.length<2^60)(s:St):∃ nl s',cw (.f Q5d) [.str L] s=some (.ret (.val (.tup [encS nl ((lxScan L).1.map LTok.enc),badEnc (lxScan L).2.1 (lxScan L).2.2])),s')/\Grew s s':=by
 rw[QgJ]
 unfold lxScan
 simp only[go_sem,Nat.reduceAdd,Nat.reduceLeDiff]
 cases hb:decide ((L.length:Int)>65536)
 ·simp only[go_sem,Int.reduceNeg]
  exact Qld L (by simp at hb;omega) s (L.length+1) L [] [] (.val .nils) s 0 (by omega) rfl rfl (AccR.nil _ _) (by simp) (by simp)
 ·simp only[go_sem,Int.reduceNeg]
  exact⟨true,s,rfl,.refl s⟩
end Go.Proofs.YtgfhplcmcdimiaaGreatDoor