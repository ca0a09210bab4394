/- A part of the proof: STree6, STree7, SShow1, PShow, SShow2, SShow3, SShow4, SRef1, PTree2. -/
import Derived.Test.YtgfhplcmcdimiaaGreatDoorM3
import Derived.Test.YtgfhplcmcdimiaaGreatDoorM6
import Derived.Test.YtgfhplcmcdimiaaGreatDoorM7
import Derived.Test.YtgfhplcmcdimiaaGreatDoorM8
import Derived.Test.YtgfhplcmcdimiaaGreatDoorM9
import Derived.Lib.ItoaNum
import Derived.Lib.ItoaLen
import Derived.Lib.IndexMore
set_option linter.unusedVariables false
set_option linter.unusedSimpArgs false
namespace Go.Am
open Go
abbrev TkB:=List Nat × List (Nat × TypeId)
def St.tb(s:St):TkB:=(s.toks,s.bl)
def lay0(L:List Obj)(cs:List Slot)(g:List Obj)(T:TkB):St:=⟨L++(.var cs::g),T.1,T.2⟩
def lay(L:List Obj)(cs:List Slot)(g:List Obj)(o:Obj)(a:List Obj)(T:TkB):St:=⟨L++(.var cs::(g++(o::a))),T.1,T.2⟩
def reL(st:LSt)(p:Option AExit):Obj→Obj
 |.loop _ _ f e ps a b=>.loop st p f e ps a b
 |o=>o
def isReady:Obj→Bool
 |.loop .ready none _ _ _ _ _=>true
 |_=>false
theorem Q6I{o:Obj}(h:isReady o=true):∃ f e ps a b,o = .loop .ready none f e ps a b:=by
 cases o with
 |loop st p f e ps a b=>cases st <;> cases p <;> first | exact⟨f,e,ps,a,b,rfl⟩ | cases h
 |_=>cases h
section
variable (L:List Obj) (cs cs':List Slot) (g a:List Obj) (o:Obj) (T:TkB) (t:TI) (p:Option AExit) (st:LSt)
@[go_sem] theorem QkK:ldV t false (lay0 L cs g T) (.val (.vp L.length 0))=ofSlots t (cs.take t.size):=by
  simp[ldV,lay0]
@[go_sem] theorem QwR:ldV t false (lay L cs g o a T) (.val (.vp L.length 0))=ofSlots t (cs.take t.size):=QkK ..
variable {cs cs'} in
@[go_sem] theorem QgJ(h:cs'.length=cs.length):stV (lay0 L cs g T) (.val (.vp L.length 0)) cs'=some (lay0 L cs' g T):=by
  simp[stV,lay0,putAt,h]
variable {cs cs'} in
@[go_sem] theorem QdC(h:cs'.length=cs.length):stV (lay L cs g o a T) (.val (.vp L.length 0)) cs'=some (lay L cs' g o a T):=QgJ _ _ _ h
theorem Q9M:(lay L cs g o a T).locs[L.length+1+g.length]? = some o:=by
 simp only[lay]
 rw[List.getElem?_append_right (by omega),show L.length+1+g.length - L.length=g.length+1 by omega,List.getElem?_cons_succ,List.getElem?_append_right (by omega)]
 simp
theorem QhR(o':Obj):(lay L cs g o a T).locs.set (L.length+1+g.length) o'=L++(.var cs::(g++(o'::a))):=by
 simp only[lay]
 rw[List.set_append_right _ _ (by omega),show L.length+1+g.length - L.length=g.length+1 by omega,List.set_cons_succ,List.set_append_right _ _ (by omega)]
 simp
variable {o} in
@[go_sem] theorem QbS(h:isReady o=true):beginL (L.length+1+g.length) (lay L cs g o a T)=some (lay L cs g (reL .busy none o) a T):=by
  obtain⟨f,e,ps,x,y,rfl⟩:=Q6I h
  unfold beginL
  rw[Q9M]
  simp only[QhR];rfl
variable {o} in
theorem Q7Z(h:isReady o=true)(q:LSt)(r:Option AExit):setLoop (L.length+1+g.length) q r (lay L cs g (reL st p o) a T)=some (lay L cs g (reL q r o) a T):=by
 obtain⟨f,e,ps,x,y,rfl⟩:=Q6I h
 unfold setLoop
 rw[Q9M]
 simp only[reL,QhR];rfl
variable {o} in
theorem Q5Q(h:isReady o=true):reL .ready none o=o:=by
 obtain⟨f,e,ps,x,y,rfl⟩:=Q6I h
 rfl
variable {o} in
theorem QfE(h:isReady o=true)(hs:st≠.busy)(kn kr:St→Res)(ke:Nat→St→Res):endX (L.length+1+g.length) (lay L cs g (reL st p o) a T) kn kr ke=pendX p kn kr ke (lay L cs g (reL .exhausted p o) a T):=by
 have e1:=Q7Z L cs g a T p st h .exhausted p
 obtain⟨f,e,ps,x,y,rfl⟩:=Q6I h
 simp only[reL] at e1 ⊢
 unfold endX
 rw[Q9M]
 cases st <;> first | (exact absurd rfl hs) | (simp only[e1];rfl)
theorem QhQ:(lay0 L cs g T).locs.length=L.length+1+g.length:=by simp[lay0];omega
theorem QhP:(lay0 L cs g T).addLoc o=lay L cs g o [] T:=by simp[lay0,lay,St.addLoc]
end
theorem addVar(s:St)(cs:List Slot):s.addLoc (.var cs)=lay0 s.locs cs [] s.tb:=rfl
theorem Grew.lay0{s:St}(cs:List Slot)(g:List Obj){T:TkB}(h:∃ b,T.1=s.toks++b):Grew s (lay0 s.locs cs g T):=⟨⟨_,rfl⟩,h⟩
theorem Grew.lay{s:St}(cs:List Slot)(g:List Obj)(o:Obj)(a:List Obj){T:TkB}(h:∃ b,T.1=s.toks++b):Grew s (lay s.locs cs g o a T):=⟨⟨_,rfl⟩,h⟩
theorem Grew.layE{s:St}(cs:List Slot)(g:List Obj)(o:Obj)(a:List Obj):Grew s (Am.lay s.locs cs g o a s.tb):=⟨⟨_,rfl⟩,⟨[],by simp[Am.lay,St.tb]⟩⟩
theorem Grew.of_lay0{L:List Obj}{cs:List Slot}{T:TkB}{s:St}(h:Grew (Am.lay0 L cs [] T) s):∃ (g:List Obj) (T':TkB),s=Am.lay0 L cs g T'∧∃ b,T'.1=T.1++b:=by
 obtain⟨⟨a,ha⟩,b,hb⟩:=h
 refine⟨a,s.tb,?_,b,hb⟩
 obtain⟨l,t,u⟩:=s
 simp only[Am.lay0,St.tb] at ha ⊢
 rw[ha];simp
end Go.Am
namespace Go.Proofs.YtgfhplcmcdimiaaGreatDoor
open Go Go.Am
set_option linter.unusedVariables false
set_option maxRecDepth 4000
def cstep(most:Int)(n:TNode)(k:Int):Int × Bool:=(bif n.isNode then IntKind.i64.wrap (k+1) else k,!decide ((bif n.isNode then IntKind.i64.wrap (k+1) else k)≥most))
theorem Q92(most:Int):∀ (l:List TNode) (n:Nat),(n:Int)<most→n+l.length<2^62→walk (cstep most) l n=(if ((n+countN l:Nat):Int)<most then (((n+countN l:Nat):Int),true) else (most,false))
 |[],n,h,_=>by simp[walk,countN,h]
 |u::l,n,h,hb=>by
   simp only[List.length_cons] at hb
   have hw:IntKind.i64.wrap ((n:Int)+1)=((n+1:Nat):Int):=by rw[wrap64 (by omega) (by omega)];rfl
   simp only[walk,cstep]
   cases hu:u.isNode
   ·have e:countN (u::l)=countN l:=by simp[countN,hu]
    have e2:(!decide ((n:Int)≥most))=true:=by simpa using h
    simp only[cond_false,e2,cond_true,e]
    exact Q92 most l n h (by omega)
   ·have e:countN (u::l)=countN l+1:=by simp[countN,hu]
    simp only[cond_true,hw,e]
    by_cases h2:((n+1:Nat):Int)<most
    ·have e2:(!decide (((n+1:Nat):Int)≥most))=true:=by simpa using h2
     rw[e2,cond_true,Q92 most l (n+1) h2 (by omega),show n+1+countN l=n+(countN l+1) by omega]
    ·have e2:(!decide (((n+1:Nat):Int)≥most))=false:=by simpa using h2
     rw[e2,cond_false,if_neg (by omega)]
     congr 1;omega
def rstep(n:TNode)(b:TBad):TBad × Bool:=bif decide (n.bad.kind=0) then (b,true) else (n.bad,false)
theorem QcM:∀ (l:List TNode) (b:TBad),walk rstep l b=bif l.all (λn=>decide (n.bad.kind=0)) then (b,true) else (firstBad l,false)
 |[],b=>rfl
 |u::l,b=>by
   simp only[walk,rstep,List.all_cons,firstBad]
   cases hu:decide (u.bad.kind=0)
   ·rfl
   ·simp only[cond_true,Bool.true_and]
    exact QcM l b
theorem Q98:∀ l:List TNode,l.all (λn=>decide (n.bad.kind=0))=true→firstBad l = .zero
 |[],_=>rfl
 |u::l,h=>by
   rw[List.all_cons,Bool.and_eq_true] at h
   rw[firstBad,h.1,cond_true]
   exact Q98 l h.2
theorem QeC(nd:TNode)(r:List AV):boxCells (C.ti Z2) (.val (nd.thing r))=some ((nd.thing r).cells.map .val):=by cases nd <;> simp only[go_sem,Nat.reduceAdd,TNode.thing]
theorem QeD(nd:TNode)(r:List AV)(a b c d e f g h:Slot):putAt [a,b,c,d,e,f,g,h] 0 ((nd.thing r).cells.map .val)=some ((nd.thing r).cells.map .val):=by cases nd <;> rfl
theorem Qcy(nd:TNode)(r:List AV):aggO (C.ti Z2) (avs (List.take 8 ((nd.thing r).cells.map .val)))=some (.val (nd.thing r)):=by cases nd <;> kernel_rfl
structure SeqOK (h:AV) (nodes:List TNode):Prop where
 ok:∃ g l,h = .fn g l∧(C.ext g).isSome=false∧∀ (σ:Type) (step:TNode→σ→σ × Bool) (R:σ × Bool→St→Prop) (P:TNode→Prop) (loc:Nat),YOK step R P loc→(∀ n ∈ nodes,P n)→∀ st s,R (st,true) s→
  ∃ v s',cw (.f g) (.yld loc::l) s=some (.ret v,s')∧R (walk step nodes st) s'
theorem SeqOK.range{h:AV}{nodes:List TNode}(H:SeqOK h nodes){σ:Type}{step:TNode→σ→σ × Bool}{R:σ × Bool→St→Prop}{P:TNode→Prop}{loc:Nat}(hY:YOK step R P loc)(hP:∀ n ∈ nodes,P n){st:σ}{s:St}(hR:R (st,true) s)(k:St→Res) :
  ∃ s',rangeC C cw (.val h) loc s k=k s'∧R (walk step nodes st) s':=by
 obtain⟨g,l,rfl,he,H⟩:=H.ok
 obtain⟨v,s',e,g'⟩:=H σ step R P loc hY hP st s hR
 refine⟨s',?_,g'⟩
 unfold rangeC
 have:tgtV (.val (.fn g l)) []=some (.f g,l):=rfl
 rw[this]
 simp only[he,cond_false,e]
 rfl
theorem QaA(l:List Dec)(nl:Bool)(s:St)(h:Dec.sizes l<2^40):∃ q,cw (.f Q5l) [encS nl (l.map Dec.enc)] s=some (.ret (.val q),s)∧SeqOK q (nodesDecs false l):=by
 refine⟨.fn Q40 [.cp [encS nl (l.map Dec.enc)]],?_,⟨_,_,rfl,by kernel_rfl,λσ step R P loc hY hP st s hR=>?_⟩⟩
 ·rw[QcH];simp only[go_sem]
 ·obtain⟨s',e,g⟩:=(QcN hY (Dec.sizes l)).2.2 l (Nat.le_refl _) h (encS nl (l.map Dec.enc)) false (by simp only[go_sem]) hP st s hR
  rw[Qaz];simp only[go_sem,Nat.reduceAdd,Nat.reduceLeDiff,e]
  exact⟨_,s',rfl,g⟩
theorem Q8V(t:Exp)(s:St)(h:t.size<2^40):∃ q,cw (.f Q3p) [t.enc] s=some (.ret (.val q),s)∧SeqOK q (nodesExp t):=by
 refine⟨.fn Q2C [.cp t.cells],?_,⟨_,_,rfl,by kernel_rfl,λσ step R P loc hY hP st s hR=>?_⟩⟩
 ·rw[Qa4];simp only[go_sem]
 ·obtain⟨s',e,g⟩:=(QcN hY t.size).1 t (Nat.le_refl _) h [] hP st s hR
  rw[List.append_nil] at e
  rw[Q8U];simp only[go_sem,Nat.reduceAdd,Nat.reduceLeDiff,e]
  exact⟨_,s',rfl,g⟩
theorem Qay(t:Pat)(s:St)(h:t.size<2^40):∃ q,cw (.f Q5k) [t.enc] s=some (.ret (.val q),s)∧SeqOK q (nodesPat t):=by
 refine⟨.fn Q3Z [.cp t.cells],?_,⟨_,_,rfl,by kernel_rfl,λσ step R P loc hY hP st s hR=>?_⟩⟩
 ·rw[QcG];simp only[go_sem]
 ·obtain⟨s',e,g⟩:=Q49 hY t.size t [] (Nat.le_refl _) h hP st s hR
  rw[List.append_nil] at e
  rw[Qax];simp only[go_sem,Nat.reduceAdd,Nat.reduceLeDiff,e]
  exact⟨_,s',rfl,g⟩
theorem QcD{h:AV}{nodes:List TNode}(H:SeqOK h nodes)(most:Nat)(hm:0<most)(hl:nodes.length<2^61)(s:St):Ret (cw (.f Q4w) [h,.int .i64 most] s) s (.int .i64 (min (countN nodes) most:Nat)):=by
 let o:=Q6e (.val (.cp [.int .i64 most])) (.val (.vp s.locs.length 0))
 have ho:isReady o=true:=rfl
 let R:Int × Bool→St→Prop:=λp s1=>s1=lay s.locs [.val (.int .i64 p.1)] [] (bif p.2 then o else reL .done (some (.exit 0)) o) [] s.tb
 have hY:YOK (cstep most) R (λ_=>True) (s.locs.length+1):=by
  rintro nd r st s1 - rfl
  simp only[cond_true]
  have b0:=Q9M s.locs [.val (.int .i64 st)] [] [] o s.tb
  rw[List.length_nil,Nat.add_zero] at b0
  rw[cw,QdM b0]
  rw[QbE]
  have b1:=QbS s.locs [.val (.int .i64 st)] [] [] s.tb ho
  have b2:∀ n st p q r,setLoop (s.locs.length+1) q r (lay s.locs [.val (.int .i64 n)] [] (reL st p o) [] s.tb)=_:=λn st p q r=>Q7Z s.locs [.val (.int .i64 n)] [] [] s.tb p st ho q r
  simp only[List.length_nil,Nat.add_zero] at b1
  simp only[go_sem,Nat.reduceAdd,Nat.reduceLeDiff,QeC,QeD,Qcy,b1]
  simp only[go_sem,Nat.reduceAdd,Nat.reduceLeDiff,QS (show (Slot.val (nd.thing r)).av=some (nd.thing r) from rfl),Q8W]
  have b3:∀ n st p v',stV (lay s.locs [.val (.int .i64 n)] [] (reL st p o) [] s.tb) (.val (.vp s.locs.length 0)) [.val v']=_:=λn st p v'=>QdC s.locs [] [] (reL st p o) s.tb rfl
  cases hn:nd.isNode
  ·simp only[go_sem,b2,cstep,hn]
   cases hd:decide (st≥(most:Int))
   ·simp only[go_sem];exact⟨_,rfl,by simp only[R,Bool.not_false,cond_true,Q5Q ho]⟩
   ·simp only[go_sem];exact⟨_,rfl,by simp only[R,Bool.not_true,cond_false]⟩
  ·simp only[go_sem,b2,b3,cstep,hn]
   cases hd:decide (IntKind.i64.wrap (st+1)≥(most:Int))
   ·simp only[go_sem];exact⟨_,rfl,by simp only[R,Bool.not_false,cond_true,Q5Q ho]⟩
   ·simp only[go_sem];exact⟨_,rfl,by simp only[R,Bool.not_true,cond_false]⟩
 rw[Qfb]
 simp only[go_sem,Nat.reduceAdd,addVar,QhQ,QhP]
 obtain⟨s',e,g⟩:=H.range hY (λ_ _=>trivial) (st:=0) (s:=lay s.locs [.val (.int .i64 0)] [] o [] s.tb) rfl (λs_10=>endX (s.locs.length+1) s_10 (λs_11=>bind1 (ldV (C.ti Q2) false s_11 (.val (.vp s.locs.length 0))) λv16=>some (.ret v16,s_11)) (λs_12=>some (.ret (.val (.int .i64 0)),s_12)) (λj s_13=>bif Nat.beq j 0 then (bind1 (ldV (C.ti Q2) false s_13 (.val (.vp s.locs.length 0))) λv16_1=>some (.ret v16_1,s_13)) else none))
 refine (congrArg (λr=>Ret r s (.int .i64 (min (countN nodes) most:Nat))) (Eq.trans rfl e)).mpr ?_
 have:=Q92 most nodes 0 (by omega) (by omega)
 rw[Nat.zero_add] at this
 rw[show ((0:Nat):Int)=0 from rfl] at this
 rw[this] at g
 have b2:∀ n st p,st≠.busy→∀ kn kr ke,endX (s.locs.length+1) (lay s.locs [.val (.int .i64 n)] [] (reL st p o) [] s.tb) kn kr ke=_:=λn st p hs kn kr ke=>QfE s.locs [.val (.int .i64 n)] [] [] s.tb p st ho hs kn kr ke
 subst g
 by_cases hc:(countN nodes:Int)<most
 ·rw[if_pos hc]
  simp only[cond_true]
  rw[←Q5Q ho,b2 _ _ _ (by intro h;cases h),show min (countN nodes) most=countN nodes by omega]
  simp only[go_sem,Nat.reduceAdd,Nat.reduceLeDiff,pendX]
  exact Ret.mk (.layE _ _ _ _)
 ·rw[if_neg hc]
  simp only[cond_false]
  rw[b2 _ _ _ (by intro h;cases h),show min (countN nodes) most=most by omega]
  simp only[go_sem,Nat.reduceAdd,Nat.reduceLeDiff,pendX,Nat.beq]
  exact Ret.mk (.layE _ _ _ _)
def NumOK(d:AV)(n:Int):Prop:=∃ g l,d = .fn g l∧∀ s,cw (.f g) l s=some (.ret (.val (.int .i64 n)),s)
theorem Qkl(b:TBad):aggO (C.ti Qi) (avs (List.take 3 (b.cells.map .val)))=some (.val b.enc):=by kernel_rfl
theorem Q4U{h d:AV}{nodes:List TNode}{n:Int}(H:SeqOK h nodes)(HD:NumOK d n)(hl:nodes.length<2^61)(hn:∀ nd ∈ nodes,nd.name.length<2^40)(s:St):Ret (cw (.f Q1F) [h,d] s) s (rightN nodes n).enc:=by
 rw[Qfe]
 obtain⟨s1,e1,g1⟩:=QcD H 8193 (by decide) hl (s.addLoc (.var (TBad.zero.cells.map .val)))
 obtain⟨gf,gl,rfl,hd⟩:=HD
 rw[addVar] at e1 g1
 obtain⟨g,T,rfl,hT⟩:=g1.of_lay0
 have e0:s.addLoc (.var (List.map .val (C.ti Qi).zero))=lay0 s.locs (TBad.zero.cells.map .val) [] s.tb:=rfl
 rw[e0]
 rw[show ((8193:Nat):Int)=8193 from rfl] at e1
 have k1:∀ v:List AV,v.length=3→∀ r,Ret (some (.ret (.val r),lay0 s.locs (v.map .val) g T)) s r:=λv _ r=>Ret.mk (.lay0 _ _ hT)
 have k2:∀ (v:List AV) o a r,Ret (some (.ret (.val r),lay s.locs (v.map .val) g o a T)) s r:=λv o a r=>Ret.mk (.lay _ _ _ _ hT)
 have hst0:∀ x y z:AV,stV (lay0 s.locs (TBad.zero.cells.map .val) g T) (.val (.vp s.locs.length 0)) [.val x,.val y,.val z]=some (lay0 s.locs ([x,y,z].map .val) g T):=λx y z=>QgJ _ _ _ rfl
 have hst:∀ (c:TBad) o x y z,stV (lay s.locs (c.cells.map .val) g o [] T) (.val (.vp s.locs.length 0)) [.val x,.val y,.val z]=some (lay s.locs ([x,y,z].map .val) g o [] T):=λc o x y z=>QdC _ _ _ _ _ rfl
 have hb:∀ x y z:AV,aggO (C.ti Qi) (avs (List.take 3 ([x,y,z].map .val)))=some (.val (.agg [x,y,z])):=λx y z=>by kernel_rfl
 simp only[go_sem,Nat.reduceAdd,Nat.reduceLeDiff,e1,QS (show (Slot.val h).av=some h from rfl),hd,hst0,hb]
 have hc:decide (((min (countN nodes) 8193:Nat):Int)>8192)=decide (countN nodes>8192):=by simp only[gt_iff_lt];congr 1;rw[eq_iff_iff];omega
 rw[hc]
 unfold rightN
 cases decide (countN nodes>8192) with
 |true=>simp only[go_sem];exact k1 [_,_,_] rfl _
 |false=>
   cases decide (n>100) with
   |true=>simp only[go_sem];exact k1 [_,_,_] rfl _
   |false=>
     simp only[go_sem,QhQ,QhP]
     let o:=Q6f (.val (.vp s.locs.length 0))
     have ho:isReady o=true:=rfl
     let R:TBad × Bool→St→Prop:=λp s1=>s1=lay s.locs (p.1.cells.map .val) g (bif p.2 then o else reL .done (some .ret) o) [] T
     have hY:YOK rstep R (λnd=>nd.name.length<2^40) (s.locs.length+1+g.length):=by
      rintro nd r st s1 hP rfl
      simp only[cond_true]
      rw[cw,QdM (Q9M _ _ _ _ _ _),QbF]
      have b1:=QbS s.locs (st.cells.map .val) g [] T ho
      have b2:∀ (c:List AV) st p q r,setLoop (s.locs.length+1+g.length) q r (lay s.locs (c.map .val) g (reL st p o) [] T)=_:=λc st p q r=>Q7Z s.locs (c.map .val) g [] T p st ho q r
      simp only[go_sem,Nat.reduceAdd,Nat.reduceLeDiff,QeC,QeD,Qcy,b1]
      simp only[go_sem,QS (show (Slot.val (nd.thing r)).av=some (nd.thing r) from rfl),Q8p _ _ _ hP]
      unfold rstep
      generalize nd.bad=bd
      obtain⟨k,a,nm⟩:=bd
      obtain⟨k0,a0,nm0⟩:=st
      have b3:∀ p x y z x' y' z',stV (lay s.locs [.val x',.val y',.val z'] g (reL .busy p o) [] T) (.val (.vp s.locs.length 0)) [.val x,.val y,.val z]=some (lay s.locs ([x,y,z].map .val) g (reL .busy p o) [] T):=λp x y z x' y' z'=>QdC _ _ _ _ _ rfl
      have b4:=b2 [.int .i64 k0,.int .i64 a0,.str nm0]
      have b5:=b2 [.int .i64 k,.int .i64 a,.str nm]
      simp only[List.map] at b3 b4 b5
      simp only[go_sem,Nat.reduceAdd,Nat.reduceLeDiff,TBad.enc,TBad.cells,b3,b4,b5]
      cases hk:decide (k=0)
      ·simp only[go_sem];exact⟨_,rfl,by simp only[R,cond_false];rfl⟩
      ·simp only[go_sem];exact⟨_,rfl,by simp only[R,cond_true,Q5Q ho];rfl⟩
     obtain⟨s',e,gR⟩:=H.range hY hn (st:=TBad.zero) (s:=lay s.locs (TBad.zero.cells.map .val) g o [] T) rfl (λs_11=>endX (s.locs.length+1+g.length) s_11 (λs_12=>bindS (stV s_12 (.val (.vp s.locs.length 0)) [.val (.int .i64 0),.val (.int .i64 0),.val (.str [])]) λs_15=>bind1 (ldV (C.ti Qi) false s_15 (.val (.vp s.locs.length 0))) λv=>some (.ret v,s_15)) (λs_13=>bind1 (ldV (C.ti Qi) false s_13 (.val (.vp s.locs.length 0))) λv=>some (.ret v,s_13)) (λj s_14=>bif Nat.beq j 0 then ( bindS (stV s_14 (.val (.vp s.locs.length 0)) [.val (.int .i64 0),.val (.int .i64 0),.val (.str [])]) λs_16=>bind1 (ldV (C.ti Qi) false s_16 (.val (.vp s.locs.length 0))) λv=>some (.ret v,s_16)) else ( (none:Res))))
     refine (congrArg (λr=>Ret r s (firstBad nodes).enc) e).mpr ?_
     have b2:∀ (c:List AV) st p,st≠.busy→∀ kn kr ke,endX (s.locs.length+1+g.length) (lay s.locs (c.map .val) g (reL st p o) [] T) kn kr ke=_:=λc st p hs kn kr ke=>QfE s.locs (c.map .val) g [] T p st ho hs kn kr ke
     rw[QcM] at gR
     simp only[R] at gR
     subst gR
     cases ha:nodes.all λnd=>decide (nd.bad.kind=0)
     ·simp only[cond_false]
      rw[b2 _ _ _ (by intro h;cases h)]
      simp only[go_sem,pendX,Qkl]
      exact k2 _ _ _ _
     ·simp only[cond_true]
      rw[←Q5Q ho,b2 _ _ _ (by intro h;cases h),Q98 _ ha]
      simp only[go_sem,Nat.reduceAdd,Nat.reduceLeDiff,pendX,hst,hb]
      exact k2 [_,_,_] _ _ _
end Go.Proofs.YtgfhplcmcdimiaaGreatDoor
namespace Go.Am
open Go
def varOf(p:Pat):List Str:=bif decide (p.kind=2) || decide (p.kind=6) then [p.name] else []
mutual
def varsPat:Pat→List Str
 |.mk k a s n l b=>varOf (.mk k a s n l b)++varsPats l
def varsPats:List Pat→List Str
 |[]=>[]
 |t::l=>varsPat t++varsPats l
end
theorem TNode.ok_name{n:TNode}(h:n.ok):n.name.length<2^40:=by
 cases n <;> first | exact h | exact h.1
@[go_sem] theorem QwH(f:FuncId)(v:AV):fnS f [.val v]=some (.val (.fn f [v])):=id rfl
end Go.Am
namespace Go.Proofs.YtgfhplcmcdimiaaGreatDoor
open Go Go.Am
set_option linter.unusedVariables false
set_option maxRecDepth 4000
section
variable (R:Nat→List Str→St→Prop) (loc:Nat)
variable {R} {loc}
end
theorem QcB(l:List Dec)(nl:Bool)(s:St)(h:Dec.sizes l<2^26)(H:∀ n ∈ nodesDecs false l,n.ok):Ret (cw (.f Q6V) [encS nl (l.map Dec.enc)] s) s (rightN (nodesDecs false l) (deepDecs l 0)).enc:=by
 obtain⟨q,e1,hq⟩:=QaA l nl s (by omega)
 have hlen:=Q3S false l
 have hd:NumOK (.fn Q5j [.cp [encS nl (l.map Dec.enc)]]) (deepDecs l 0):=⟨_,_,rfl,λs=>by
  rw[QcA];simp only[go_sem,Nat.reduceAdd,Nat.reduceLeDiff,Qa3 l nl s (by omega)]⟩
 obtain⟨s',e2,g2⟩:=Q4U hq hd (by omega) (λnd hn=>TNode.ok_name (H nd hn)) s
 revert e2
 generalize rightN _ _=b
 intro e2
 obtain⟨k,a,nm⟩:=b
 rw[Qfa];simp only[go_sem,Nat.reduceAdd,Nat.reduceLeDiff,e1,QS (show (Slot.val q).av=some q from rfl),e2,TBad.enc,TBad.cells]
 exact Ret.mk g2
theorem Qa0(t:Exp)(s:St)(h:t.size<2^26)(H:∀ n ∈ nodesExp t,n.ok):Ret (cw (.f Q4u) [t.enc] s) s (rightN (nodesExp t) (deepExp t)).enc:=by
 obtain⟨q,e1,hq⟩:=Q8V t s (by omega)
 have hlen:=Q2V t
 have hd:NumOK (.fn Q3n [.cp t.cells]) (deepExp t):=⟨_,_,rfl,λs=>by
  rw[Q9Z];simp only[go_sem,Nat.reduceLeDiff,Qaw t s (by omega)]⟩
 obtain⟨s',e2,g2⟩:=Q4U hq hd (by omega) (λnd hn=>TNode.ok_name (H nd hn)) s
 revert e2
 generalize rightN _ _=b
 intro e2
 obtain⟨k,a,nm⟩:=b
 rw[QbC];simp only[go_sem,Nat.reduceAdd,Nat.reduceLeDiff,e1,QS (show (Slot.val q).av=some q from rfl),e2,TBad.enc,TBad.cells]
 exact Ret.mk g2
theorem Qa2(t:Pat)(s:St)(h:t.size<2^26)(H:∀ n ∈ nodesPat t,n.ok):Ret (cw (.f Q4v) [t.enc] s) s (rightN (nodesPat t) (deepPat t)).enc:=by
 obtain⟨q,e1,hq⟩:=Qay t s (by omega)
 have hlen:=Q2W t
 have hd:NumOK (.fn Q3o [.cp t.cells]) (deepPat t):=⟨_,_,rfl,λs=>by
  rw[Qa1];simp only[go_sem,Nat.reduceLeDiff,Q3t _ t s (Nat.le_refl _) (by omega)]⟩
 obtain⟨s',e2,g2⟩:=Q4U hq hd (by omega) (λnd hn=>TNode.ok_name (H nd hn)) s
 revert e2
 generalize rightN _ _=b
 intro e2
 obtain⟨k,a,nm⟩:=b
 rw[QbD];simp only[go_sem,Nat.reduceAdd,Nat.reduceLeDiff,e1,QS (show (Slot.val q).av=some q from rfl),e2,TBad.enc,TBad.cells]
 exact Ret.mk g2
end Go.Proofs.YtgfhplcmcdimiaaGreatDoor
namespace Go.Am
open Go
theorem HeldIs.congr{e:TypeId}{s s':St}{x:Slot}{l:List AV}{h:List Nat}(a:HeldIs e s x l h)(ht:s'.toks=s.toks):HeldIs e s' x l h:=a.stab λk _=>by rw[ht]
theorem Q9q{e:TypeId}{t:TI}{s s':St}{x y x':Slot}(h:appendS e t s x y=some (x',s'))(hx:∀ l,x≠.full l):(∀ l,x'≠.full l)∧s'.bl=s.bl:=by
 unfold appendS at h
 split at h
 ·split at h
  ·cases h;exact⟨hx,rfl⟩
  ·cases h
 ·cases ho:okSz t.size _ with
  |false=>rw[ho] at h;cases h
  |true=>
    rw[ho] at h
    simp only[cond_true] at h
    split at h
    ·rename_i k e' l
     cases hq:okSz t.size l with
     |false=>rw[hq] at h;cases h
     |true=>
       rw[hq] at h
       simp only[cond_true] at h
       split at h
       ·cases h;exact⟨λl hl=>(by cases hl),rfl⟩
       ·cases h
    ·exact absurd rfl (hx _)
    ·split at h
     ·cases h;exact⟨λl hl=>(by cases hl),rfl⟩
     ·cases h
    ·cases h
 ·cases h
end Go.Am
namespace Go.Proofs.YtgfhplcmcdimiaaGreatDoor
open Go Go.Am
set_option linter.unusedVariables false
set_option maxRecDepth 4000
theorem Q42{f:Nat}{g:List AV→St→Option (Slot × St)}(e:C.ext f=some g){l:List AV}{s s':St}{v:Slot}(h:g l s=some (v,s')):cw (.f f) l s=some (.ret v,s'):=by
 rw[cw,Q5];unfold callR;rw[e];simp only[h]
theorem Q0f(l:List UInt8):(strAV l).length=l.length:=by simp[strAV]
theorem Qez(a b:List UInt8):strAV (a++b)=strAV a++strAV b:=by simp[strAV]
theorem Q7I(l:List UInt8):∀ v ∈ strAV l,v.cells.length=1:=λv hv=>by obtain⟨b,_,rfl⟩:=List.mem_map.1 hv;rfl
theorem Q94:∀ l:List UInt8,bytesAV (strAV l)=some l
 |[]=>rfl
 |b::r=>by
   have:=Q94 r
   have hb:=b.toNat_lt
   simp only[strAV,List.map_cons,bytesAV] at this ⊢
   rw[if_pos ⟨by omega,by omega⟩,this]
   simp
structure BldIs (s:St) (loc:Nat) (bs:List UInt8) (h:List Nat):Prop where
 bl:isBld QL s loc=true
 cells:∃ a x,s.locs[loc]? = some (.var [a,x])∧(a = .val .nilp∨a = .val (.vp loc 0))∧HeldIs Qg s x (strAV bs) h∧∀ l,x≠.full l
theorem QaD{s:St}{loc:Nat}{bs:List UInt8}{h:List Nat}(H:BldIs s loc bs h):∃ s' x,cw (.f Zo) [.vp loc 0] s=some (.ret (.val (.tup [])),s')∧s'.locs[loc]? = some (.var [.val (.vp loc 0),x])∧HeldIs Qg s' x (strAV bs) h∧(∀ l,x≠.full l)∧Moves [loc] h h s s'∧isBld QL s' loc=true:=by
 obtain⟨hb,a,x,hl,ha,hx,hk⟩:=H
 have e:C.ext Zo=some (extCopyCheck QL):=by kernel_rfl
 rcases ha with rfl | rfl
 ·refine⟨{ s with locs:=s.locs.set loc (.var [.val (.vp loc 0),x]) },x,Q42 e ?_,?_,hx.congr rfl,hk,(Moves.refl _ _ s).setLoc (.inl (by simp)) _,hb⟩
  ·simp only[extCopyCheck,hb,cond_true,hl]
  ·exact List.getElem?_set_self (List.getElem?_eq_some_iff.1 hl).1
 ·refine⟨s,x,Q42 e ?_,hl,hx,hk,.refl _ _ s,hb⟩
  simp only[extCopyCheck,hb,cond_true,hl,Nat.beq_refl]
theorem Q3r{s:St}{loc:Nat}{bs:List UInt8}{h:List Nat}(H:BldIs s loc bs h)(t:List UInt8)(hl:bs.length+t.length<2^40) :
  ∃ s' h',cw (.f Z0) [.vp loc 0,.str t] s=some (.ret (.val (.tup [.int .i64 t.length,.nili])),s')∧BldIs s' loc (bs++t) h'∧Moves [loc] h h' s s':=by
 obtain⟨s1,x,e1,l1,x1,k1,m1,b1⟩:=QaD H
 have z1:(C.ti Qg).size=1:=by kernel_rfl
 have z2:(C.ti Qg).bytes=1:=by kernel_rfl
 obtain⟨x',s2,h',e2,x2,l2,m2⟩:=x1.append (m:=strAV t) (y:=.val (.sl (strAV t))) (t:=C.ti Qg) rfl (by rw[z1];exact Q7I bs) (by rw[z1];exact Q7I t) (by rw[z1];decide) (by rw[z2,Q0f,Q0f];omega) (by rw[Q0f,Q0f];omega)
 rw[←Qez] at x2
 obtain⟨f1,f2⟩:=Q9q e2 k1
 have l3:s2.locs[loc]? = some (.var [.val (.vp loc 0),x]):=by rw[l2];exact l1
 have e3:appendStr Qg (C.ti Qg) s1 x (.val (.str t))=some (x',s2):=by
  unfold appendStr
  simp only[go_sem]
  rcases x1 with ⟨rfl,_⟩ | ⟨rfl,_⟩ | ⟨k,rfl,_⟩
  ·exact e2
  ·exact absurd rfl (k1 _)
  ·exact e2
 have e4:=Q5N (t:=C.ti QM) (off:=1) l1
 have e5:stV s2 (.val (.vp loc 1)) [x']=some { s2 with locs:=s2.locs.set loc (.var [.val (.vp loc 0),x']) }:=Q8k l3 (by simp)
 have e6:ofSlots (C.ti QM) (List.take (C.ti QM).size (List.drop 1 [Slot.val (.vp loc 0),x]))=some x:=by
  rw[Q85];rfl
 rw[e6] at e4
 refine⟨{ s2 with locs:=s2.locs.set loc (.var [.val (.vp loc 0),x']) },h',?_,⟨?_,?_⟩,?_⟩
 ·rw[Q4S]
  simp only[go_sem,Nat.reduceAdd,e1,e3,e4,e5,x2.cellOk]
 ·have b2:s2.bl=s1.bl:=f2
  unfold isBld at b1 ⊢
  rw[b2]
  exact b1
 ·exact⟨_,x',List.getElem?_set_self (List.getElem?_eq_some_iff.1 l3).1,.inr rfl,x2.congr rfl,f1⟩
 ·exact (m1.trans (m2.wider (by simp))).setLoc (.inl (by simp)) _
theorem Q7u{s:St}{loc:Nat}{bs:List UInt8}{h:List Nat}(H:BldIs s loc bs h)(b:UInt8)(hl:bs.length+1<2^40) :
  ∃ s' h',cw (.f Zn) [.vp loc 0,.int .u8 b.toNat] s=some (.ret (.val .nili),s')∧BldIs s' loc (bs++[b]) h'∧Moves [loc] h h' s s':=by
 obtain⟨s1,x,e1,l1,x1,k1,m1,b1⟩:=QaD H
 have z1:(C.ti Qg).size=1:=by kernel_rfl
 have z2:(C.ti Qg).bytes=1:=by kernel_rfl
 obtain⟨x',s2,h',e2,x2,l2,m2⟩:=x1.append (m:=[.int .u8 b.toNat]) (y:=.full [.int .u8 b.toNat]) (t:=C.ti Qg) rfl (by rw[z1];exact Q7I bs) (by rw[z1];exact Q7I [b]) (by rw[z1];decide) (by rw[z2,Q0f];simp;omega) (by rw[Q0f];simp;omega)
 have x3:HeldIs Qg s2 x' (strAV (bs++[b])) h':=by rw[Qez];exact x2
 obtain⟨f1,f2⟩:=Q9q e2 k1
 have l3:s2.locs[loc]? = some (.var [.val (.vp loc 0),x]):=by rw[l2];exact l1
 have e4:=Q5N (t:=C.ti QM) (off:=1) l1
 have e5:stV s2 (.val (.vp loc 1)) [x']=some { s2 with locs:=s2.locs.set loc (.var [.val (.vp loc 0),x']) }:=Q8k l3 (by simp)
 have e6:ofSlots (C.ti QM) (List.take (C.ti QM).size (List.drop 1 [Slot.val (.vp loc 0),x]))=some x:=by
  rw[Q85];rfl
 rw[e6] at e4
 refine⟨{ s2 with locs:=s2.locs.set loc (.var [.val (.vp loc 0),x']) },h',?_,⟨?_,?_⟩,?_⟩
 ·rw[Q5x]
  simp only[go_sem,Nat.reduceAdd,e1,e2,e4,e5,x2.cellOk]
 ·have b2:s2.bl=s1.bl:=f2
  unfold isBld at b1 ⊢
  rw[b2]
  exact b1
 ·exact⟨_,x',List.getElem?_set_self (List.getElem?_eq_some_iff.1 l3).1,.inr rfl,x3.congr rfl,f1⟩
 ·exact (m1.trans (m2.wider (by simp))).setLoc (.inl (by simp)) _
theorem Q9t{s:St}{loc:Nat}{bs:List UInt8}{h:List Nat}(H:BldIs s loc bs h) :
  ∃ s',cw (.f ZM) [.vp loc 0] s=some (.ret (.val (.str bs)),s')∧Moves [] h h s s':=by
 obtain⟨hb,a,x,hl,ha,hx,hk⟩:=H
 have e:C.ext ZM=some (extBString Qg):=by kernel_rfl
 rcases hx with ⟨rfl,h1,rfl⟩ | ⟨rfl,_⟩ | ⟨k,rfl,rfl,h3,h4⟩
 ·have:bs=[]:=by simpa [strAV] using h1
  subst this
  refine⟨s,Q42 e ?_,.refl _ _ s⟩
  simp only[extBString,hl]
 ·exact absurd rfl (hk _)
 ·refine⟨{ s with toks:=s.toks.set k (bs.length+1) },Q42 e ?_,⟨by simp,λj hj hn=>?_,λ_ h=>.inl h,Nat.le_refl _,λ_ _ _=>rfl⟩⟩
  ·have hne:bs.isEmpty=false:=by cases bs with | nil=>exact absurd rfl h4 | cons b r=>rfl
   rw[Q0f] at h3
   simp only[extBString,hl,Q94,hne,Nat.beq_refl,Bool.not_true,Bool.or_self,cond_false,Q0f,h3,if_true]
  ·simp only[List.mem_singleton] at hn
   exact List.getElem?_set_ne (Ne.symm hn)
end Go.Proofs.YtgfhplcmcdimiaaGreatDoor
namespace Go.Am
open Go
def glueL:List Str:=[[40],[126],[33]]
def glueR:List Str:=[[41],[44],[59]]
def sepB(p:Option Str)(s:Str):Bool:=match p with
 |none=>false
 |some q=>!hasL glueL q && !hasL glueR s
def textGo:Option Str→List Str→Str
 |_,[]=>[]
 |p,s::r=>(bif sepB p s then 32::s else s)++textGo (some s) r
def textB(l:List Str):Str:=textGo none l
def tokSum(l:List Str):Nat:=(l.map λs=>s.length+1).sum
theorem Q81(s:Str)(l:List Str):tokSum (s::l)=s.length+1+tokSum l:=by simp[tokSum]
theorem Qcz:∀ l:List Str,l.length≤tokSum l
 |[]=>by simp
 |s::l=>by have:=Qcz l;rw[Q81,List.length_cons];omega
def joinT(sign:Str):List (List Str)→Bool→List Str
 |[],_=>[]
 |l::r,fst=>(bif fst then l else sign::l)++joinT sign r false
theorem QN(sign:Str):∀ (L:List (List Str)) (f:Bool),(joinT sign L f).length≤(L.map (·.length)).sum+L.length
 |[],_=>by simp[joinT]
 |l::r,f=>by
   have:=QN sign r false
   cases f <;> simp[joinT] <;> omega
def letT(n:Int):Str:=UInt8.ofNat (97+n % 26).toNat::(bif decide (n>25) then Go.Lib.itoa (n / 26) else [])
def parT(b:Bool)(l:List Str):List Str:=bif b then [40]::(l++[[41]]) else l
mutual
def typT:Ty→Int→List Str
 |.mk k n nm ags _,lv=>
   bif decide (k=1) then [39::letT n]
   else bif decide (nm=[45,62]) then parT (decide (0<lv)) ((typTs ags 1).getD 0 []++[[45,62]]++(typTs ags 0).getD 1 [])
   else bif decide (nm=[42]) then parT (decide (1<lv)) (joinT [42] (typTs ags 2) true)
   else bif decide (ags.length=0) then [nm]
   else bif decide (ags.length=1) then (typTs ags 2).getD 0 []++[nm]
   else [40]::(joinT [44] (typTs ags 0) true++[[41]])++[nm]
def typTs:List Ty→Int→List (List Str)
 |[],_=>[]
 |t::l,lv=>typT t lv::typTs l lv
end
theorem Q7o:∀ (l:List Ty) (lv:Int),typTs l lv=l.map λt=>typT t lv
 |[],_=>rfl
 |t::l,lv=>by simp only[typTs,List.map_cons,Q7o l lv]
theorem Q1s(b:Bool)(l:List Str):(parT b l).length≤l.length+2:=by cases b <;> simp[parT]
theorem Q8C:∀ (L:List (List Str)) (i:Nat),(L.getD i []).length≤(L.map (·.length)).sum
 |[],i=>by simp
 |l::L,0=>by simp
 |l::L,i+1=>by have:=Q8C L i;simp at this ⊢;omega
mutual
theorem Q2h:∀ (t:Ty) (lv:Int),(typT t lv).length+1≤6*t.size
 |.mk k n nm ags b,lv=>by
   have h0:=Q4k ags 0
   have h1:=Q4k ags 1
   have h2:=Q4k ags 2
   simp only[typT,Ty.size]
   cases decide (k=1) with
   |true=>simp;omega
   |false=>
     cases decide (nm=[45,62]) with
     |true=>
       have g:=QjZ ags
       have:=Q1s (decide (0<lv)) ((typTs ags 1).getD 0 []++[[45,62]]++(typTs ags 0).getD 1 [])
       simp only[List.length_append,List.length_singleton,cond_true,cond_false] at this ⊢
       omega
     |false=>
       cases decide (nm=[42]) with
       |true=>
         have:=Q1s (decide (1<lv)) (joinT [42] (typTs ags 2) true)
         have:=QN [42] (typTs ags 2) true
         simp only[cond_true,cond_false]
         omega
       |false=>
         cases decide (ags.length=0) with
         |true=>simp;omega
         |false=>
           cases decide (ags.length=1) with
           |true=>
             have:=Q8C (typTs ags 2) 0
             simp only[List.length_append,List.length_singleton,cond_true,cond_false]
             omega
           |false=>
             have:=QN [44] (typTs ags 0) true
             simp only[List.length_append,List.length_cons,List.length_nil,cond_true,cond_false]
             omega
theorem Q4k:∀ (l:List Ty) (lv:Int),((typTs l lv).map (·.length)).sum+(typTs l lv).length≤6*Ty.sizes l
 |[],lv=>by simp[typTs,Ty.sizes]
 |t::l,lv=>by
   have h1:=Q2h t lv
   have h2:=Q4k l lv
   simp only[typTs,List.map_cons,List.sum_cons,List.length_cons,Ty.sizes]
   omega
theorem QjZ:∀ (l:List Ty),((typTs l 1).getD 0 []).length+((typTs l 0).getD 1 []).length≤6*Ty.sizes l
 |[]=>by simp[typTs]
 |[t]=>by have:=Q2h t 1;simp[typTs,Ty.sizes];omega
 |t::u::l=>by have:=Q2h t 1;have:=Q2h u 0;simp[typTs,Ty.sizes];omega
end
end Go.Am
namespace Go.Proofs.YtgfhplcmcdimiaaGreatDoor
open Go Go.Am
set_option linter.unusedVariables false
set_option maxRecDepth 4000
theorem QkI{L pre suf:List Str}{q s:Str}{x:Slot}(hx:x.list? = some (L.map AV.str))(h:(pre++[q])++s::suf=L):ixS 1 x (.val (.int .i64 (pre.length:Int)))=some (.val (.cp [.str q])):=
 Q2A (v:=.str q) hx (by rw[←h];simp) rfl (by decide)
theorem Q8i(L:List Str)(v:AV)(hv:(Slot.val v).list? = some (L.map AV.str))(hL:L.length<2^40)(loc:Nat)(s0:St)(hloc:s0.locs.length≤loc):∀ (suf pre:List Str) (bs:Str) (h:List Nat) (s:St) (i:Nat),BldIs s loc bs h→Moves [] [] [] s0 s→(∀ k ∈ h,s0.toks.length≤k)→pre++suf=L→i=pre.length→bs.length+tokSum suf<2^40→
  Ret (Zy (.val v) (.val (.vp loc 0)) (.val v) (.val (.int .i64 L.length)) (.val (.int .i64 i)) s) s0 (.str (bs++textGo pre.getLast? suf))
 |[],pre,bs,h,s,i,H,m,hk,hp,hi,hb=>by
   subst hi
   obtain⟨s',e1,m1⟩:=Q9t H
   rw[Q7G];simp only[go_sem,Nat.reduceAdd,Qa (by simpa using hp),e1,textGo,List.append_nil]
   exact⟨s',rfl,(m.since m1 (by simp) (λk h'=>.inr (hk k h'))).toGrew⟩
 |t::suf,pre,bs,h,s,i,H,m,hk,hp,hi,hb=>by
   subst hi
   rw[Q81] at hb
   obtain⟨f1,f2,f3⟩:=Q9 (f:=AV.str) (sz:=1) hv hp (by omega) rfl (by decide)
   have hnew:∀ {h':List Nat} {s':St},Moves [loc] h h' s s'→Moves [] [] [] s0 s'∧∀ k ∈ h',s0.toks.length≤k:=λ{h' s'} c=>
    ⟨m.since c (λi hi=>by simp only[List.mem_singleton] at hi;subst hi;exact .inr hloc) (λk h'=>.inr (hk k h')),λk hk'=>(c.new k hk').elim (hk k) (λh=>Nat.le_trans m.tl h)⟩
   have c1:∀ x s,cw (.f QD) [.sl [.str [40],.str [126],.str [33]],.str x] s=some (.ret (.val (.bool (hasL glueL x))),s):=λx s=>Q95 x glueL (by decide) s
   have c2:∀ x s,cw (.f QD) [.sl [.str [41],.str [44],.str [59]],.str x] s=some (.ret (.val (.bool (hasL glueR x))),s):=λx s=>Q95 x glueR (by decide) s
   have fin:∀ {bs':Str} {h':List Nat} {s':St},BldIs s' loc bs' h'→Moves [loc] h h' s s'→bs'.length+tokSum suf<2^40→Ret (Zy (.val v) (.val (.vp loc 0)) (.val v) (.val (.int .i64 L.length)) (.val (.int .i64 ((pre.length+1:Nat):Int))) s') s0 (.str (bs'++textGo (some t) suf)):=λ{bs' h' s'} H' c hb'=>by
    have:=Q8i L v hv hL loc s0 hloc suf (pre++[t]) bs' h' s' (pre.length+1) H' (hnew c).1 (hnew c).2 (by simpa using hp) (by simp) hb'
    simpa using this
   obtain⟨s1,h1,e1,H1,m1⟩:=Q3r H t (by omega)
   obtain⟨s2,h2,e2,H2,m2⟩:=Q7u H 32 (by omega)
   obtain⟨s3,h3,e3,H3,m3⟩:=Q3r H2 t (by simp;omega)
   have r1:=fin H1 m1 (by simp;omega)
   have r3:=fin H3 (m2.trans m3) (by simp;omega)
   rw[show ((32:UInt8).toNat:Int)=32 from rfl] at e2
   rw[Q7G]
   rcases List.eq_nil_or_concat pre with rfl | ⟨pre',q,rfl⟩
   ·have z:(((([]:List Str).length:Nat)):Int)=0:=rfl
    rw[z] at f1 f2 f3 ⊢
    have z1:decide ((0:Int)>0)=false:=rfl
    have r2:Ret (Zy (.val v) (.val (.vp loc 0)) (.val v) (.val (.int .i64 L.length)) (.val (.int .i64 ((([]:List Str).length+1:Nat):Int))) s1) s0 (.str (bs++textGo ([]:List Str).getLast? (t::suf))):=by
     simpa [textGo,sepB] using r1
    simp only[go_sem,Int.reduceAdd,Int.reduceGT,Nat.reduceAdd,Nat.reduceLeDiff,f1,f2,f3,z1,e1,Qh,c1,c2]
    exact r2
   ·have hp1:decide (((pre'.concat q).length:Int)>0)=true:=by simp
    have hp2:IntKind.i64.wrap (((pre'.concat q).length:Int) - 1)=(pre'.length:Int):=by
     rw[←hp] at hL
     simp only[List.concat_eq_append,List.length_append,List.length_singleton,List.length_cons,List.length_nil] at hL ⊢
     rw[wrap64 (by omega) (by omega)]
     omega
    have hp3:=QkI (pre:=pre') (q:=q) (s:=t) (suf:=suf) hv (by simpa using hp)
    have hq:(pre'.concat q).getLast? = some q:=by simp
    have g1:hasL glueL q=true∨(hasL glueL q=false∧hasL glueR t=true)→Ret (Zy (.val v) (.val (.vp loc 0)) (.val v) (.val (.int .i64 L.length)) (.val (.int .i64 (((pre'.concat q).length+1:Nat):Int))) s1) s0 (.str (bs++textGo (pre'.concat q).getLast? (t::suf))):=λh=>by
     rw[hq]
     rcases h with h | ⟨h,k⟩
     ·simpa [textGo,sepB,h] using r1
     ·simpa [textGo,sepB,h,k] using r1
    have g2:hasL glueL q=false→hasL glueR t=false→Ret (Zy (.val v) (.val (.vp loc 0)) (.val v) (.val (.int .i64 L.length)) (.val (.int .i64 (((pre'.concat q).length+1:Nat):Int))) s3) s0 (.str (bs++textGo (pre'.concat q).getLast? (t::suf))):=λh k=>by
     rw[hq]
     simpa [textGo,sepB,h,k] using r3
    cases hA:hasL glueL q with
    |true=>
      have g:=g1 (.inl hA)
      simp only[go_sem,Nat.reduceAdd,Nat.reduceLeDiff,f1,f2,f3,hp1,hp2,hp3,e1,Qh,c1,c2,hA]
      exact g
    |false=>
      cases hB:hasL glueR t with
      |true=>
        have g:=g1 (.inr ⟨hA,hB⟩)
        simp only[go_sem,Nat.reduceAdd,Nat.reduceLeDiff,f1,f2,f3,hp1,hp2,hp3,e1,Qh,c1,c2,hA,hB]
        exact g
      |false=>
        have g:=g2 hA hB
        simp only[go_sem,Nat.reduceAdd,Nat.reduceLeDiff,f1,f2,f3,hp1,hp2,hp3,e1,e2,e3,Qh,c1,c2,hA,hB]
        exact g
theorem Q3j(L:List Str)(v:AV)(hv:(Slot.val v).list? = some (L.map AV.str))(hL:tokSum L<2^40)(s:St):Ret (cw (.f Q1o) [v] s) s (.str (textB L)):=by
 have hlen:=Qcz L
 have H:BldIs (St.addLocT s (.var (List.map .val (C.ti QL).zero)) QL) s.locs.length [] []:=by
  refine⟨by simp[isBld,St.addLocT],.val .nilp,.val .nils,?_,.inl rfl,.inl ⟨rfl,rfl,rfl⟩,λl h=>by cases h⟩
  simp only[St.addLocT,Q84]
  rw[List.getElem?_append_right (Nat.le_refl _)]
  simp
 have m:Moves [] [] [] s (St.addLocT s (.var (List.map .val (C.ti QL).zero)) QL):=Moves.grew _ _ ⟨⟨_,rfl⟩,⟨[],by simp[St.addLocT]⟩⟩
 have:=Q8i L v hv (by omega) s.locs.length s (Nat.le_refl _) L [] [] [] _ 0 H m (by simp) rfl rfl (by simpa using hL)
 rw[QgG]
 simp only[go_sem,hv,List.length_map]
 exact this
end Go.Proofs.YtgfhplcmcdimiaaGreatDoor
namespace Go.Am
open Go
def StrsAV(v:AV)(l:List Str):Prop:=(Slot.val v).list? = some (l.map AV.str)
theorem StrsAV.cells{v:AV}{l:List Str}(h:StrsAV v l):v.cells=[v]:=by
 cases v <;> first | rfl | (simp only[StrsAV,Slot.list?] at h;cases h;done)
theorem StrsAV.bsl{v:AV}{l:List Str}(h:StrsAV v l)(r:List Slot):bslS 1 (.val v::r)=(bslS 1 r).map (v :: ·):=by
 cases v <;> first | (simp only[StrsAV,Slot.list?] at h;cases h;done) | (simp only[bslS];cases bslS 1 r <;> rfl)
theorem StrsAV.bslx{x:Slot}{v:AV}{l:List Str}(hx:x.av=some v)(h:StrsAV v l)(r:List Slot):bslS 1 (x::r)=(bslS 1 r).map (v :: ·):=by
 have h1:=h.bsl r
 rw[←h1]
 have h2:(Slot.val v).av=some v:=rfl
 simp only[bslS,hx,h2]
theorem Qf(l:List Str):StrsAV (.sl (l.map AV.str)) l:=id rfl
theorem QiM(nl:Bool)(l:List Str):StrsAV (encS nl (l.map AV.str)) l:=Q4 _ _
theorem StrsAV.ld{v:AV}{l:List Str}(h:StrsAV v l){t:TI}(ht:t.isAgg=false)(hz:t.size=1)(s:St):ldV t false s (.val (.cp v.cells))=some (.val v):=by
 rw[h.cells]
 simp only[ldV,ofSlots,hz]
 simp[ht,ofCells]
structure SlotS (x:Slot) (l:List Str):Prop where
 av:∃ v,x.av=some v∧StrsAV v l
 list:x.list? = some (l.map AV.str)
def RetS(r:Res)(s:St)(l:List Str):Prop:=∃ x s',r=some (.ret x,s')∧Grew s s'∧SlotS x l
theorem StrsAV.slot{v:AV}{l:List Str}(h:StrsAV v l):SlotS (.val v) l:=⟨⟨v,rfl,h⟩,h⟩
theorem AccR.strs{e:TypeId}{s0 s:St}{x:Slot}{l:List Str}(h:AccR e s0 s x (l.map AV.str)):∃ v,x.av=some v∧StrsAV v l:=by
 obtain⟨nl,h1⟩:=h.av
 exact⟨_,h1,QiM nl l⟩
theorem AccR.slot{e:TypeId}{s0 s:St}{x:Slot}{l:List Str}(h:AccR e s0 s x (l.map AV.str)):SlotS x l:=⟨h.strs,h.list?⟩
theorem RetA.toS{r:Res}{e:TypeId}{s:St}{l:List Str}(h:RetA r e s (l.map AV.str)):RetS r s l:=by
 obtain⟨x,s',e1,A⟩:=h
 exact⟨x,s',e1,A.grew,A.slot⟩
end Go.Am
namespace Go.Proofs.YtgfhplcmcdimiaaGreatDoor
open Go Go.Am
set_option linter.unusedVariables false
set_option maxRecDepth 4000
def sumL(P:List (AV × List Str)):Nat:=(P.map λp=>p.2.length).sum
theorem QjW(p:AV × List Str)(P:List (AV × List Str)):sumL (p::P)=p.2.length+sumL P:=by simp[sumL]
theorem Q9x(P:List (AV × List Str))(hP:∀ p ∈ P,StrsAV p.1 p.2)(hl:P.length<2^40)(v:AV)(hv:(Slot.val v).list? = some (P.map (·.1)))(s0:St):∀ (suf pre:List (AV × List Str)) (acc:List Str) (x:Slot) (s:St) (i:Nat),AccR Q1 s0 s x (acc.map AV.str)→pre++suf=P→i=pre.length→acc.length+sumL suf<2^30→
  RetA (QR x (.val v) (.val (.int .i64 P.length)) (.val (.int .i64 i)) s) Q1 s0 ((acc++(suf.map (·.2)).flatten).map AV.str)
 |[],pre,acc,x,s,i,A,hp,hi,hb=>by
   subst hi
   rw[Q0t];simp only[go_sem,Qa (by simpa using hp),List.map_nil,List.flatten_nil,List.append_nil]
   exact RetA.mk A
 |p::suf,pre,acc,x,s,i,A,hp,hi,hb=>by
   subst hi
   rw[QjW] at hb
   have hpm:p ∈ P:=by rw[←hp];simp
   have hc:=(hP p hpm).cells
   obtain⟨f1,f2,f3⟩:=Q9 (f:=λp:AV × List Str=>p.1) (sz:=1) hv hp (by omega) (by rw[hc];rfl) (by decide)
   have e1:ldV (C.ti Qe) false s (.val (.cp p.1.cells))=some (.val p.1):=(hP p hpm).ld (by kernel_rfl) (by kernel_rfl) s
   obtain⟨x',s',e2,A'⟩:=AccR.appendF (t:=C.ti Q1) (B:=p.2) A (hP p hpm) (λ_=>rfl) (by decide) (by omega) (by decide +kernel)
   have ih:=Q9x P hP hl v hv s0 suf (pre++[p]) (acc++p.2) x' s' (pre.length+1) A' (by simpa using hp) (by simp) (by simp only[List.length_append];omega)
   rw[Q0t]
   simp only[go_sem,f1,f2,f3,e1,e2] at ih ⊢
   simpa using ih
theorem Qjy(n:Nat)(h:n<2^30)(s:St):∃ x s',cw (.f Q00) [.nils,.int .i64 n] s=some (.ret x,s')∧AccR Q1 s s' x (([]:List Str).map AV.str):=by
 have e:C.ext Q00=some (extGrow Q1 (C.ti Q1)):=by kernel_rfl
 by_cases h0:n=0
 ·subst h0
  exact⟨.val .nils,s,Q42 e (by simp[extGrow]),.nil _ _⟩
 ·refine⟨.own s.toks.length Q1 [],{ s with toks:=s.toks++[0] },Q42 e ?_,(Grew.refl s).pushTok 0,.inr (.inr ⟨s.toks.length,rfl,Nat.le_refl _,by simp⟩)⟩
  have z1:(C.ti Q1).size=1:=by kernel_rfl
  have z2:(C.ti Q1).bytes=16:=by kernel_rfl
  simp only[extGrow,z1,z2]
  rw[if_neg (by omega),if_pos ⟨by omega,by omega,by decide,by omega⟩]
theorem Q9w(P:List (AV × List Str))(hP:∀ p ∈ P,StrsAV p.1 p.2)(hl:P.length<2^40)(v:AV)(hv:(Slot.val v).list? = some (P.map (·.1)))(s:St):∀ (suf pre:List (AV × List Str)) (n i:Nat),pre++suf=P→i=pre.length→n=sumL pre→sumL P<2^30→
  RetA (QQ (.val v) (.val (.int .i64 n)) (.val v) (.val (.int .i64 P.length)) (.val (.int .i64 i)) s) Q1 s (((P.map (·.2)).flatten).map AV.str)
 |[],pre,n,i,hp,hi,hn,hb=>by
   subst hi
   obtain⟨x,s',e1,A⟩:=Qjy n (by rw[hn];rw[List.append_nil] at hp;subst hp;exact hb) s
   have:=Q9x P hP hl v hv s P [] [] x s' 0 A rfl rfl (by simpa using hb)
   rw[Q0s];simp only[go_sem,Qa (by simpa using hp),e1,hv,List.length_map]
   simpa using this
 |p::suf,pre,n,i,hp,hi,hn,hb=>by
   subst hi
   have hpm:p ∈ P:=by rw[←hp];simp
   have hc:=(hP p hpm).cells
   have hs:sumL (pre++[p])=sumL pre+p.2.length:=by simp[sumL]
   have hs2:sumL pre+p.2.length≤sumL P:=by rw[←hp];simp[sumL]
   obtain⟨f1,f2,f3⟩:=Q9 (f:=λp:AV × List Str=>p.1) (sz:=1) hv hp (by omega) (by rw[hc];rfl) (by decide)
   have e1:ldV (C.ti Qe) false s (.val (.cp p.1.cells))=some (.val p.1):=(hP p hpm).ld (by kernel_rfl) (by kernel_rfl) s
   have e2:(Slot.val p.1).list? = some (p.2.map AV.str):=hP p hpm
   have hw:IntKind.i64.wrap ((n:Int)+(p.2.length:Int))=((n+p.2.length:Nat):Int):=by rw[wrap64 (by omega) (by omega)];rfl
   have hz:decide (((n+p.2.length:Nat):Int)<0)=false:=by simp;omega
   have ih:=Q9w P hP hl v hv s suf (pre++[p]) (n+p.2.length) (pre.length+1) (by simpa using hp) (by simp) (by rw[hs,hn]) hb
   rw[Q0s]
   simp only[go_sem,f1,f2,f3,e1,e2,hw,hz,List.length_map] at ih ⊢
   exact ih
theorem Q7S(P:List (AV × List Str))(hP:∀ p ∈ P,StrsAV p.1 p.2)(hl:P.length<2^40)(v:AV)(hv:(Slot.val v).list? = some (P.map (·.1)))(hb:sumL P<2^30)(s:St):RetA (cw (.f Qm) [v] s) Q1 s (((P.map (·.2)).flatten).map AV.str):=by
 have:=Q9w P hP hl v hv s P [] 0 0 rfl rfl rfl hb
 rw[show ((0:Nat):Int)=0 from rfl] at this
 rw[Qho]
 obtain⟨x,s',e1,A⟩:=this
 have e2:cw (.f QW) [v] s=some (.ret x,s'):=by
  rw[Q4l]
  simp only[go_sem,hv,List.length_map]
  exact e1
 simp only[go_sem,e2]
 exact⟨x,s',rfl,A⟩
theorem QdQ{a b c:AV}{la lb lc:List Str}(ha:StrsAV a la)(hb:StrsAV b lb)(hc:StrsAV c lc)(hl:la.length+lb.length+lc.length<2^30)(s:St):RetA (cw (.f Qm) [.sl [a,b,c]] s) Q1 s ((la++lb++lc).map AV.str):=by
 have:=Q7S [(a,la),(b,lb),(c,lc)] (by intro p hp;simp only[List.mem_cons,List.not_mem_nil,or_false] at hp;rcases hp with rfl | rfl | rfl <;> assumption) (by simp) (.sl [a,b,c]) rfl (by simp[sumL];omega) s
 simpa using this
theorem QdP{a b:AV}{la lb:List Str}(ha:StrsAV a la)(hb:StrsAV b lb)(hl:la.length+lb.length<2^30)(s:St):RetA (cw (.f Qm) [.sl [a,b]] s) Q1 s ((la++lb).map AV.str):=by
 have:=Q7S [(a,la),(b,lb)] (by intro p hp;simp only[List.mem_cons,List.not_mem_nil,or_false] at hp;rcases hp with rfl | rfl <;> assumption) (by simp) (.sl [a,b]) rfl (by simp[sumL];omega) s
 simpa using this
theorem Q7i{a:AV}{l:List Str}(ha:StrsAV a l)(hl:l.length+2<2^30)(s:St):RetA (cw (.f Zm) [a] s) Q1 s (([40]::(l++[[41]])).map AV.str):=by
 obtain⟨x,s',e1,A⟩:=QdQ (Qf [[40]]) ha (Qf [[41]]) (by simp;omega) s
 have c1:=ha.cells
 simp only[List.map_cons,List.map_nil] at e1
 rw[QiJ]
 simp only[go_sem,Nat.reduceAdd,Qh,ha.bsl,e1]
 exact⟨x,s',rfl,by simpa using A⟩
def PartOK(of:AV)(L:List (List Str)):Prop:=∃ g caps,of = .fn g caps∧∀ (i:Nat) (l:List Str),L[i]? = some l→∀ s,RetS (cw (.f g) (.int .i64 i::caps) s) s l
theorem Q6X(sign:Str)(g:FuncId)(caps:List AV)(L:List (List Str))(hg:∀ (i:Nat) (l:List Str),L[i]? = some l→∀ s,RetS (cw (.f g) (.int .i64 i::caps) s) s l)(hx:(C.ext g).isSome=false)(hL:L.length<2^40)(s0:St):∀ (suf pre:List (List Str)) (acc:List Str) (x:Slot) (s:St) (i:Nat),AccR Q1 s0 s x (acc.map AV.str)→pre++suf=L→i=pre.length→acc.length+(suf.map (·.length)).sum+suf.length<2^30→
  RetA (Q0k (.val (.str sign)) (.val (.fn g caps)) x (.val (.int .i64 L.length)) (.val (.int .i64 i)) s) Q1 s0 ((acc++joinT sign suf pre.isEmpty).map AV.str)
 |[],pre,acc,x,s,i,A,hp,hi,hb=>by
   subst hi
   rw[Q65];simp only[go_sem,Nat.reduceAdd,Qa (by simpa using hp),joinT,List.append_nil]
   exact RetA.mk A
 |l::suf,pre,acc,x,s,i,A,hp,hi,hb=>by
   subst hi
   simp only[List.map_cons,List.sum_cons,List.length_cons] at hb
   have hlt:pre.length<L.length:=by rw[←hp];simp
   have f1:decide ((pre.length:Int)<(L.length:Int))=true:=by simpa using hlt
   have f3:IntKind.i64.wrap ((pre.length:Int)+1)=((pre.length+1:Nat):Int):=by rw[wrap64 (by omega) (by omega)];rfl
   have hgi:=hg pre.length l (by rw[←hp];simp)
   rw[Q65]
   cases pre with
   |nil=>
     obtain⟨y,s1,e1,gB,hy⟩:=hgi s
     obtain⟨x',s2,e3,A'⟩:=AccR.appendF (t:=C.ti Q1) (B:=l) (A.move gB) (y:=y) hy.list (λ_=>rfl) (by decide) (by omega) (by decide +kernel)
     have ih:=Q6X sign g caps L hg hx hL s0 suf [l] (acc++l) x' s2 1 A' (by simpa using hp) rfl (by simp only[List.length_append];omega)
     have f1:decide ((0:Int)<(L.length:Int))=true:=by simpa using hlt
     have f3:IntKind.i64.wrap 1=1:=rfl
     have e1:cw (.f g) (.int .i64 0::caps) s=some (.ret y,s1):=e1
     have i0:((([]:List (List Str)).length:Nat):Int)=0:=rfl
     have i1:((1:Nat):Int)=1:=rfl
     rw[i0]
     rw[i1] at ih
     have z1:decide ((0:Int)>0)=false:=rfl
     simp only[go_sem,Int.reduceAdd,Int.reduceGT,Nat.reduceAdd,f1,f3,z1,e1,e3,hx,joinT,List.isEmpty_nil] at ih ⊢
     simpa using ih
   |cons q pre'=>
     have z1:decide ((((q::pre').length:Nat):Int)>0)=true:=by simp
     obtain⟨x1,s1,e0,A1⟩:=AccR.appendF (t:=C.ti Q1) (B:=[sign]) (y:=.full [.str sign]) A rfl (λ_=>rfl) (by decide) (by simp only[List.length_singleton];omega) (by decide +kernel)
     obtain⟨y,s2,e1,gB,hy⟩:=hgi s1
     obtain⟨x',s3,e3,A'⟩:=AccR.appendF (t:=C.ti Q1) (B:=l) (A1.move gB) (y:=y) hy.list (λ_=>rfl) (by decide) (by simp only[List.length_append,List.length_singleton];omega) (by decide +kernel)
     have ih:=Q6X sign g caps L hg hx hL s0 suf ((q::pre')++[l]) (acc++[sign]++l) x' s3 ((q::pre').length+1) A' (by simpa using hp) (by simp) (by simp only[List.length_append,List.length_singleton];omega)
     generalize (q::pre').length=k at f1 f3 z1 e1 ih ⊢
     simp only[go_sem,Nat.reduceAdd,f1,f3,z1,e0,e1,e3,hx] at ih ⊢
     simpa [joinT] using ih
theorem Q0b(sign:Str)(of:AV)(L:List (List Str))(h:PartOK of L)(hx:∀ g caps,of = .fn g caps→(C.ext g).isSome=false)(hb:(L.map (·.length)).sum+L.length<2^30)(s:St):RetA (cw (.f QT) [.str sign,.int .i64 L.length,of] s) Q1 s ((joinT sign L true).map AV.str):=by
 obtain⟨g,caps,rfl,hg⟩:=h
 have:=Q6X sign g caps L hg (hx g caps rfl) (by omega) s L [] [] (.val .nils) s 0 (.nil _ _) rfl rfl (by simpa using hb)
 rw[Qcs]
 simp only[go_sem] at this ⊢
 simpa using this
theorem Q9K(n:Int)(h:-9223372036854775808≤n∧n≤9223372036854775807)(s:St):cw (.f Q4m) [.int .i64 n] s=some (.ret (.val (.str (Go.Lib.itoa n))),s):=by
 have e:C.ext Q5i=some (pureX extItoa):=by kernel_rfl
 have e1:cw (.f Q5i) [.int .i64 n] s=some (.ret (.val (.str (Go.Lib.itoa n))),s):=Q42 e (by simp[pureX,extItoa,h])
 rw[Qhe]
 simp only[go_sem,e1]
theorem QjR(m:Int)(h0:0≤m)(h:m<128):convS (C.ti Q1I) (C.ti Q1) (.val (.int .i32 m))=some (.val (.str [UInt8.ofNat m.toNat])):=by
 have k1:(C.ti Q1I).k = .int .i32:=by kernel_rfl
 have k2:(C.ti Q1).k = .str:=by kernel_rfl
 simp only[convS,convStr,k1,k2,h0,h,and_self,if_true]
theorem QfX(n:Int)(h0:0≤n)(h:n<2^62):(Go.Lib.itoa n).length<2^40:=by
 have:=Go.Lib.itoa_length_le n (by omega) (by omega)
 omega
theorem Zi{t:TI}{a b:Str}(h:a.length+b.length≤9223372036854775807):binS t .add (.val (.str a)) (.val (.str b))=some (.val (.str (a++b))):=by
 simp only[binS,Slot.av]
 rw[if_pos h]
theorem Q9i(n:Int)(h0:0≤n)(h:n<2^63)(s:St):cw (.f Q2H) [.int .i64 n] s=some (.ret (.val (.str (39::letT n))),s):=by
 have a1:n.tmod 26=n % 26:=Int.tmod_eq_emod_of_nonneg h0
 have a2:n.tdiv 26=n / 26:=Int.tdiv_eq_ediv_of_nonneg h0
 have b1:IntKind.i64.wrap (97+n % 26)=97+n % 26:=wrap64 (by omega) (by omega)
 have b2:IntKind.i64.wrap (n / 26)=n / 26:=wrap64 (by omega) (by omega)
 have b3:IntKind.i32.wrap (97+n % 26)=97+n % 26:=by simp[IntKind.wrap,IntKind.bits,IntKind.signed];omega
 have e1:=QjR (97+n % 26) (by omega) (by omega)
 have e2:=Q9K (n / 26) (by omega) s
 have e3:=QfX (n / 26) (by omega) (by omega)
 have k1:convS (C.ti Q2) (C.ti Q1I) (.val (.int .i64 (97+n % 26)))=some (.val (.int .i32 (97+n % 26))):=by
  have k1:(C.ti Q1I).k = .int .i32:=by kernel_rfl
  have k2:(C.ti Q2).k = .int .i64:=by kernel_rfl
  simp only[convS,k1,k2,b3]
 rw[Qbz]
 cases hn:decide (n>25) with
 |false=>simp only[go_sem,Int.reduceEq,ne_eq,not_false_eq_true,a1,b1,k1,e1,hn,letT];rfl
 |true=>
   have c1:([39,UInt8.ofNat (97+n % 26).toNat]:Str).length+(Go.Lib.itoa (n / 26)).length≤9223372036854775807:=by simp only[List.length_cons,List.length_nil];omega
   simp only[go_sem,Int.reduceEq,ne_eq,not_false_eq_true,a1,a2,b1,b2,k1,e1,e2,hn,letT]
   rw[Zi (by simp)]
   simp only[go_sem]
   rw[Zi (by simpa using c1)]
   rfl
end Go.Proofs.YtgfhplcmcdimiaaGreatDoor
namespace Go.Proofs.YtgfhplcmcdimiaaGreatDoor
open Go Go.Am
set_option linter.unusedVariables false
set_option maxRecDepth 4000
def shpB(t:Ty):Bool:=bif decide (t.kind=1) then decide (0≤t.n)&&decide (t.n<2^63) else !decide (t.name=[45,62]) || decide (t.args.length=2)
def TypOK(t:Ty):Prop:=∀ (lv:Int) (s:St),RetS (cw (.f Q06) [t.enc,.int .i64 lv] s) s (typT t lv)
theorem Q5I(T:Ty){i:Nat}{t:Ty}(hi:T.args[i]? = some t):ixS 4 (.val (encS T.nl (T.args.map Ty.enc))) (.val (.int .i64 (i:Int)))=some (.val (.cp t.enc.cells)):=
 Q2A (Q4 _ _) (show (T.args.map Ty.enc)[i]? = some t.enc by simp[hi]) (Ty.cells_len t) (by decide)
theorem QiN(T:Ty)(H:∀ t ∈ T.args,TypOK t)(i:Nat)(t:Ty)(hi:T.args[i]? = some t)(s:St):RetS (cw (.f Q2P) [.int .i64 i,.cp T.cells] s) s (typT t 2):=by
 obtain⟨x,s',e2,A⟩:=H t (List.mem_of_getElem? hi) 2 s
 rw[Qf6]
 simp only[go_sem,Nat.reduceAdd,Nat.reduceLeDiff,Ty.cells_eq T,Q5I T hi,e2]
 exact⟨x,s',rfl,A⟩
theorem QiO(T:Ty)(H:∀ t ∈ T.args,TypOK t)(i:Nat)(t:Ty)(hi:T.args[i]? = some t)(s:St):RetS (cw (.f Q2Q) [.int .i64 i,.cp T.cells] s) s (typT t 0):=by
 obtain⟨x,s',e2,A⟩:=H t (List.mem_of_getElem? hi) 0 s
 rw[Qf7]
 simp only[go_sem,Nat.reduceAdd,Nat.reduceLeDiff,Ty.cells_eq T,Q5I T hi,e2]
 exact⟨x,s',rfl,A⟩
theorem Qq5(T:Ty)(H:∀ t ∈ T.args,TypOK t):PartOK (.fn Q2P [.cp T.cells]) (typTs T.args 2):=⟨_,_,rfl,λi l hl s=>by
 rw[Q7o,List.getElem?_map,Option.map_eq_some_iff] at hl
 obtain⟨t,h1,rfl⟩:=hl
 exact QiN T H i t h1 s⟩
theorem Qq6(T:Ty)(H:∀ t ∈ T.args,TypOK t):PartOK (.fn Q2Q [.cp T.cells]) (typTs T.args 0):=⟨_,_,rfl,λi l hl s=>by
 rw[Q7o,List.getElem?_map,Option.map_eq_some_iff] at hl
 obtain⟨t,h1,rfl⟩:=hl
 exact QiO T H i t h1 s⟩
theorem QaC{p:Ty→Bool}:∀ {l:List Ty},allTys p l=true→∀ u ∈ l,allTy p u=true
 |[],_,u,hu=>by cases hu
 |t::l,h,u,hu=>by
   simp only[allTys,Bool.and_eq_true] at h
   rcases List.mem_cons.1 hu with rfl | hu
   ·exact h.1
   ·exact QaC h.2 u hu
theorem Qb2{s:St}{x:Slot}{l:List Str}(A:SlotS x l)(hl:l.length+2<2^30)(lv lev:Int):RetS (Q3F (.val (.int .i64 lv)) (.val (.int .i64 lev)) x s) s (parT (decide (lev<lv)) l):=by
 rw[Qdz]
 cases hd:decide (lev<lv) with
 |false=>simp only[go_sem,hd,parT];exact⟨x,s,rfl,.refl s,A⟩
 |true=>
   obtain⟨v,hv,hs⟩:=A.av
   obtain⟨y,s',e1,B⟩:=Q7i hs hl s
   simp only[go_sem,hd,QS hv,e1,parT]
   exact⟨y,s',rfl,B.grew,B.slot⟩
theorem Q6c:∀ (m:Nat) (t:Ty),t.size≤m→t.size<2^26→allTy shpB t=true→TypOK t
 |0,t,h,_,_=>by cases t;simp only[Ty.size] at h;omega
 |m+1,t,h,hb,hs=>by
   intro lv s
   have kids:∀ u ∈ t.args,TypOK u:=λu hu=>by
    obtain⟨k,n,nm,ags,nl⟩:=t
    have:=Ty.mem_sizes hu
    simp only[Ty.size,Ty.args,allTy,Bool.and_eq_true] at h hb hs this
    refine Q6c m u (by omega) (by omega) ?_
    exact QaC hs.2 u hu
   have hsz:Ty.sizes t.args+1=t.size:=by cases t;simp only[Ty.size,Ty.args]
   have hlen:=Ty.len_sizes t.args
   have hsh:shpB t=true:=by cases t;simp only[allTy,Bool.and_eq_true] at hs;exact hs.1
   have hT:typT t lv=bif decide (t.kind=1) then [39::letT t.n]
    else bif decide (t.name=[45,62]) then parT (decide (0<lv)) ((typTs t.args 1).getD 0 []++[[45,62]]++(typTs t.args 0).getD 1 [])
    else bif decide (t.name=[42]) then parT (decide (1<lv)) (joinT [42] (typTs t.args 2) true)
    else bif decide (t.args.length=0) then [t.name]
    else bif decide (t.args.length=1) then (typTs t.args 2).getD 0 []++[t.name]
    else [40]::(joinT [44] (typTs t.args 0) true++[[41]])++[t.name]:=by
    cases t
    simp only[typT,Ty.kind,Ty.n,Ty.name,Ty.args]
    rfl
   have c:=Ty.cells_eq t
   have p1:=Qq5 t kids
   have p2:=Qq6 t kids
   rw[c] at p1 p2
   have l0:=Q4k t.args 0
   have l2:=Q4k t.args 2
   have q0:(typTs t.args 0).length=t.args.length:=by rw[Q7o,List.length_map]
   have q2:(typTs t.args 2).length=t.args.length:=by rw[Q7o,List.length_map]
   have x1:∀ g caps,AV.fn Q2P [.cp [.int .i64 t.kind,.int .i64 t.n,.str t.name,encS t.nl (t.args.map Ty.enc)]] = .fn g caps→(C.ext g).isSome=false:=λg caps h=>by cases h;kernel_rfl
   have x2:∀ g caps,AV.fn Q2Q [.cp [.int .i64 t.kind,.int .i64 t.n,.str t.name,encS t.nl (t.args.map Ty.enc)]] = .fn g caps→(C.ext g).isSome=false:=λg caps h=>by cases h;kernel_rfl
   rw[hT]
   unfold shpB at hsh
   rw[Qhr]
   cases hk:decide (t.kind=1) with
   |true=>
     rw[hk] at hsh
     simp only[cond_true,Bool.and_eq_true,decide_eq_true_eq] at hsh
     have e1:=Q9i t.n hsh.1 hsh.2 s
     simp only[go_sem,Nat.reduceAdd,Nat.reduceLeDiff,c,hk,e1,Qh]
     exact⟨_,s,rfl,.refl s,(Qf [39::letT t.n]).slot⟩
   |false=>
     rw[hk] at hsh
     simp only[cond_false] at hsh
     cases hn:decide (t.name=[45,62]) with
     |true=>
       rw[hn] at hsh
       obtain⟨a,b,hab⟩:∃ a b,t.args=[a,b]:=by
        simp only[Bool.not_true,Bool.false_or,decide_eq_true_eq] at hsh
        match hq:t.args,hsh with
        |[a,b],_=>exact⟨a,b,rfl⟩
       have f0:=Q5I t (i:=0) (t:=a) (by rw[hab];rfl)
       have f1:=Q5I t (i:=1) (t:=b) (by rw[hab];rfl)
       obtain⟨y1,s1,e1,g1,h1⟩:=kids a (by rw[hab];simp) 1 s
       obtain⟨y2,s2,e2,g2,h2⟩:=kids b (by rw[hab];simp) 0 s1
       obtain⟨v1,av1,hv1⟩:=h1.av
       obtain⟨v2,av2,hv2⟩:=h2.av
       have la:=Q2h a 1
       have lb:=Q2h b 0
       have hz:a.size+b.size+1=t.size:=by rw[←hsz,hab];simp only[Ty.sizes];omega
       obtain⟨y3,s3,e3,A3⟩:=QdQ hv1 (Qf [[45,62]]) hv2 (by simp only[List.length_singleton];omega) s2
       obtain⟨y4,s4,e4,g4,h4⟩:=Qb2 (s:=s3) A3.slot (by simp only[List.length_append,List.length_singleton];omega) lv 0
       have bs1:bslS 1 [y1,.val (.sl [.str [45,62]]),y2]=some [v1,.sl [.str [45,62]],v2]:=by
        have hm:StrsAV (.sl [.str [45,62]]) [[45,62]]:=Qf [[45,62]]
        rw[hv1.bslx av1,hm.bsl,hv2.bslx av2];rfl
       rw[show ((0:Nat):Int)=0 from rfl] at f0
       rw[show ((1:Nat):Int)=1 from rfl] at f1
       simp only[List.map_cons,List.map_nil] at e3
       simp only[go_sem,Nat.reduceAdd,Nat.reduceLeDiff,c,hk,hn,f0,f1,e1,e2,Qh,bs1,e3,e4]
       refine⟨y4,s4,rfl,((g1.trans g2).trans A3.grew).trans g4,?_⟩
       rw[hab]
       simpa [typTs] using h4
     |false=>
       cases hm:decide (t.name=[42]) with
       |true=>
         obtain⟨y1,s1,e1,A1⟩:=Q0b [42] _ (typTs t.args 2) p1 x1 (by omega) s
         have hj:=QN [42] (typTs t.args 2) true
         obtain⟨y2,s2,e2,g2,h2⟩:=Qb2 (s:=s1) A1.slot (by omega) lv 1
         rw[q2] at e1
         simp only[go_sem,Nat.reduceAdd,Nat.reduceLeDiff,c,hk,hn,hm,e1,e2]
         exact⟨y2,s2,rfl,A1.grew.trans g2,h2⟩
       |false=>
         cases h0:decide (t.args.length=0) with
         |true=>
           have h0':decide ((t.args.length:Int)=0)=true:=by simpa using h0
           simp only[go_sem,Nat.reduceAdd,Nat.reduceLeDiff,c,hk,hn,hm,h0',Qh]
           exact⟨_,s,rfl,.refl s,(Qf [t.name]).slot⟩
         |false=>
           have h0':decide ((t.args.length:Int)=0)=false:=by simpa using h0
           cases h1:decide (t.args.length=1) with
           |true=>
             have h1':decide ((t.args.length:Int)=1)=true:=by simp at h1 ⊢;omega
             obtain⟨a,ha⟩:∃ a,t.args=[a]:=by
              simp only[decide_eq_true_eq] at h1
              match hq:t.args,h1 with
              |[a],_=>exact⟨a,rfl⟩
             have f0:=Q5I t (i:=0) (t:=a) (by rw[ha];rfl)
             obtain⟨y1,s1,e1,g1,k1⟩:=kids a (by rw[ha];simp) 2 s
             obtain⟨v1,av1,hv1⟩:=k1.av
             have la:=Q2h a 2
             have hz:a.size+1=t.size:=by rw[←hsz,ha];simp only[Ty.sizes,Nat.add_zero]
             obtain⟨y3,s3,e3,A3⟩:=QdP hv1 (Qf [t.name]) (by simp only[List.length_singleton];omega) s1
             have bs1:bslS 1 [y1,.val (.sl [.str t.name])]=some [v1,.sl [.str t.name]]:=by
              rw[hv1.bslx av1];rfl
             rw[show ((0:Nat):Int)=0 from rfl] at f0
             simp only[List.map_cons,List.map_nil] at e3
             simp only[go_sem,Nat.reduceAdd,Nat.reduceLeDiff,c,hk,hn,hm,h0',h1',f0,e1,Qh,bs1,e3]
             refine⟨y3,s3,rfl,g1.trans A3.grew,?_⟩
             have:=A3.slot
             rw[ha]
             simpa [typTs] using this
           |false=>
             have h1':decide ((t.args.length:Int)=1)=false:=by simp at h1 ⊢;omega
             obtain⟨y1,s1,e1,A1⟩:=Q0b [44] _ (typTs t.args 0) p2 x2 (by omega) s
             obtain⟨v1,av1,hv1⟩:=A1.strs
             have hj:=QN [44] (typTs t.args 0) true
             obtain⟨y2,s2,e2,A2⟩:=Q7i hv1 (by omega) s1
             obtain⟨v2,av2,hv2⟩:=A2.strs
             obtain⟨y3,s3,e3,A3⟩:=QdP hv2 (Qf [t.name]) (by simp only[List.length_append,List.length_cons,List.length_nil];omega) s2
             have bs1:bslS 1 [y2,.val (.sl [.str t.name])]=some [v2,.sl [.str t.name]]:=by
              rw[hv2.bslx av2];rfl
             rw[q0] at e1
             simp only[List.map_cons,List.map_nil] at e3
             simp only[go_sem,Nat.reduceAdd,Nat.reduceLeDiff,c,hk,hn,hm,h0',h1',e1,QS av1,e2,Qh,bs1,e3]
             exact⟨y3,s3,rfl,(A1.grew.trans A2.grew).trans A3.grew,by simpa using A3.slot⟩
end Go.Proofs.YtgfhplcmcdimiaaGreatDoor
namespace Go.Proofs.YtgfhplcmcdimiaaGreatDoor
open Go Go.Am
set_option linter.unusedVariables false
theorem Qao(n:Int)(c:Bool)(s:St):cw (.f Q5f) [.int .u8 n,.bool c] s=some (.ret (.val (.bool (letterR n c))),s):=by
 rw[Qcd];cases c <;> simp only[go_sem] <;> rfl
theorem Qce(n:Int)(s:St):cw (.f Q6U) [.int .u8 n] s=some (.ret (.val (.bool (restR n))),s):=by
 rw[QeT];simp only[go_sem];rfl
theorem Q3V(n a b:Int)(s:St):cw (.f Q13) [.int .i64 n,.int .i64 a,.int .i64 b] s=some (.ret (.val (.bool (isR n a b))),s):=by
 rw[Qhi];simp only[go_sem];rfl
theorem Qap(l:Str)(pre:Str):∀ (suf:Str) (s:St),pre++suf=l→l.length<2^62→Q0i (.val (.str l)) (.val (.int .i64 pre.length)) s=some (.ret (.val (.bool (suf.all λc=>restR c.toNat))),s):=by
 intro suf
 induction suf generalizing pre with
 |nil=>
   intro s h hl
   rw[List.append_nil] at h
   subst h
   rw[Q5W];simp only[Qfl,Qfj,Q8J Z4,Q6F,Q8v,Q6G]
   rw[Qd2 (by simp)]
   rfl
 |cons c suf ih=>
   intro s h hl
   have hc:l[pre.length]? = some c:=by rw[←h];simp
   have hlt:pre.length<l.length:=by rw[←h];simp
   have:=ih (pre++[c]) s (by simp[h]) hl
   rw[Q5W]
   simp only[Qfl,Qfj,Q8J Z4,Q6F,Q8v,Q6G]
   rw[Qd3 (by simpa using hlt),Q8E Z4 hc]
   simp only[go_sem,Qce]
   rw[wrap64 (by omega) (by omega)]
   have e:(pre.length:Int)+1=((pre++[c]).length:Int):=by simp
   rw[e,this]
   simp only[go_sem,List.all_cons]
   cases restR c.toNat <;> rfl
theorem Q6s(l:Str)(c:Bool)(s:St)(hl:l.length<2^62):cw (.f Q1y) [.str l,.bool c] s=some (.ret (.val (.bool (shapedR l c))),s):=by
 rw[Qcf]
 cases l with
 |nil=>simp only[go_sem];rfl
 |cons x l=>
   have h:=Qap (x::l) [x] l s rfl hl
   simp only[go_sem,List.length_singleton] at h
   simp only[go_sem,Qao,Q7W Z4 (List.cons_ne_nil x l)]
   have h':Q0i (.val (.str (x::l))) (.val (.int .i64 1)) s=some (.ret (.val (.bool (l.all λc=>restR c.toNat))),s):=h
   rw[h']
   show ifR _ _ _=some (Out.ret (.val (.bool (!(decide (((l.length+1:Nat):Int)<1) || decide (((l.length+1:Nat):Int)>32) || !letterR (((x::l).headD 0).toNat:Int) c)&&(l.all λc=>restR c.toNat)))),s)
   generalize (decide (((l.length+1:Nat):Int)<1) || decide (((l.length+1:Nat):Int)>32) || !letterR (((x::l).headD 0).toNat:Int) c)=b
   cases b <;> rfl
theorem Qbl(s:St):cw (.f Q69) [] s=some (.ret (.full (wordsR.map .str)),s):=by
 rw[Qdf];simp only[go_sem,Nat.reduceAdd];rfl
theorem Qbm(x:Str)(l:List Str)(pre:List Str):∀ (suf:List Str) (y:Slot) (s:St),y.list? = some (l.map .str)→pre++suf=l→l.length<2^62→Q1V (.val (.str x)) y (.val (.int .i64 pre.length)) s=some (.ret (.val (.bool (amongR x suf))),s):=by
 intro suf
 induction suf generalizing pre with
 |nil=>
   intro y s hy h hl
   rw[List.append_nil] at h
   subst h
   rw[Q6n];simp only[go_sem,hy]
   rw[Qd2 (by simp)]
   rfl
 |cons c suf ih=>
   intro y s hy h hl
   have hc:(l.map AV.str)[pre.length]? = some (.str c):=by rw[←h];simp
   have hlt:pre.length<l.length:=by rw[←h];simp
   have:=ih (pre++[c]) y s hy (by simp[h]) hl
   rw[Q6n]
   simp only[go_sem,hy]
   rw[Qd3 (by simpa using hlt),Q2A (sz:=1) hy hc rfl (by decide)]
   simp only[go_sem,Nat.reduceAdd,Nat.reduceLeDiff]
   rw[wrap64 (by omega) (by omega)]
   have e:(pre.length:Int)+1=((pre++[c]).length:Int):=by simp
   rw[e,this]
   simp only[go_sem,amongR,List.any_cons]
   cases decide (c=x) <;> rfl
theorem Qbn(x:Str)(l:List Str)(s:St)(hl:l.length<2^62)(nl:Bool):cw (.f Q3O) [.str x,encS nl (l.map .str)] s=some (.ret (.val (.bool (amongR x l))),s):=by
 rw[Qdg]
 exact Qbm x l [] l _ s (by simp only[go_sem]) rfl hl
theorem Q1O(l:Str)(s:St)(hl:l.length<2^62):cw (.f Q1m) [.str l] s=some (.ret (.val (.bool (lowR l))),s):=by
 rw[Qgo]
 have h:=λs=>Qbn l wordsR s (by decide) false
 rw[Q4E] at h
 simp only[go_sem,Q6s l _ _ hl,Qbl,h]
 rfl
theorem Q5R(l:Str)(s:St)(hl:l.length<2^62):cw (.f Q2G) [.str l] s=some (.ret (.val (.bool (capR l))),s):=by
 rw[Qbi]
 simp only[go_sem,Q6s l _ _ hl]
 rfl
theorem Q8d(l:Str)(s:St)(hl:l.length<2^62):cw (.f Q5z) [.str l] s=some (.ret (.val (.bool (conR l))),s):=by
 rw[Qgn]
 simp only[go_sem,Q5R l _ hl]
 rfl
theorem Qc7(n:Int)(s:St):cw (.f Q4n) [.int .i64 n] s=some (.ret (.val (.int .i64 (bif decide (n.tmod 2147483648<0) then (bif decide (n.tmod 2147483648+2147483648≥1073741824) then n.tmod 2147483648 else n.tmod 2147483648+2147483648) else (bif decide (n.tmod 2147483648≥1073741824) then n.tmod 2147483648 - 2147483648 else n.tmod 2147483648)))),s):=by
 rw[QeO]
 have h1:-2147483648<n.tmod 2147483648:=Int.lt_tmod_of_pos n (by decide)
 have h2:n.tmod 2147483648<2147483648:=Int.tmod_lt_of_pos n (by decide)
 simp only[go_sem,Int.reduceEq,ne_eq,not_false_eq_true,Qbg]
 generalize n.tmod 2147483648=m at *
 by_cases h:m<0
 ·simp only[go_sem,decide_eq_true h]
  rw[wrap64 (n:=m+2147483648) (by omega) (by omega),wrap64 (by omega) (by omega)]
  congr;omega
 ·simp only[go_sem,decide_eq_false h]
  rw[wrap64 (n:=m - 2147483648) (by omega) (by omega)]
end Go.Proofs.YtgfhplcmcdimiaaGreatDoor
namespace Go.Am
open Go
theorem Qfx(sub:List UInt8):Go.Lib.contains [] sub=sub.isEmpty:=by
 unfold Go.Lib.contains Go.Lib.index
 cases sub.isEmpty <;> rfl
theorem Q6b(c:UInt8)(s sub:List UInt8):Go.Lib.contains (c::s) sub=(sub.isPrefixOf (c::s) || Go.Lib.contains s sub):=by
 have h:=Go.Lib.index_ge s sub
 unfold Go.Lib.contains
 rw[Go.Lib.index]
 cases sub.isPrefixOf (c::s) with
 |true=>rfl
 |false=>
   simp only[Bool.false_eq_true,if_false,Bool.false_or]
   by_cases h1:Go.Lib.index s sub = -1
   ·rw[h1];rfl
   ·have h2:(Go.Lib.index s sub == -1)=false:=by simpa using h1
    rw[h2]
    simp only[Bool.false_eq_true,if_false]
    congr 1
    rw[eq_iff_iff]
    omega
theorem Qex:∀ (w T x:List UInt8),(∀ c ∈ w,c≠32)→Go.Lib.contains (w++T) (32::x)=Go.Lib.contains T (32::x)
 |[],_,_,_=>rfl
 |c::w,T,x,h=>by
   have hc:((32:UInt8) == c)=false:=by have:=h c (by simp);rw[beq_eq_false_iff_ne];exact λe=>this e.symm
   rw[List.cons_append,Q6b,List.isPrefixOf,hc,Bool.false_and,Bool.false_or]
   exact Qex w T x λd hd=>h d (List.mem_cons_of_mem _ hd)
theorem QaX:∀ (l w T:List UInt8),(∀ c ∈ l,c≠32)→(∀ c ∈ w,c≠32)→(l++[32]).isPrefixOf (w++32::T)=decide (l=w)
 |[],[],T,_,_=>by simp[List.isPrefixOf]
 |[],c::w,T,_,h=>by
   have hc:((32:UInt8) == c)=false:=by have:=h c (by simp);rw[beq_eq_false_iff_ne];exact λe=>this e.symm
   simp[List.isPrefixOf,hc]
 |a::l,[],T,h,_=>by
   have hc:(a == (32:UInt8))=false:=by have:=h a (by simp);rw[beq_eq_false_iff_ne];exact this
   simp[List.isPrefixOf,hc]
 |a::l,c::w,T,h,g=>by
   have ih:=QaX l w T (λd hd=>h d (List.mem_cons_of_mem _ hd)) (λd hd=>g d (List.mem_cons_of_mem _ hd))
   rw[List.cons_append,List.cons_append,List.isPrefixOf,ih]
   by_cases hac:a=c
   ·subst hac;simp
   ·have:(a == c)=false:=by rw[beq_eq_false_iff_ne];exact hac
    simp[this,hac]
theorem Qi6(l:Str)(hl:∀ c ∈ l,c≠32):∀ ws:List Str,(∀ w ∈ ws,∀ c ∈ w,c≠32)→Go.Lib.contains (32::(ws.flatMap λw=>w++[32])) (32::(l++[32]))=ws.any λw=>decide (l=w)
 |[],_=>by
   rw[List.flatMap_nil,Q6b,Qfx]
   cases l <;> simp[List.isPrefixOf]
 |w::ws,h=>by
   have hw:=h w (by simp)
   have e:(w::ws).flatMap (λw=>w++[32])=w++32::(ws.flatMap λw=>w++[32]):=by simp
   rw[e,Q6b,List.isPrefixOf,beq_self_eq_true,Bool.true_and,QaX l w _ hl hw,Qex w _ _ hw,Qi6 l hl ws λv hv=>h v (List.mem_cons_of_mem _ hv),List.any_cons]
def wordsAll:List Str:=wordsR++[[116,114,117,101],[102,97,108,115,101],[95]]
theorem Qlo:wordsS=32::(wordsAll.flatMap λw=>w++[32]):=by decide +kernel
theorem Qhu:∀ w ∈ wordsAll,∀ c ∈ w,c≠32:=by decide +kernel
theorem QmB(n:Int):restR n = !unrestB n:=by
 simp only[restR,unrestB,smallB,greatB]
 by_cases h1:n≥97 <;> by_cases h2:n≤122 <;> by_cases h3:n=95 <;> by_cases h4:n≥65 <;> by_cases h5:n≤90 <;> by_cases h6:n<48 <;> by_cases h7:n>57 <;> by_cases h8:n=39 <;> simp[h1,h2,h3,h4,h5,h6,h7,h8] <;> omega
theorem Q9V(l:Str)(cap:Bool):shapedR l cap=(!decide (l=[])&&letterR (headB l) cap&&runB l):=by
 have e:((l.drop 1).all λc=>restR c.toNat)=restAll (l.drop 1):=by
  unfold restAll
  congr 1
  funext c
  exact QmB _
 unfold shapedR runB
 rw[e]
 have e1:decide ((l.length:Int)<1)=decide (l=[]):=by cases l <;> simp;omega
 have e2:decide ((l.length:Int)>32) = !decide (l.length≤32):=by
  by_cases h:l.length≤32
  ·rw[decide_eq_true h,decide_eq_false (by omega)];rfl
  ·rw[decide_eq_false h,decide_eq_true (by omega)];rfl
 rw[e1,e2]
 cases decide (l=[]) <;> cases decide (l.length≤32) <;> cases letterR (headB l) cap <;> cases restAll (l.drop 1) <;> rfl
theorem Qje(l:Str):capR l=capB l:=Q9V l true
theorem Qjg(l:Str):conR l=conB l:=by unfold conR conB;rw[Qje]
theorem QkX(l:Str)(h:shapedR l false=true):∀ c ∈ l,c≠32:=by
 rw[Q9V] at h
 simp only[Bool.and_eq_true] at h
 obtain⟨⟨h0,h1⟩,h2⟩:=h
 cases l with
 |nil=>intro c hc;cases hc
 |cons a l=>
   intro c hc e
   subst e
   rcases List.mem_cons.1 hc with rfl | hc
   ·change letterR 32 false=true at h1
    revert h1;decide
   ·simp only[runB,Bool.and_eq_true,restAll,List.drop_one,List.tail_cons,List.all_eq_true] at h2
    have:=h2.1 32 hc
    revert this;decide
theorem Q9N(l:Str):lowR l=lowB l:=by
 unfold lowR
 have e:lowB l=(shapedR l false && !Go.Lib.contains wordsS (32::(l++[32]))):=by rw[Q9V];rfl
 rw[e]
 cases hs:shapedR l false with
 |false=>rfl
 |true=>
   rw[Qlo,Qi6 l (QkX l hs) wordsAll Qhu]
   unfold wordsAll amongR
   rw[List.any_append]
   have e3:(wordsR.any λw=>decide (w=l))=wordsR.any λw=>decide (l=w):=by congr 1;funext w;congr 1;rw[eq_iff_iff];exact eq_comm
   rw[e3]
   simp only[List.any_cons,List.any_nil]
   cases (wordsR.any λw=>decide (l=w)) <;> cases decide (l=[95]) <;> cases decide (l=[116,114,117,101]) <;> cases decide (l=[102,97,108,115,101]) <;> rfl
theorem Qmr:lowB [105,110,116]=true:=by decide +kernel
theorem QkP:lowB [98,111,111,108]=true:=by decide +kernel
theorem QkQ:lowB [117,110,105,116]=true:=by decide +kernel
theorem Qmq:lowB [101,120,110]=true:=by decide +kernel
end Go.Am