/- A part of the proof: A24, A25, A26, A28, T1. -/
import Derived.Test.YtobelgghegmhhaaGreatDoorM2
import Derived.Shelf.Strings.Search3
import Derived.Lib.Join
import Derived.Lib.Bytealg
import Derived.Lib.ItoaNum
set_option linter.unusedVariables false
set_option linter.unusedSimpArgs false
open Bool renaming and_eq_true→Ya
open List renaming length_append→Ye,length_cons→Yg,length_map→Yh,map_cons→Yi,cons_append→Yk,mem_append_left→Ym,map_nil→Yn,nil_append→Yo,length_nil→Yp,mem_append_right→Yq,append_assoc→Yr
open Nat renaming le_refl→Yd
namespace Go.Am
open Go
def Le(r r':Res):Prop:=∀ x,r=some x->r'=some x
theorem Le.refl(r:Res):Le r r:=λ_ h=>h
theorem Le.trans{a b c:Res}(h:Le a b)(k:Le b c):Le a c:=λx hx=>k x (h x hx)
theorem Le.none(r:Res):Le none r:=λ_ h=>by cases h
def Fs{α:Type}(Φ:CallFn->(α->Res)->Res):Prop:=
 ∀ cl k x,Φ cl k=some x->∃ (Lc:List (Callee × List AV × St)) (Lk:List α),∀ cl' k',(∀ p ∈ Lc,Le (cl p.1 p.2.1 p.2.2) (cl' p.1 p.2.1 p.2.2))->(∀ a ∈ Lk,Le (k a) (k' a))->Φ cl' k'=some x
section
variable {α β:Type}
theorem Qp(r:Res):Fs (α:=α) λ_ _=>r:=λ_ _ _ h=>⟨[],[],λ_ _ _ _=>h⟩
theorem Q0A(a:α):Fs λ_ (k:α->Res)=>k a:=λ_ _ x h=>⟨[],[a],λ_ _ _ hk=>hk a (by simp) x h⟩
theorem Qft{Ψ:α->CallFn->(β->Res)->Res}(h:∀ a,Fs (Ψ a))(cl:CallFn)(k:β->Res):∀ L:List α,∃ (Lc:List (Callee × List AV × St)) (Lk:List β),∀ cl' k',
  (∀ p ∈ Lc,Le (cl p.1 p.2.1 p.2.2) (cl' p.1 p.2.1 p.2.2))->(∀ a ∈ Lk,Le (k a) (k' a))->∀ a ∈ L,Le (Ψ a cl k) (Ψ a cl' k')
 |[]=>⟨[],[],λ_ _ _ _ a ha=>by cases ha⟩
 |a::L=>by
   obtain⟨Lc,Lk,h1⟩:=Qft h cl k L
   cases hx:Ψ a cl k with
   |none=>
     refine⟨Lc,Lk,λcl' k' hc hk b hb=>?_⟩
     rcases List.mem_cons.1 hb with rfl|hb
     ·rw[hx];exact Le.none _
     ·exact h1 cl' k' hc hk b hb
   |some x=>
     obtain⟨Mc,Mk,h2⟩:=h a cl k x hx
     refine⟨Mc++Lc,Mk++Lk,λcl' k' hc hk b hb=>?_⟩
     rcases List.mem_cons.1 hb with rfl|hb
     ·intro y hy
      rw[hx] at hy
      rw[<-hy]
      exact h2 cl' k' (λp hp=>hc p (Ym _ hp)) (λp hp=>hk p (Ym _ hp))
     ·exact h1 cl' k' (λp hp=>hc p (Yq _ hp)) (λp hp=>hk p (Yq _ hp)) b hb
theorem Q2L{Φ:CallFn->(α->Res)->Res}{Ψ:α->CallFn->(β->Res)->Res}(h:Fs Φ)(g:∀ a,Fs (Ψ a)):Fs λcl k=>Φ cl λa=>Ψ a cl k:=by
 intro cl k x hx
 obtain⟨Lc,Lk,h1⟩:=h cl _ x hx
 obtain⟨Mc,Mk,h2⟩:=Qft g cl k Lk
 exact⟨Lc++Mc,Mk,λcl' k' hc hk=>h1 cl' _ (λp hp=>hc p (Ym _ hp)) (h2 cl' k' (λp hp=>hc p (Yq _ hp)) hk)⟩
theorem QbX{m:(α->Res)->Res}(h:Det m):Fs λ_ k=>m k:=by
 rcases h with h|⟨a,h⟩
 ·intro _ k x hx;simp only[h] at hx;cases hx
 ·intro _ k x hx
  simp only[h] at hx
  exact⟨[],[a],λ_ k' _ hk=>by simp only[h];exact hk a (by simp) x hx⟩
theorem Fs.congr{Φ Φ':CallFn->(α->Res)->Res}(h:Fs Φ')(e:∀ cl k,Φ cl k=Φ' cl k):Fs Φ:=by
 have:Φ=Φ':=funext λcl=>funext λk=>e cl k
 rw[this];exact h
theorem Fs.mono{Φ:CallFn->(α->Res)->Res}(h:Fs Φ){cl cl':CallFn}{k k':α->Res}(hc:∀ c l s,Le (cl c l s) (cl' c l s))(hk:∀ a,Le (k a) (k' a)):Le (Φ cl k) (Φ cl' k'):=λx hx=>by
 obtain⟨Lc,Lk,h1⟩:=h cl k x hx
 exact h1 cl' k' (λp _=>hc _ _ _) (λa _=>hk a)
theorem QbW(w:Bool)(t:Option (Callee × List AV))(s:St)(p:Bool):Fs λcl (k:Slot × St->Res)=>back (bif p then noPan (cal cl w t s) else cal cl w t s) λv s=>k (v,s):=by
 have hcase:∀ r:Res,Fs λ(_:CallFn) (k:Slot × St->Res)=>back (bif p then noPan r else r) λv s=>k (v,s):=λr=>by
  rcases r with _|⟨o,s1⟩
  ·exact (Qp none).congr λ_ _=>by cases p<;>rfl
  ·cases o with
   |ret v=>exact (Q0A (v,s1)).congr λ_ _=>by cases p<;>rfl
   |pan v=>cases p with
     |true=>exact (Qp none).congr λ_ _=>rfl
     |false=>exact (Qp (some (.pan v,s1))).congr λ_ _=>rfl
 cases w with
 |false=>exact (hcase (some (.ret .no,s))).congr λ_ _=>rfl
 |true=>
   rcases t with _|⟨c,l⟩
   ·exact (hcase none).congr λ_ _=>rfl
   ·intro cl k x hx
    have hx':back (bif p then noPan (cl c l s) else cl c l s) (λv s=>k (v,s))=some x:=hx
    cases hr:cl c l s with
    |none=>rw[hr] at hx';cases p<;>cases hx'
    |some r=>
      rw[hr] at hx'
      obtain⟨_,Lk,h1⟩:=hcase (some r) cl k x hx'
      refine⟨[(c,l,s)],Lk,λcl' k' hc hk=>?_⟩
      have h2:cl' c l s=some r:=hc (c,l,s) (by simp) r hr
      show back (bif p then noPan (cl' c l s) else cl' c l s) (λv s=>k' (v,s))=some x
      rw[h2]
      exact h1 cl k' (λ_ _=>Le.refl _) hk
variable {C:Cfg} {dr r:Bool} {f:FuncId} {all:List Oper}
theorem Zj{m:(α->Res)->Res}(h:∀ k,m k=none):Det m:=.inl h
theorem Q3P{m:(α->Res)->Res}(x:α)(h:∀ k,m k=k x):Det m:=.inr ⟨x,h⟩
theorem QdR(mo:AMode)(t:TypeId)(cs:List Slot)(old:Ent)(s:St)(e:Env):Fs λ_ (k:Ent × Env × St->Res)=>newS mo t cs old s λv s=>k (v,e,s):=by
 refine QbX ?_
 cases mo with
 |var=>cases old<;>first|exact Q3P (.var cs,e,s) λ_=>rfl|exact Zj λ_=>rfl
 |con=>
   cases h:avs cs with
   |none=>exact Zj λ_=>by simp[newS,h,bindA]
   |some l=>exact Q3P (.s (.val (.cp l)),e,s) λ_=>by simp[newS,h,bindA]
 |loc=>exact Q3P (.s (.val (.vp s.locs.length 0)),e,s.addLoc (.var cs)) λ_=>rfl
 |tl=>
   cases hc:cs.isEmpty with
   |true=>exact Zj λ_=>by simp only[newS,hc];rfl
   |false=>exact Q3P (.s (.val (.vp s.locs.length 0)),e,s.addLocT (.var cs) t) λ_=>by simp only[newS,hc];rfl
theorem Qkk(rt:Root)(x:Option Nat)(e:Env)(s:St)(a:Ent)(cs:List Slot):Fs λ_ (k:Ent × Env × St->Res)=>stS rt x e s a cs λe s=>k (.s .no,e,s):=by
 refine QbX ?_
 unfold stS
 cases rootOk rt x a with
 |false=>exact Zj λ_=>rfl
 |true=>
   simp only[cond_true]
   cases a with
   |none=>exact Zj λ_=>rfl
   |s v=>
     cases hn:nwOk rt s v with
     |false=>exact Zj λ_=>by simp only[hn,cond_false]
     |true=>
     cases h:stV s v cs with
     |none=>exact Zj λ_=>by simp only[hn,cond_true,h,bindS]
     |some s1=>exact Q3P (.s .no,e,s1) λ_=>by simp only[hn,cond_true,h,bindS]
   |var l=>
     cases x with
     |none=>exact Zj λ_=>rfl
     |some d=>
       cases h:putAt l 0 cs with
       |none=>exact Zj λ_=>by simp only[h,bindL]
       |some l'=>exact Q3P (.s .no,(d,.var l')::e,s) λ_=>by simp only[h,bindL]
   |ptr w d off=>
     cases h:e.get d with
     |var l=>
       simp only[h]
       cases h2:(bif w then putAt l off cs else none) with
       |none=>exact Zj λ_=>by simp only[bindL]
       |some l'=>exact Q3P (.s .no,(d,.var l')::e,s) λ_=>by simp only[bindL]
     |none=>exact Zj λ_=>by simp only[h]
     |s _=>exact Zj λ_=>by simp only[h]
     |ptr _ _ _=>exact Zj λ_=>by simp only[h]
theorem Q20(x:Option (Slot × St))(e:Env):Fs λ_ (k:Ent × Env × St->Res)=>bind2 x λv s=>k (.s v,e,s):=by
 rcases x with _|⟨v,s⟩
 ·exact Qp none
 ·exact Q0A (Ent.s v,e,s)
theorem QbV(x:Option (List Slot)){Φ:List Slot->CallFn->(α->Res)->Res}(h:∀ l,Fs (Φ l)):Fs λcl k=>bindL x λl=>Φ l cl k:=by
 cases x with
 |none=>exact Qp none
 |some l=>exact h l
theorem Qid(o:Oper)(rt:Root)(w:Bool)(e:Env)(s:St):Fs λcl (k:Ent × Env × St->Res)=>effK C cl dr f o rt w e s λv e s=>k (v,e,s):=by
 have val:∀ (g:Operand) (ags:Array Operand) (ts:Array TypeId),o.op = .call { callee:=.value g,args:=ags,argTypes:=ts }->Fs λcl (k:Ent × Env × St->Res)=>effK C cl dr f o rt w e s λv e s=>k (v,e,s):=λg ags ts ho=>by
  have:=Q2L (QbW w (tgtV (opnd C e g) (ags.toList.map (opnd C e))) s dr) (Ψ:=λ(p:Slot × St) (_:CallFn) (k:Ent × Env × St->Res)=>k (.s p.1,e,p.2)) (λp=>Q0A (Ent.s p.1,e,p.2))
  exact this.congr λcl k=>by unfold effK;rw[ho]<;>rfl
 have non:∀ m:CallFn->(Ent × Env × St->Res)->Res,Fs m->(∀ cl k,effK C cl dr f o rt w e s (λv e s=>k (v,e,s))=(bif w then m cl k else k (.s .no,e,s)))->Fs λcl (k:Ent × Env × St->Res)=>effK C cl dr f o rt w e s λv e s=>k (v,e,s):=λm hm he=>by
  cases w with
  |false=>exact (Q0A (Ent.s .no,e,s)).congr λcl k=>he cl k
  |true=>exact hm.congr λcl k=>he cl k
 cases ho:o.op
 case alloc t=>
  refine non (λ_ k=>bif (C.ti t).isGood then newS (dstMode C f o) t ((C.ti t).zero.map .val) (dstOld e o) s (λv s=>k (v,e,s)) else none) ?_ λcl k=>by unfold effK;rw[ho]<;>rfl
  cases (C.ti t).isGood with
  |false=>exact Qp none
  |true=>exact QdR _ _ _ _ _ _
 case box t x=>exact non (λ_ k=>bindL (boxCells (C.ti t) (opnd C e x)) λcs=>newS (dstMode C f o) t cs (dstOld e o) s (λv s=>k (v,e,s))) (QbV _ λcs=>QdR _ _ _ _ _ _) λcl k=>by unfold effK;rw[ho]<;>rfl
 case store t a x=>exact non (λ_ k=>bindL (boxCells (C.ti t) (opnd C e x)) λcs=>stS rt (Operand.tmp? a) e s (ent C e a) cs (λe s=>k (.s .no,e,s))) (QbV _ λcs=>Qkk _ _ _ _ _ _) λcl k=>by unfold effK;rw[ho]<;>rfl
 case panic x=>
  refine non (λ_ _=>bif dr then none else panK (opnd C e x) s) ?_ λcl k=>by unfold effK;rw[ho]<;>rfl
  exact Qp _
 case makeSlice t l c=>
  refine non (λ_ k=>match (C.ti t).k with
   |.slice et=>bif (dstMode C f o).isLoc then bind2 (makeV et (C.ti et) s (opnd C e l) (opnd C e c)) (λv s=>k (.s v,e,s)) else bind2 (makeS et (C.ti et) s (opnd C e l) (opnd C e c)) (λv s=>k (.s v,e,s))
   |_=>none) ?_ λcl k=>by unfold effK;rw[ho]<;>rfl
  split
  ·cases (dstMode C f o).isLoc<;>exact Q20 _ _
  ·exact Qp none
 case buildSlice t n ps=>
  refine non (λ_ k=>match (C.ti t).k with
   |.slice et=>bif inOrder 0 ps.toList&&Nat.beq ps.toList.length n&&Nat.ble (n*(C.ti et).size) 16777216&&Nat.blt 0 (C.ti et).size then bind2 (bslV et (C.ti et) s (ps.toList.map λp=>opnd C e p.2)) (λv s=>k (.s v,e,s)) else none
   |_=>none) ?_ λcl k=>by unfold effK;rw[ho]<;>rfl
  split
  ·rename_i et _
   cases (inOrder 0 ps.toList&&Nat.beq ps.toList.length n&&Nat.ble (n*(C.ti et).size) 16777216&&Nat.blt 0 (C.ti et).size)
   ·exact Qp none
   ·exact Q20 _ _
  ·exact Qp none
 case call c=>
  obtain⟨callee,ags,ts⟩:=c
  cases callee with
  |value g=>exact val g ags ts ho
  |builtin b=>
    cases b
    case append=>
     refine non (λ_ k=>match ags.toList,ts.toList with
      |[x,y],[t,u]=>match (C.ti t).k,Nat.beq t u with
        |.slice et,true=>bif (dstMode C f o).isLoc then bind2 (appendV et (C.ti et) s (opnd C e x) (opnd C e y)) (λv s=>k (.s v,e,s)) else bind2 (appendS et (C.ti et) s (opnd C e x) (opnd C e y)) (λv s=>k (.s v,e,s))
        |.slice et,false=>bind2 (appendX C et u s (opnd C e x) (opnd C e y)) (λv s=>k (.s v,e,s))
        |_,_=>none
      |_,_=>none) ?_ λcl k=>by unfold effK;rw[ho]<;>rfl
     split
     ·split
      ·cases (dstMode C f o).isLoc<;>exact Q20 _ _
      ·exact Q20 _ _
      ·exact Qp none
     ·exact Qp none
    all_goals exact non (λ_ k=>bind2 (effM C e s o.op) (λv s=>k (.s v,e,s))) (Q20 _ _) λcl k=>by unfold effK;rw[ho]<;>rfl
  |_=>exact non (λ_ k=>bind2 (effM C e s o.op) (λv s=>k (.s v,e,s))) (Q20 _ _) λcl k=>by unfold effK;rw[ho]<;>rfl
 all_goals exact non (λ_ k=>bind2 (effM C e s o.op) (λv s=>k (.s v,e,s))) (Q20 _ _) λcl k=>by unfold effK;rw[ho]<;>rfl
theorem Q6U:∀ (os:List Oper) (rts:List (Option Nat)) (e:Env) (s:St),Fs λcl (k:Env × St->Res)=>opsK C cl dr r f all os rts e s λe s=>k (e,s)
 |[],_,e,s=>Q0A (e,s)
 |o::os,rts,e,s=>by
   cases hw:wants all e o.guard with
   |none=>exact (Qp none).congr λcl k=>by rw[Q1p,hw];rfl
   |some w=>
     cases hp:isPureO C f o with
     |true=>
       exact (Q2L (QbX (Qar (C:=C) (e:=e) o.op w)) (λv=>Q6U os rts.tail (put o.dst v e) s)).congr λcl k=>by rw[Q1p,hw];simp only[bindB,hp,cond_true]
     |false=>
       cases hr:isRead o.op with
       |true=>
         cases hx:gd w (readS C r (rootOf dr rts) e s o.op) with
         |none=>exact (Qp none).congr λcl k=>by rw[Q1p,hw];simp only[bindB,hp,hr,hx,cond_true,cond_false,bind1]
         |some v=>exact (Q6U os rts.tail (put o.dst (.s v) e) s).congr λcl k=>by rw[Q1p,hw];simp only[bindB,hp,hr,hx,cond_true,cond_false,bind1]
       |false=>
         exact (Q2L (Qid (C:=C) (dr:=dr) (f:=f) o (rootOf dr rts) w e s) (Ψ:=λ(p:Ent × Env × St) cl (k:Env × St->Res)=>opsK C cl dr r f all os rts.tail (put o.dst p.1 p.2.1) p.2.2 λe s=>k (e,s)) (λp=>Q6U os rts.tail (put o.dst p.1 p.2.1) p.2.2)).congr λcl k=>by rw[Q1p,hw];simp only[bindB,hp,hr,cond_false]
theorem QbR(ti:TypeId->TI):∀ (ts:List Nat) (e:Env) (s:St),(∀ k:Env->St->Res,frzE ti ts e s k=none)\/∃ e' s',∀ k:Env->St->Res,frzE ti ts e s k=k e' s'
 |[],e,s=>.inr ⟨e,s,λ_=>rfl⟩
 |t::ts,e,s=>by
   cases h:frzEnt ti (e.get t) s with
   |none=>exact .inl λk=>by simp only[frzE,Q3B,h]
   |some p=>
     rcases QbR ti ts ((t,p.1)::e) p.2 with h1|⟨e',s',h1⟩
     ·exact .inl λk=>by simp only[frzE,Q3B,h];exact h1 k
     ·exact .inr ⟨e',s',λk=>by simp only[frzE,Q3B,h];exact h1 k⟩
theorem Qe1(ti:TypeId->TI)(ts:List Nat)(os:List Oper)(rts:List (Option Nat))(e:Env)(s:St):Fs λcl (k:Env × St->Res)=>frzE ti ts e s λe s=>opsK C cl dr r f all os rts e s λe s=>k (e,s):=by
 rcases QbR ti ts e s with h|⟨e',s',h⟩
 ·exact (Qp none).congr λcl k=>h _
 ·exact (Q6U os rts e' s').congr λcl k=>h _
abbrev KT:=AExit × Env × St
def unc(k:K):KT->Res:=λp=>k p.1 p.2.1 p.2.2
def cur(k:KT->Res):K:=λx e s=>k (x,e,s)
theorem Qes{Φ:CallFn->K->Res}(h:Fs λcl (k:KT->Res)=>Φ cl (cur k))(Ψ:KT->CallFn->(KT->Res)->Res)(hg:∀ p,Fs (Ψ p)):Fs λcl (k:KT->Res)=>Φ cl (λx e s=>Ψ (x,e,s) cl k):=
 Q2L h hg
theorem Qce{Φ:Env->St->CallFn->K->Res}(h:∀ e s,Fs λcl (k:KT->Res)=>Φ e s cl (cur k))(ks:List Nat):∀ (n:Nat) (e:Env) (s:St),Fs λcl (k:KT->Res)=>loopN (λe s k=>Φ e s cl k) ks n e s (cur k)
 |0,_,_=>Qp none
 |n+1,e,s=>by
   have ih:=Qce h ks n
   exact Qes (h e s) (λp cl k=>match p.1 with
    |.normal=>loopN (λe s k=>Φ e s cl k) ks n (keepE ks p.2.1) p.2.2 (cur k)
    |x=>k (x,p.2.1,p.2.2)) λp=>by
      obtain⟨x,e,s⟩:=p
      cases x with
      |normal=>exact ih _ _
      |exit id=>exact Q0A (AExit.exit id,e,s)
      |ret=>exact Q0A (AExit.ret,e,s)
theorem QgS(p:Option AExit)(e:Env)(s:St):Fs λ_ (k:KT->Res)=>pendK p (cur k) e s:=by
 cases p with
 |none=>exact Q0A (AExit.normal,e,s)
 |some x=>exact (Q0A (x,e,s)).congr λ_ _=>QeI _ _ _ _
theorem QdQ(loc:Nat)(e:Env)(s:St):Fs λ_ (k:KT->Res)=>endK loc e s (cur k):=by
 unfold endK endX
 split
 ·rename_i st pend _ _ _ _ _ _
  split
  ·exact Qp none
  ·cases setLoop loc .exhausted pend s with
   |none=>exact Qp none
   |some s1=>exact QgS pend e s1
 ·exact Qp none
theorem Q0z(m:Nat)(g rd:Bool):∀ (c:Code) (e:Env) (s:St),Fs λcl (k:KT->Res)=>exec C cl m g rd f c e s (cur k)
 |.skip,e,s=>Q0A (AExit.normal,e,s)
 |.region id ops draw,e,s=>Q2L (Qe1 (C:=C) (dr:=draw) (r:=bif draw then (C.draws f id).1 else false) (f:=f) (all:=ops.toList) C.ti (C.frz f id) ops.toList (C.draws f id).2 e s) (Ψ:=λ(p:Env × St) (_:CallFn) (k:KT->Res)=>k (AExit.normal,p.1,p.2)) (λp=>Q0A (AExit.normal,p.1,p.2))
 | .seq a b, e, s => Qes (Q0z m g rd a e s) (fun p cl k => match p.1 with
    |.normal=>cutK g (C.cut f (regionOf b)) (λe s k=>exec C cl m g rd f b e s k) p.2.1 p.2.2 (cur k)
    |x=>k (x,p.2.1,p.2.2)) λp=>by
      obtain⟨x,e,s⟩:=p
      cases x with
      |normal=>
        simp only[cutK]
        cases C.cut f (regionOf b) with
        |none=>exact Q0z m g rd b e s
        |some l=>cases g with
          |true=>exact Q0z m true rd b (keepE l e) s
          |false=>exact Qp none
      |exit id=>exact Q0A (AExit.exit id,e,s)
      |ret=>exact Q0A (AExit.ret,e,s)
 |.cond c a b,e,s=>by
   simp only[exec,condS]
   cases (opnd C e c).bool? with
   |none=>exact Qp none
   |some t=>cases t with
     |true=>exact Q0z m g rd a e s
     |false=>exact Q0z m g rd b e s
 | .block id b, e, s => Qes (Q0z m g rd b e s) (fun p _ k => match p.1 with
    |.exit j=>bif Nat.beq j id then k (.normal,p.2.1,p.2.2) else k (.exit j,p.2.1,p.2.2)
    |x=>k (x,p.2.1,p.2.2)) λp=>by
      obtain⟨x,e,s⟩:=p
      cases x with
      |normal=>exact Q0A (AExit.normal,e,s)
      |exit j=>cases h:Nat.beq j id with
        |true=>simp only[h,cond_true];exact Q0A (AExit.normal,e,s)
        |false=>simp only[h,cond_false];exact Q0A (AExit.exit j,e,s)
      |ret=>exact Q0A (AExit.ret,e,s)
 |.loop b,e,s=>Qce (λe s=>Q0z m g rd b e s) _ m _ s
 |.exit id,e,s=>Q0A (AExit.exit id,e,s)
 |.scope b,e,s=>Q0z m g rd b e s
 |.label _,e,s=>Q0A (AExit.normal,e,s)
 |.ret,e,s=>Q0A (AExit.ret,e,s)
 |.rangeFunc h ps asg body,e,s=>by
   simp only[exec]
   cases rd with
   |true=>exact Qp none
   |false=>
     simp only[cond_false]
     split
     ·rename_i q l _
      cases (C.ext q).isSome with
      |true=>exact Qp none
      |false=>
        simp only[cond_false]
        exact (Q2L (QbW true (some (.f q,.yld s.locs.length::l)) (s.addLoc (.loop .ready none f (stripE (C.keep f (regionOf asg)) e) ps.toList asg body)) false) (Ψ:=λ(p:Slot × St) (_:CallFn) (k:KT->Res)=>endK s.locs.length e p.2 (cur k)) (λp=>QdQ _ _ _)).congr λ_ _=>rfl
     ·exact Qp none
 |.goto _,_,_=>Qp none
 |.refuse _,_,_=>Qp none
end
section
variable {C:Cfg} {f:FuncId}
theorem Qcg{Φ:CallFn->K->Res}(h:Fs λcl (k:KT->Res)=>Φ cl (cur k)){cl cl':CallFn}{k k':K}(hc:∀ c l s,Le (cl c l s) (cl' c l s))(hk:∀ x e s,Le (k x e s) (k' x e s)):Le (Φ cl k) (Φ cl' k'):=
 Fs.mono h (k:=unc k) (k':=unc k') hc (λp=>hk p.1 p.2.1 p.2.2)
theorem Q5k{B B':Env->St->K->Res}(hB:∀ e s k k',(∀ x e s,Le (k x e s) (k' x e s))->Le (B e s k) (B' e s k')){ks:List Nat}:∀ {n n':Nat} (_:n<=n') {e:Env} {s:St} {k k':K},(∀ x e s,Le (k x e s) (k' x e s))->Le (loopN B ks n e s k) (loopN B' ks n' e s k')
 |0,_,_,_,_,_,_,_=>Le.none _
 |n+1,0,h,_,_,_,_,_=>by omega
 |n+1,n'+1,h,e,s,k,k',hk=>hB e s _ _ λx e s=>by
   cases x with
   |normal=>exact Q5k hB (Nat.le_of_succ_le_succ h) hk
   |exit id=>exact hk _ _ _
   |ret=>exact hk _ _ _
theorem QY{cl cl':CallFn}{m m':Nat}{g g' rd:Bool}(hc:∀ c l s,Le (cl c l s) (cl' c l s))(hm:m<=m')(hg:g=true->g'=true) :
  ∀ (c:Code) (e:Env) (s:St) (k k':K),(∀ x e s,Le (k x e s) (k' x e s))->Le (exec C cl m g rd f c e s k) (exec C cl' m' g' rd f c e s k')
 |.skip,e,s,k,k',hk=>hk _ _ _
 |.region id ops draw,e,s,k,k',hk=>Qcg (Φ:=λcl k=>exec C cl m g rd f (.region id ops draw) e s k) (Q0z m g rd _ e s) hc hk
 |.seq a b,e,s,k,k',hk=>QY hc hm hg a e s _ _ λx e s=>by
   cases x with
   |normal=>
     simp only[cutK]
     cases C.cut f (regionOf b) with
     |none=>exact QY hc hm hg b e s k k' hk
     |some l=>
       cases g with
       |false=>exact Le.none _
       |true=>rw[hg rfl];exact QY hc hm (λ_=>rfl) b _ s k k' hk
   |exit id=>exact hk _ _ _
   |ret=>exact hk _ _ _
 |.cond c a b,e,s,k,k',hk=>by
   simp only[exec,condS]
   cases (opnd C e c).bool? with
   |none=>exact Le.none _
   |some t=>cases t with
     |true=>exact QY hc hm hg a e s k k' hk
     |false=>exact QY hc hm hg b e s k k' hk
 |.block id b,e,s,k,k',hk=>QY hc hm hg b e s _ _ λx e s=>by
   cases x with
   |normal=>exact hk _ _ _
   |exit j=>cases h:Nat.beq j id with
     |true=>simp only[h,cond_true];exact hk _ _ _
     |false=>simp only[h,cond_false];exact hk _ _ _
   |ret=>exact hk _ _ _
 |.loop b,e,s,k,k',hk=>Q5k (λe s k k' hk=>QY hc hm hg b e s k k' hk) hm hk
 |.exit id,e,s,k,k',hk=>hk _ _ _
 |.scope b,e,s,k,k',hk=>QY hc hm hg b e s k k' hk
 |.label _,e,s,k,k',hk=>hk _ _ _
 |.ret,e,s,k,k',hk=>hk _ _ _
 |.rangeFunc h ps asg body,e,s,k,k',hk=>Qcg (Φ:=λcl k=>exec C cl m g rd f (.rangeFunc h ps asg body) e s k) (Q0z m g rd _ e s) hc hk
 |.goto _,_,_,_,_,_=>Le.none _
 |.refuse _,_,_,_,_,_=>Le.none _
theorem Qcj{r r':Res}(h:Le r r'):Le (noPan r) (noPan r'):=λx hx=>by
 unfold noPan at hx
 split at hx
 ·rw[h _ rfl];exact hx
 ·cases hx
theorem ZN{n m:Nat}(h:n<=m)(k:gate n=true):gate m=true:=by
 cases n with
 |zero=>cases k
 |succ n=>cases m with
   |zero=>omega
   |succ m=>rfl
theorem Q46:∀ (n:Nat),(∀ c l s,Le (call C n c l s) (call C (n+1) c l s))
 |0,_,_,_=>Le.none _
 |n+1,.f f,l,s=>by
   simp only[call]
   cases C.ext f with
   |some g=>exact Le.refl _
   |none=>
     simp only[]
     cases C.code f with
     |none=>exact Le.none _
     |some fn=>
       simp only[]
       cases fn.body with
       |none=>exact Le.none _
       |some b=>
         simp only[]
         cases Nat.ble l.length fn.ntmps with
         |false=>exact Le.none _
         |true=>exact QY (Q46 n) (Nat.le_succ n) (ZN (Nat.le_succ n)) b _ _ _ _ λ_ _ _=>Le.refl _
 |n+1,.y loc,l,s=>by
   simp only[call]
   split
   ·split
    ·refine Qcj (QY (Q46 n) (Nat.le_succ n) (ZN (Nat.le_succ n)) _ _ _ _ _ λx e s=>?_)
     cases x with
     |normal=>
       simp only[]
       cases beginL loc s with
       |none=>exact Le.none _
       |some s1=>exact QY (Q46 n) (Nat.le_succ n) (ZN (Nat.le_succ n)) _ _ _ _ _ λ_ _ _=>Le.refl _
     |exit id=>exact Le.none _
     |ret=>exact Le.none _
    ·exact Le.none _
   ·exact Le.none _
def Chain(r:Nat->Res):Prop:=∀ n m,n<=m->Le (r n) (r m)
theorem QaQ{r:Nat->Res}(h:∀ n,Le (r n) (r (n+1))):Chain r:=λn m hnm=>by
 induction hnm with
 |refl=>exact Le.refl _
 |step _ ih=>exact ih.trans (h _)
theorem Q09(c:Callee)(l:List AV)(s:St):Chain λn=>call C n c l s:=QaQ λn=>Q46 n c l s
open Classical in
noncomputable def lim(r:Nat->Res):Res:=if h:∃ n x,r n=some x then r (Classical.choose h) else none
theorem Q0p{r:Nat->Res}(h:Chain r){x:Out × St}:lim r=some x↔∃ n,r n=some x:=by
 unfold lim
 constructor
 ·intro hx
  split at hx
  ·exact⟨_,hx⟩
  ·cases hx
 ·rintro⟨n,hn⟩
  have hex:∃ n x,r n=some x:=⟨n,x,hn⟩
  rw[dif_pos hex]
  obtain⟨y,hy⟩:=Classical.choose_spec hex
  rw[hy]
  rcases Nat.le_total n (Classical.choose hex) with hle|hle
  ·have:=h _ _ hle x hn;rw[hy] at this;exact this
  ·have:=h _ _ hle y hy;rw[hn] at this;exact this.symm
theorem Q9G{a b:Res}(h:∀ x,a=some x↔b=some x):a=b:=by
 cases a with
 |none=>cases b with
   |none=>rfl
   |some y=>exact ((h y).2 rfl)
 |some x=>exact ((h x).1 rfl).symm
theorem Q4d{r r':Nat->Res}(h:Chain r)(h':Chain r')(k:∀ x,(∃ n,r n=some x)↔∃ n,r' n=some x):lim r=lim r':=
 Q9G λx=>by rw[Q0p h,Q0p h'];exact k x
theorem lim_const{r:Res}:lim (λ_=>r)=r:=Q9G λx=>by rw[Q0p λ_ _ _=>Le.refl _];exact⟨λ⟨_,h⟩=>h,λh=>⟨0,h⟩⟩
theorem Qcb{r:Nat->Res}(h:Chain r):lim (λn=>r (n+1))=lim r:=
 Q4d (λn m k=>h _ _ (Nat.succ_le_succ k)) h λx=>⟨λ⟨n,hn⟩=>⟨n+1,hn⟩,λ⟨n,hn⟩=>⟨n,h _ _ (Nat.le_succ n) x hn⟩⟩
theorem QfD{r:Nat->Res}(h:Chain r)(n:Nat):Le (r n) (lim r):=λx hx=>(Q0p h).2 ⟨n,hx⟩
theorem Q7J{α:Type}{Φ:Nat->CallFn->(α->Res)->Res}(hf:∀ n,Fs (Φ n)){cl:Nat->CallFn}{k:Nat->α->Res}(hc:∀ c l s,Chain λn=>cl n c l s)(hk:∀ a,Chain λn=>k n a)
  (hΦ:∀ n m,n<=m->∀ cl k,Le (Φ n cl k) (Φ m cl k)) {cl':CallFn} {k':α->Res} (ec:∀ c l s,cl' c l s=lim λn=>cl n c l s) (ek:∀ a,k' a=lim λn=>k n a) :
  (lim λn=>Φ n (cl n) (k n))=lim λn=>Φ n cl' k':=by
 refine Q4d (λn m h=>((hf n).mono (λc l s=>hc c l s n m h) (λa=>hk a n m h)).trans (hΦ n m h _ _)) (λn m h=>hΦ n m h _ _) λx=>⟨λ⟨n,hn⟩=>⟨n,?_⟩,λ⟨n,hn⟩=>?_⟩
 ·exact (hf n).mono (λc l s=>by rw[ec];exact QfD (hc c l s) n) (λa=>by rw[ek];exact QfD (hk a) n) x hn
 ·obtain⟨Lc,Lk,h1⟩:=hf n _ _ x hn
  have bc:∀ L:List (Callee × List AV × St),∃ m,∀ p ∈ L,Le (cl' p.1 p.2.1 p.2.2) (cl m p.1 p.2.1 p.2.2):=by
   intro L
   induction L with
   |nil=>exact⟨0,λp hp=>by cases hp⟩
   |cons p L ih=>
     obtain⟨m,hm⟩:=ih
     have:∃ m',Le (cl' p.1 p.2.1 p.2.2) (cl m' p.1 p.2.1 p.2.2):=by
      cases hy:cl' p.1 p.2.1 p.2.2 with
      |none=>exact⟨0,Le.none _⟩
      |some y=>
        rw[ec] at hy
        obtain⟨m',h'⟩:=(Q0p (hc _ _ _)).1 hy
        exact⟨m',λz hz=>by rw[<-hz];exact h'⟩
     obtain⟨m',hm'⟩:=this
     refine⟨max m m',λq hq=>?_⟩
     rcases List.mem_cons.1 hq with rfl|hq
     ·exact hm'.trans (hc _ _ _ _ _ (Nat.le_max_right _ _))
     ·exact (hm q hq).trans (hc _ _ _ _ _ (Nat.le_max_left _ _))
  have bk:∀ L:List α,∃ m,∀ a ∈ L,Le (k' a) (k m a):=by
   intro L
   induction L with
   |nil=>exact⟨0,λp hp=>by cases hp⟩
   |cons p L ih=>
     obtain⟨m,hm⟩:=ih
     have:∃ m',Le (k' p) (k m' p):=by
      cases hy:k' p with
      |none=>exact⟨0,Le.none _⟩
      |some y=>
        rw[ek] at hy
        obtain⟨m',h'⟩:=(Q0p (hk _)).1 hy
        exact⟨m',λz hz=>by rw[<-hz];exact h'⟩
     obtain⟨m',hm'⟩:=this
     refine⟨max m m',λq hq=>?_⟩
     rcases List.mem_cons.1 hq with rfl|hq
     ·exact hm'.trans (hk _ _ _ (Nat.le_max_right _ _))
     ·exact (hm q hq).trans (hk _ _ _ (Nat.le_max_left _ _))
  obtain⟨m1,hm1⟩:=bc Lc
  obtain⟨m2,hm2⟩:=bk Lk
  refine⟨max n (max m1 m2),hΦ n _ (Nat.le_max_left _ _) _ _ x (h1 _ _ (λp hp=>(hm1 p hp).trans (hc _ _ _ _ _ ?_)) (λa ha=>(hm2 a ha).trans (hk _ _ _ ?_)))⟩<;>omega
noncomputable def callw(C:Cfg):CallFn:=λc l s=>lim λn=>call C n c l s
noncomputable def loopw(C:Cfg)(rd:Bool)(f:FuncId)(b:Code):Env->St->K->Res:=λe s k=>lim λn=>loopN (λe s k=>exec C (call C n) n (gate n) rd f b e s k) (C.keep f (regionOf b)) n e s k
noncomputable def pw(r:Res):Res:=lim λ_=>r
theorem Q0b(r:Res):pw r=r:=lim_const
noncomputable def cutR(ks:Option (List Nat))(body:Env->St->K->Res)(e:Env)(s:St)(k:K):Res:=
 match ks with
 |some l=>pw (body (keepE l e) s k)
 |none=>body e s k
noncomputable def run(C:Cfg)(rd:Bool)(f:FuncId):Code->Env->St->K->Res
 |.skip,e,s,k=>k .normal e s
 |.region id ops draw,e,s,k=>frzE C.ti (C.frz f id) e s (λe s=>opsK C (callw C) draw (bif draw then (C.draws f id).1 else false) f ops.toList ops.toList (C.draws f id).2 e s (λe s=>k .normal e s))
 |.seq a b,e,s,k=>run C rd f a e s (λx e s=>match x with
   |.normal=>cutR (C.cut f (regionOf b)) (λe s k=>run C rd f b e s k) e s k
   |x=>k x e s)
 |.cond c a b,e,s,k=>condS (opnd C e c) (run C rd f a e s k) (run C rd f b e s k)
 |.block id b,e,s,k=>run C rd f b e s (λx e s=>match x with
   |.exit j=>bif Nat.beq j id then k .normal e s else k (.exit j) e s
   |x=>k x e s)
 |.loop b,e,s,k=>loopw C rd f b (keepE (C.keep f (regionOf b)) e) s k
 |.exit id,e,s,k=>k (.exit id) e s
 |.scope b,e,s,k=>run C rd f b e s k
 |.label _,e,s,k=>k .normal e s
 |.ret,e,s,k=>k .ret e s
 |.rangeFunc h ps asg body,e,s,k=>bif rd then none else match tgtV (opnd C e h) [] with
   |some (.f g,l)=>bif (C.ext g).isSome then none else back (callw C (.f g) (.yld s.locs.length::l) (s.addLoc (.loop .ready none f (stripE (C.keep f (regionOf asg)) e) ps.toList asg body))) (λ_ s1=>endK s.locs.length e s1 k)
   |_=>none
 |_,_,_,_=>none
theorem Q0P{rd:Bool}(c:Code)(e:Env)(s:St){k:Nat->K}(hk:∀ x e s,Chain λn=>k n x e s):Chain λn=>exec C (call C n) n (gate n) rd f c e s (k n):=
 λn m h=>QY (λc l s=>Q09 c l s n m h) h (ZN h) c e s _ _ λx e s=>hk x e s n m h
theorem QB(r:Res):Chain λ_=>r:=λ_ _ _=>Le.refl _
theorem Q7K{rd:Bool}(c:Code)(e:Env)(s:St){k:Nat->K}{k':K}(hk:∀ x e s,Chain λn=>k n x e s)(ek:∀ x e s,k' x e s=lim λn=>k n x e s) :
  (lim λn=>exec C (call C n) n (gate n) rd f c e s (k n))=lim λn=>exec C (call C n) n (gate n) rd f c e s k':=by
 have:=Q7J (Φ:=λn (_:CallFn) (k:KT->Res)=>exec C (call C n) n (gate n) rd f c e s (cur k)) (cl:=λ_ _ _ _=>none) (cl':=λ_ _ _=>none) (k:=λn=>unc (k n)) (k':=unc k')
  (λn=>by
    intro cl k x hx
    obtain⟨Lc,Lk,h1⟩:=Q0z (C:=C) (f:=f) n (gate n) rd c e s (call C n) k x hx
    exact⟨[],Lk,λ_ k' _ hk=>h1 (call C n) k' (λ_ _=>Le.refl _) hk⟩)
  (λ_ _ _=>QB none) (λa=>hk a.1 a.2.1 a.2.2) (λn m h _ k=>QY (λc l s=>Q09 c l s n m h) h (ZN h) c e s _ _ λ_ _ _=>Le.refl _)
  (λ_ _ _=>lim_const.symm) (λa=>ek a.1 a.2.1 a.2.2)
 exact this
theorem Q0D{rd:Bool}:∀ (c:Code) (e:Env) (s:St) (k:K),(lim λn=>exec C (call C n) n (gate n) rd f c e s k)=run C rd f c e s k
 |.skip,_,_,_=>lim_const
 |.region id ops draw,e,s,k=>by
   have:=Q7J (Φ:=λ_ cl (k:Env × St->Res)=>frzE C.ti (C.frz f id) e s λe s=>opsK C cl draw (bif draw then (C.draws f id).1 else false) f ops.toList ops.toList (C.draws f id).2 e s λe s=>k (e,s)) (cl:=λn=>call C n) (cl':=callw C)
    (k:=λ_ p=>k .normal p.1 p.2) (k':=λp=>k .normal p.1 p.2) (λ_=>Qe1 _ _ _ _ _ _) Q09 (λ_=>QB _) (λ_ _ _ _ _=>Le.refl _) (λ_ _ _=>rfl) (λ_=>lim_const.symm)
   exact this.trans lim_const
 |.seq a b,e,s,k=>by
   refine (Q7K a e s (k:=λn x e s=>match x with
    |.normal=>cutK (gate n) (C.cut f (regionOf b)) (λe s k=>exec C (call C n) n (gate n) rd f b e s k) e s k
    |x=>k x e s) (k':=λx e s=>match x with
    |.normal=>cutR (C.cut f (regionOf b)) (λe s k=>run C rd f b e s k) e s k
    |x=>k x e s) ?_ ?_).trans (Q0D a e s _)
   ·intro x e s
    cases x with
    |normal=>
      simp only[cutK]
      cases C.cut f (regionOf b) with
      |none=>exact Q0P b e s λ_ _ _=>QB _
      |some l=>
        intro n m h
        show Le (cutN (gate n) _ _ _ _) (cutN (gate m) _ _ _ _)
        unfold cutN
        cases hg:gate n with
        |false=>exact Le.none _
        |true=>
          rw[ZN h hg]
          have:=Q0P (C:=C) (f:=f) (rd:=rd) b (keepE l e) s (k:=λ_=>k) (λ_ _ _=>QB _) n m h
          simp only[hg,ZN h hg] at this
          exact this
    |exit id=>exact QB _
    |ret=>exact QB _
   ·intro x e s
    cases x with
    |normal=>
      simp only[cutK,cutR]
      cases C.cut f (regionOf b) with
      |none=>exact (Q0D b e s k).symm
      |some l=>
        simp only[]
        rw[Q0b,<-Q0D b (keepE l e) s k]
        refine Q4d (Q0P b _ s λ_ _ _=>QB _) ?_ λx=>⟨λ⟨n,hn⟩=>⟨n+1,?_⟩,λ⟨n,hn⟩=>⟨n,?_⟩⟩
        ·intro n m h
         show Le (cutN (gate n) _ _ _ _) (cutN (gate m) _ _ _ _)
         unfold cutN
         cases hg:gate n with
         |false=>exact Le.none _
         |true=>
           rw[ZN h hg]
           have:=Q0P (C:=C) (f:=f) (rd:=rd) b (keepE l e) s (k:=λ_=>k) (λ_ _ _=>QB _) n m h
           simp only[hg,ZN h hg] at this
           exact this
        ·exact Q0P (C:=C) (f:=f) (rd:=rd) b (keepE l e) s (k:=λ_=>k) (λ_ _ _=>QB _) n (n+1) (Nat.le_succ n) x hn
        ·unfold cutN at hn
         cases hg:gate n with
         |false=>rw[hg] at hn;cases hn
         |true=>rw[hg] at hn;exact hn
    |exit id=>exact lim_const.symm
    |ret=>exact lim_const.symm
 |.cond c a b,e,s,k=>by
   simp only[exec,run,condS]
   cases (opnd C e c).bool? with
   |none=>exact lim_const
   |some t=>cases t with
     |true=>exact Q0D a e s k
     |false=>exact Q0D b e s k
 |.block id b,e,s,k=>Q0D b e s _
 |.loop b,e,s,k=>rfl
 |.exit id,_,_,_=>lim_const
 |.scope b,e,s,k=>Q0D b e s k
 |.label _,_,_,_=>lim_const
 |.ret,_,_,_=>lim_const
 |.rangeFunc h ps asg body,e,s,k=>by
   simp only[exec,run]
   generalize tgtV (opnd C e h) []=t
   cases rd with
   |true=>exact lim_const
   |false=>
     simp only[cond_false]
     rcases t with _|⟨c,l⟩
     ·exact lim_const
     ·cases c with
      |y _=>exact lim_const
      |f q=>
        simp only[]
        cases (C.ext q).isSome with
        |true=>exact lim_const
        |false=>
          simp only[cond_false]
          have:=Q7J (Φ:=λ_ cl (k:KT->Res)=>back (cl (.f q) (.yld s.locs.length::l) (s.addLoc (.loop .ready none f (stripE (C.keep f (regionOf asg)) e) ps.toList asg body))) λ_ s1=>endK s.locs.length e s1 (cur k)) (cl:=λn=>call C n) (cl':=callw C) (k:=λ_=>unc k) (k':=unc k)
           (λ_=>(Q2L (QbW true (some (.f q,.yld s.locs.length::l)) (s.addLoc (.loop .ready none f (stripE (C.keep f (regionOf asg)) e) ps.toList asg body)) false) (Ψ:=λ(p:Slot × St) (_:CallFn) (k:KT->Res)=>endK s.locs.length e p.2 (cur k)) (λp=>QdQ _ _ _)).congr λ_ _=>rfl)
           Q09 (λ_=>QB _) (λ_ _ _ _ _=>Le.refl _) (λ_ _ _=>rfl) (λ_=>lim_const.symm)
          exact this.trans lim_const
 |.goto _,_,_,_=>lim_const
 |.refuse _,_,_,_=>lim_const
theorem Qh1(rd:Bool)(b:Code)(e:Env)(s:St)(k:K):loopw C rd f b e s k=run C rd f b e s (λx e s=>match x with
  |.normal=>loopw C rd f b (keepE (C.keep f (regionOf b)) e) s k
  |x=>k x e s):=by
 have hL:∀ (j j' n m:Nat),j<=j'->n<=m->∀ e s,Le (loopN (λe s k=>exec C (call C n) n (gate n) rd f b e s k) (C.keep f (regionOf b)) j e s k) (loopN (λe s k=>exec C (call C m) m (gate m) rd f b e s k) (C.keep f (regionOf b)) j' e s k):=
  λj j' n m hj hn e s=>Q5k (λe s k k' hk=>QY (λc l s=>Q09 c l s n m hn) hn (ZN hn) b e s k k' hk) hj λ_ _ _=>Le.refl _
 have e1:loopw C rd f b e s k=lim λn=>loopN (λe s k=>exec C (call C n) n (gate n) rd f b e s k) (C.keep f (regionOf b)) (n+1) e s k:=
  Q4d (λn m h=>hL _ _ _ _ h h _ _) (λn m h=>hL _ _ _ _ (Nat.succ_le_succ h) h _ _) λx=>⟨λ⟨n,hn⟩=>⟨n,hL _ _ _ _ (Nat.le_succ n) (Yd n) _ _ x hn⟩,λ⟨n,hn⟩=>⟨n+1,hL _ _ _ _ (Yd _) (Nat.le_succ n) _ _ x hn⟩⟩
 rw[e1]
 exact (Q7K b e s (k:=λn x e s=>match x with
  |.normal=>loopN (λe s k=>exec C (call C n) n (gate n) rd f b e s k) (C.keep f (regionOf b)) n (keepE (C.keep f (regionOf b)) e) s k
  |x=>k x e s) (k':=λx e s=>match x with
  |.normal=>loopw C rd f b (keepE (C.keep f (regionOf b)) e) s k
  |x=>k x e s) (λx e s=>by
    cases x with
    |normal=>exact λn m h=>hL _ _ _ _ h h _ _
    |exit id=>exact QB _
    |ret=>exact QB _) (λx e s=>by
    cases x with
    |normal=>rfl
    |exit id=>exact lim_const.symm
    |ret=>exact lim_const.symm)).trans (Q0D b e s _)
noncomputable def callR(C:Cfg)(f:FuncId)(l:List AV)(s:St):Res:=
 match C.ext f with
 |some g=>(match g l s with|some (v,s')=>some (.ret v,s')|none=>none)
 |none=>match C.code f with
   |some fn=>match fn.body with
     |some b=>bif Nat.ble l.length fn.ntmps then run C false f b (argE 0 l) s (outK C fn.results.toList) else none
     |none=>none
   |none=>none
theorem Q5(f:FuncId)(l:List AV)(s:St):callw C (.f f) l s=callR C f l s:=by
 unfold callw
 rw[<-Qcb (Q09 _ _ _)]
 simp only[call,callR]
 cases C.ext f with
 |some g=>exact lim_const
 |none=>
   simp only[]
   cases C.code f with
   |none=>exact lim_const
   |some fn=>
     simp only[]
     cases fn.body with
     |none=>exact lim_const
     |some b=>
       simp only[]
       cases Nat.ble l.length fn.ntmps with
       |false=>exact lim_const
       |true=>exact Q0D b _ _ _
theorem QfE{r:Nat->Res}(h:Chain r):(lim λn=>noPan (r n))=noPan (lim r):=Q9G λx=>by
 rw[Q0p λn m hnm=>Qcj (h n m hnm)]
 constructor
 ·rintro⟨n,hn⟩
  unfold noPan at hn
  split at hn
  ·rename_i v s1 hv
   cases hn
   rw[(Q0p h).2 ⟨n,hv⟩]
   rfl
  ·cases hn
 ·intro hx
  unfold noPan at hx
  split at hx
  ·rename_i v s1 hv
   cases hx
   obtain⟨n,hn⟩:=(Q0p h).1 hv
   exact⟨n,by rw[hn];rfl⟩
  ·cases hx
theorem Qib(loc:Nat)(l:List AV)(s:St):callw C (.y loc) l s=match s.locs[loc]? with
  |some (.loop .ready none f e ps asg body)=>match setPs ps l e with
    |some e=>noPan (run C true f asg e s (λx e s=>match x with
      |.normal=>bindS (beginL loc s) (λs=>run C true f body e s (roundK loc))
      |_=>none))
    |none=>none
  |_=>none:=by
 unfold callw
 rw[<-Qcb (Q09 _ _ _)]
 simp only[call]
 generalize s.locs[loc]? = o
 rcases o with _|o
 ·exact lim_const
 ·cases o with
  |var _=>exact lim_const
  |map _ _=>exact lim_const
  |dead=>exact lim_const
  |loop st pend f e ps asg body=>
    cases st<;>try exact lim_const
    cases pend with
    |some _=>exact lim_const
    |none=>
      simp only[]
      generalize setPs ps l e=o1
      cases o1 with
      |none=>exact lim_const
      |some e1=>
        simp only[]
        have hk:∀ x e s,Chain λn=>(match (generalizing:=false) x with
         |AExit.normal=>bindS (beginL loc s) (λs=>exec C (call C n) n (gate n) true f body e s (roundK loc))
         |_=>none:Res):=λx e s=>by
         cases x with
         |normal=>
           simp only[]
           cases beginL loc s with
           |none=>exact QB none
           |some s1=>exact Q0P body e s1 λ_ _ _=>QB _
         |exit id=>exact QB none
         |ret=>exact QB none
        refine (QfE (Q0P asg e1 s hk)).trans ?_
        congr 1
        refine (Q7K asg e1 s hk (k':=λx e s=>match (generalizing:=false) x with
         |.normal=>bindS (beginL loc s) (λs=>run C true f body e s (roundK loc))
         |_=>none) λx e s=>?_).trans (Q0D asg e1 s _)
        cases x with
        |normal=>
          simp only[]
          cases beginL loc s with
          |none=>exact lim_const.symm
          |some s1=>exact (Q0D body e s1 _).symm
        |exit id=>exact lim_const.symm
        |ret=>exact lim_const.symm
noncomputable def yldR(C:Cfg)(o:Obj)(loc:Nat)(l:List AV)(s:St):Res:=
 match o with
 |.loop .ready none f e ps asg body=>match setPs ps l e with
   |some e=>noPan (run C true f asg e s (λx e s=>match x with
     |.normal=>bindS (beginL loc s) (λs=>run C true f body e s (roundK loc))
     |_=>none))
   |none=>none
 |_=>none
theorem Qa4{loc:Nat}{l:List AV}{s:St}{o:Obj}(h:s.locs[loc]? = some o):callw C (.y loc) l s=yldR C o loc l s:=by
 rw[Qib,h]
 cases o with
 |loop st pend f e ps asg body=>cases st<;>first|rfl|(cases pend<;>rfl)
 |_=>rfl
def rngAsg:Code->Code
 |.rangeFunc _ _ a _=>a
 |c=>c
def rngBody:Code->Code
 |.rangeFunc _ _ _ b=>b
 |c=>c
def rangeC(C:Cfg)(cl:CallFn)(h:Slot)(loc:Nat)(s:St)(k:St->Res):Res:=
 match tgtV h [] with
 |some (.f g,l)=>bif (C.ext g).isSome then none else back (cl (.f g) (.yld loc::l) s) (λ_ s1=>k s1)
 |_=>none
theorem Qeh{c:Callee}{l:List AV}{s:St}{x:Out × St}:callw C c l s=some x↔∃ n,call C n c l s=some x:=Q0p (Q09 c l s)
noncomputable def ctxR(C:Cfg)(rd:Bool)(f:FuncId):List Step->Code->K->K
 |[],_,k=>k
 |.seqL::p,.seq a b,k=>ctxR C rd f p a (λx e s=>match x with
   |.normal=>cutR (C.cut f (regionOf b)) (λe s k=>run C rd f b e s k) e s k
   |x=>k x e s)
 |.seqR::p,.seq _ b,k=>ctxR C rd f p b k
 |.thn::p,.cond _ a _,k=>ctxR C rd f p a k
 |.els::p,.cond _ _ b,k=>ctxR C rd f p b k
 |.block::p,.block id b,k=>ctxR C rd f p b (λx e s=>match x with
   |.exit j=>bif Nat.beq j id then k .normal e s else k (.exit j) e s
   |x=>k x e s)
 |.loop::p,.loop b,k=>ctxR C rd f p b (λx e s=>match x with
   |.normal=>loopw C rd f b (keepE (C.keep f (regionOf b)) e) s k
   |x=>k x e s)
 |.scope::p,.scope b,k=>ctxR C rd f p b k
 |_::_,_,k=>k
noncomputable def loopR(C:Cfg)(rd:Bool)(f:FuncId)(p:List Step)(c:Code)(e:Env)(s:St)(k:K):Res:=
 match codeAt p c with
 |.loop b=>loopw C rd f b e s k
 |_=>none
noncomputable def roundR(C:Cfg)(rd:Bool)(f:FuncId)(p:List Step)(c:Code)(e:Env)(s:St)(k:K):Res:=
 match codeAt p c with
 |.loop b=>run C rd f b e s (λx e s=>match x with
   |.normal=>loopw C rd f b (keepE (C.keep f (regionOf b)) e) s k
   |x=>k x e s)
 |_=>none
theorem Qj(rd:Bool)(p:List Step)(c:Code)(e:Env)(s:St)(k:K):loopR C rd f p c e s k=roundR C rd f p c e s k:=by
 unfold loopR roundR
 split
 ·exact Qh1 _ _ _ _ _
 ·rfl
end
end Go.Am
namespace Go.Am
open Go
theorem Q5r{g:List AV->Option AV}{l:List AV}{s s':St}{x:Slot}(h:pureX g l s=some (x,s')):∃ v,g l=some v/\x = .val v/\s'=s:=by
 unfold pureX at h
 split at h
 ·rename_i v hv;cases h;exact⟨v,hv,rfl,rfl⟩
 ·cases h
def extContains:List AV->Option AV
 |[.str s,.str t]=>if s.length<4294967281 then some (.bool (Go.Lib.contains s t)) else none
 |_=>none
def extIndexByte:List AV->Option AV
 |[.str s,.int .u8 c]=>some (.int .i64 (Go.Lib.indexByte s c.toNat.toUInt8))
 |_=>none
def extItoa:List AV->Option AV
 |[.int .i64 n]=>if -9223372036854775808<=n/\n<=9223372036854775807 then some (.str (Go.Lib.itoa n)) else none
 |_=>none
def isBld(t:TypeId)(s:St)(loc:Nat):Bool:=s.bl.any λp=>Nat.beq p.1 loc&&Nat.beq p.2 t
def extCopyCheck(t:TypeId):List AV->St->Option (Slot × St)
 |[.vp loc 0],s=>bif isBld t s loc then (match s.locs[loc]? with
   |some (.var [a,x])=>(match a with
     |.val .nilp=>some (.val (.tup []),{ s with locs:=s.locs.set loc (.var [.val (.vp loc 0),x]) })
     |.val (.vp l 0)=>bif Nat.beq l loc then some (.val (.tup []),s) else none
     |_=>none)
   |_=>none) else none
 |_,_=>none
def bytesAV:List AV->Option (List UInt8)
 |[]=>some []
 |.int .u8 n::r=>if 0<=n/\n<256 then (match bytesAV r with|some l=>some (n.toNat.toUInt8::l)|none=>none) else none
 |_=>none
def extBString(et:TypeId):List AV->St->Option (Slot × St)
 |[.vp loc 0],s=>match s.locs[loc]? with
   |some (.var [_,x])=>match x with
     |.val .nils=>some (.val (.str []),s)
     |.own k e l=>match bytesAV l with
       |some b=>bif b.isEmpty || !Nat.beq e et then none else if s.toks[k]? = some l.length then some (.val (.str b),{ s with toks:=s.toks.set k (l.length+1) }) else none
       |none=>none
     |_=>none
   |_=>none
 |_,_=>none
def extGrow(et:TypeId)(t:TI):List AV->St->Option (Slot × St)
 | [.nils, .int .i64 n], s => if n = 0 then some (.val .nils, s) else
    if 0<n/\n*t.bytes<=140737488355328/\0<t.size/\n<=140737488355328 then some (.own s.toks.length et [],{ s with toks:=s.toks++[0] }) else none
 |_,_=>none
end Go.Am
namespace Go.Am
open Go
@[go_sem] theorem Q3y(v:Slot)(k:Slot->Res):bind1 (some v) k=k v:=id rfl
@[go_sem] theorem QmD(v:List Slot)(k:List Slot->Res):bindL (some v) k=k v:=id rfl
@[go_sem] theorem QmB(v:List AV)(k:List AV->Res):bindA (some v) k=k v:=id rfl
@[go_sem] theorem QmC(v:Bool)(k:Bool->Res):bindB (some v) k=k v:=id rfl
@[go_sem] theorem QmE(v:St)(k:St->Res):bindS (some v) k=k v:=id rfl
@[go_sem] theorem QmA(v:Slot)(s:St)(k:Slot->St->Res):bind2 (some (v,s)) k=k v s:=id rfl
@[go_sem] theorem QpB(v:Slot)(s:St)(k:Slot->St->Res):back (some (.ret v,s)) k=k v s:=id rfl
@[go_sem] theorem Qpp(v:Slot)(s:St):noPan (some (.ret v,s))=some (.ret v,s):=id rfl
@[congr] theorem QlK{r r':Option Slot}{k:Slot->Res}(h:r=r'):bind1 r k=bind1 r' k:=by rw[h]
@[congr] theorem QlO{r r':Option (List Slot)}{k:List Slot->Res}(h:r=r'):bindL r k=bindL r' k:=by rw[h]
@[congr] theorem QlM{r r':Option (List AV)}{k:List AV->Res}(h:r=r'):bindA r k=bindA r' k:=by rw[h]
@[congr] theorem QlN{r r':Option Bool}{k:Bool->Res}(h:r=r'):bindB r k=bindB r' k:=by rw[h]
@[congr] theorem QlP{r r':Option St}{k:St->Res}(h:r=r'):bindS r k=bindS r' k:=by rw[h]
@[congr] theorem QlL{r r':Option (Slot × St)}{k:Slot->St->Res}(h:r=r'):bind2 r k=bind2 r' k:=by rw[h]
@[congr] theorem Qmz{r r':Res}{k:Slot->St->Res}(h:r=r'):back r k=back r' k:=by rw[h]
def ifR(b:Bool)(x y:Res):Res:=bif b then x else y
@[go_sem] theorem Qqm(x y:Res):ifR true x y=x:=id rfl
@[go_sem] theorem Qpg(x y:Res):ifR false x y=y:=id rfl
@[congr] theorem Qpf{b b':Bool}{x y:Res}(h:b=b'):ifR b x y=ifR b' x y:=by rw[h]
theorem Q9s{b:Bool}(h:b=true)(x y:Res):ifR b x y=x:=by rw[h];rfl
theorem Q9r{b:Bool}(h:b=false)(x y:Res):ifR b x y=y:=by rw[h];rfl
@[go_sem] theorem Qrc(b:Bool)(x y:AV)(s:St):ifR b (some (.ret (.val x),s)) (some (.ret (.val y),s))=some (.ret (.val (bif b then x else y)),s):=by cases b<;>rfl
@[go_sem] theorem QqZ(b:Bool)(k:IntKind)(x y:Int):(bif b then AV.int k x else AV.int k y)=AV.int k (bif b then x else y):=by cases b<;>rfl
@[go_sem] theorem Qrk(b x y:Bool):(bif b then AV.bool x else AV.bool y)=AV.bool (bif b then x else y):=by cases b<;>rfl
@[go_sem] theorem Qr0(b:Bool)(x y:List UInt8):(bif b then AV.str x else AV.str y)=AV.str (bif b then x else y):=by cases b<;>rfl
@[go_sem] theorem Q3A(b:Bool)(x y:Res):condS (.val (.bool b)) x y=ifR b x y:=id rfl
@[congr] theorem QlW{b b':Slot}{x y:Res}(h:b=b'):condS b x y=condS b' x y:=by rw[h]
@[congr] theorem QmM{loc loc':Nat}{s s':St}{kn kr:St->Res}{ke:Nat->St->Res}(h:loc=loc')(g:s=s'):endX loc s kn kr ke=endX loc' s' kn kr ke:=by rw[h,g]
@[congr] theorem Ql4{C:Cfg}{cl:CallFn}{h h':Slot}{loc loc':Nat}{s s':St}{k:St->Res}(e1:h=h')(e2:loc=loc')(e3:s=s'):rangeC C cl h loc s k=rangeC C cl h' loc' s' k:=by rw[e1,e2,e3]
@[go_sem] theorem Q1l(v:AV):(Slot.val v).av=some v:=id rfl
@[go_sem] theorem Qkd(k:Nat)(e:TypeId)(l:List AV):(Slot.own k e l).av=some (.sl l):=id rfl
@[go_sem] theorem Qi7(l:List AV):(Slot.full l).av=some (.sl l):=id rfl
@[go_sem] theorem QmX:(Slot.val .nils).list? = some []:=id rfl
@[go_sem] theorem Qqt(l:List AV):(Slot.val (.sl l)).list? = some l:=id rfl
@[go_sem] theorem Qpo(k:Nat)(e:TypeId)(l:List AV):(Slot.own k e l).list? = some l:=id rfl
@[go_sem] theorem QmW(l:List AV):(Slot.full l).list? = some l:=id rfl
@[go_sem] theorem QqV:avs []=some []:=id rfl
@[go_sem] theorem QqX(v:AV)(r:List Slot):avs (.val v::r)=(avs r).map (v :: ·):=by
  simp only[avs,Q1l];cases avs r<;>rfl
@[go_sem] theorem QpA(l:List AV)(r:List Slot):avs (.full l::r)=(avs r).map (.sl l :: ·):=by
  simp only[avs,Qi7];cases avs r<;>rfl
@[go_sem] theorem QqW(k:Nat)(e:TypeId)(l:List AV)(r:List Slot):avs (.own k e l::r)=(avs r).map (.sl l :: ·):=by
  simp only[avs,Qkd];cases avs r<;>rfl
theorem ZY{x:Slot}{v:AV}(h:x.av=some v)(r:List Slot):avs (x::r)=(avs r).map (v :: ·):=by
 simp only[avs,h];cases avs r<;>rfl
@[go_sem] theorem QlH(l:List AV):avs (l.map .val)=some l:=by
  induction l with
  |nil=>rfl
  |cons a l ih=>simp[go_sem,ih]
def encS(nl:Bool)(l:List AV):AV:=bif nl&&l.isEmpty then .nils else .sl l
@[go_sem] theorem Qe(nl:Bool)(l:List AV):(Slot.val (encS nl l)).list? = some l:=by
  cases nl<;>cases l<;>rfl
@[go_sem] theorem Qp5(nl:Bool)(a:AV)(l:List AV):encS nl (a::l) = .sl (a::l):=by cases nl<;>rfl
theorem Q8s(l:List AV):encS false l = .sl l:=rfl
@[go_sem] theorem QgN:encS true [] = .nils:=id rfl
@[go_sem] theorem QlR(nl:Bool)(l:List AV):(Slot.val (encS nl l)).cellOk=true:=by cases nl<;>cases l<;>rfl
@[go_sem] theorem QmJ(nl:Bool)(l:List AV):(encS nl l).cells=[encS nl l]:=by cases nl<;>cases l<;>rfl
@[go_sem] theorem QmS(nl:Bool)(l:List AV):(encS nl l).isTup=false:=by cases nl<;>cases l<;>rfl
@[go_sem] theorem QlQ(b:Bool):(Slot.val (.bool b)).cellOk=true:=id rfl
@[go_sem] theorem QmF(k:IntKind)(n:Int):(Slot.val (.int k n)).cellOk=true:=id rfl
@[go_sem] theorem QmH(l:List UInt8):(Slot.val (.str l)).cellOk=true:=id rfl
@[go_sem] theorem QoV(l:List AV):(Slot.val (.cp l)).cellOk=true:=id rfl
@[go_sem] theorem QoY(a b:Nat):(Slot.val (.vp a b)).cellOk=true:=id rfl
@[go_sem] theorem QoW(f:FuncId)(l:List AV):(Slot.val (.fn f l)).cellOk=true:=id rfl
@[go_sem] theorem QmI(l:Nat):(Slot.val (.yld l)).cellOk=true:=id rfl
@[go_sem] theorem QlU:(Slot.val .nilp).cellOk=true:=id rfl
@[go_sem] theorem QlT:(Slot.val .nilf).cellOk=true:=id rfl
@[go_sem] theorem QlV:(Slot.val .nils).cellOk=true:=id rfl
@[go_sem] theorem QoX(l:Nat):(Slot.val (.mp l)).cellOk=true:=id rfl
@[go_sem] theorem QmG(k:Nat)(e:TypeId)(l:List AV):(Slot.own k e l).cellOk=true:=id rfl
@[go_sem] theorem QlS(l:List AV):(Slot.full l).cellOk=true:=id rfl
@[go_sem] theorem Q60(l:List AV):(AV.agg l).cells=l:=id rfl
@[go_sem] theorem Q8m(b:Bool):(AV.bool b).cells=[.bool b]:=id rfl
@[go_sem] theorem Qp0(k:IntKind)(n:Int):(AV.int k n).cells=[.int k n]:=id rfl
@[go_sem] theorem Qp1(l:List UInt8):(AV.str l).cells=[.str l]:=id rfl
@[go_sem] theorem QpS(l:List AV):(AV.cp l).cells=[.cp l]:=id rfl
@[go_sem] theorem QpU(l:List AV):(AV.sl l).cells=[.sl l]:=id rfl
@[go_sem] theorem QmL:AV.nils.cells=[.nils]:=id rfl
@[go_sem] theorem QmK:AV.nilp.cells=[.nilp]:=id rfl
@[go_sem] theorem QpT(f:FuncId)(l:List AV):(AV.fn f l).cells=[.fn f l]:=id rfl
@[go_sem] theorem Qp2(l:Nat):(AV.yld l).cells=[.yld l]:=id rfl
@[go_sem] theorem Qpj(l:List AV):(AV.agg l).isTup=false:=id rfl
@[go_sem] theorem QmR(b:Bool):(AV.bool b).isTup=false:=id rfl
@[go_sem] theorem Qpk(k:IntKind)(n:Int):(AV.int k n).isTup=false:=id rfl
@[go_sem] theorem Qpl(l:List UInt8):(AV.str l).isTup=false:=id rfl
@[go_sem] theorem Qqn(l:List AV):(AV.cp l).isTup=false:=id rfl
@[go_sem] theorem Qqp(l:List AV):(AV.sl l).isTup=false:=id rfl
@[go_sem] theorem QmU:AV.nils.isTup=false:=id rfl
@[go_sem] theorem QmT:AV.nilp.isTup=false:=id rfl
@[go_sem] theorem Qqo(f:FuncId)(l:List AV):(AV.fn f l).isTup=false:=id rfl
@[go_sem] theorem Qpm(l:Nat):(AV.yld l).isTup=false:=id rfl
@[go_sem] theorem Qs0(b:Bool):Slot.isB (.val (.bool b)) true=some b:=by cases b<;>rfl
@[go_sem] theorem QrZ(b:Bool):Slot.isB (.val (.bool b)) false=some (!b):=by cases b<;>rfl
@[go_sem] theorem Qrv(w:Bool):Slot.isB .no w=some false:=id rfl
@[go_sem] theorem Qrb(r:Option Slot):gd true r=r:=id rfl
@[go_sem] theorem Qqi(r:Option Slot):gd false r=some .no:=id rfl
@[go_sem] theorem Qqe(r:Slot):gdV true r=r:=id rfl
@[go_sem] theorem Qpa(r:Slot):gdV false r = .no:=id rfl
@[go_sem] theorem Qra(b:Bool)(v:Slot):gd b (some v)=some (gdV b v):=by cases b<;>rfl
@[congr] theorem Qqh{b b':Bool}{r r':Option Slot}(h:b=b')(g:b'=true->r=r'):gd b r=gd b' r':=by
  subst h;cases b
  ·rfl
  ·rw[g rfl]
@[go_sem] theorem Qr4(a b:Bool)(v:Slot):gdV a (gdV b v)=gdV (a&&b) v:=by cases a<;>cases b<;>rfl
@[go_sem] theorem Qpi(a b:Bool):Slot.isB (gdV a (.val (.bool b))) true=some (a&&b):=by cases a<;>cases b<;>rfl
@[go_sem] theorem Qph(a b:Bool):Slot.isB (gdV a (.val (.bool b))) false=some (a && !b):=by cases a<;>cases b<;>rfl
@[go_sem] theorem Qrz(a b:Bool):(a&&b&&a)=(a&&b):=by cases a<;>cases b<;>rfl
@[go_sem] theorem QrA(a b:Bool):(a&&b&&b)=(a&&b):=by cases a<;>cases b<;>rfl
@[go_sem] theorem Qri(a b c:Bool):(a&&b&&c&&a)=(a&&b&&c):=by cases a<;>cases b<;>cases c<;>rfl
@[go_sem] theorem QqU(a b c:Bool):(a&&b&&c&&(a&&b))=(a&&b&&c):=by cases a<;>cases b<;>cases c<;>rfl
@[go_sem] theorem Qrj(a b:Bool):(a&&(a&&b))=(a&&b):=by cases a<;>cases b<;>rfl
section
variable (b c:Bool) (t u:TI) (op:BinOp) (uo:UnOp) (x y z:Slot) (n:Nat) (r:Bool) (s:St)
@[go_sem] theorem Qqf:gd b (binS t op (gdV b x) y)=gd b (binS t op x y):=by cases b<;>rfl
@[go_sem] theorem Qqg:gd b (binS t op x (gdV b y))=gd b (binS t op x y):=by cases b<;>rfl
@[go_sem] theorem Qpb:gd b (binS t op (gdV (b&&c) x) y)=gd b (binS t op (gdV c x) y):=by cases b<;>rfl
@[go_sem] theorem QrW:gd b (unS uo (gdV b x))=gd b (unS uo x):=by cases b<;>rfl
@[go_sem] theorem Qr6(k:TK):gd b (convS t u (gdV b x) k)=gd b (convS t u x k):=by cases b<;>rfl
@[go_sem] theorem Qrt:gd b (lenS t (gdV b x))=gd b (lenS t x):=by cases b<;>rfl
@[go_sem] theorem Qr9:gd b (lenO (gdV b x).list? (gdV b x))=gd b (lenO x.list? x):=by cases b<;>rfl
@[go_sem] theorem QlZ(g:List AV->Slot):gd b (Option.map g (gdV b x).list?)=gd b (Option.map g x.list?):=by cases b<;>rfl
@[go_sem] theorem QmP:gd b (indexS t u (gdV b x) y)=gd b (indexS t u x y):=by cases b<;>rfl
@[go_sem] theorem QmQ:gd b (indexS t u x (gdV b y))=gd b (indexS t u x y):=by cases b<;>rfl
@[go_sem] theorem Qr7:gd b (ixS n (gdV b x) y)=gd b (ixS n x y):=by cases b<;>rfl
@[go_sem] theorem Qr8:gd b (ixS n x (gdV b y))=gd b (ixS n x y):=by cases b<;>rfl
@[go_sem] theorem QrV:gd b (ldV t r s (gdV b x))=gd b (ldV t r s x):=by cases b<;>rfl
@[go_sem] theorem QrU:gd b (faV n (gdV b x))=gd b (faV n x):=by cases b<;>rfl
@[go_sem] theorem Qru:gd b (nilCheckV (gdV b x))=gd b (nilCheckV x):=by cases b<;>rfl
@[go_sem] theorem Qqj(o:Nat):gd b (fieldS t u o (gdV b x))=gd b (fieldS t u o x):=by cases b<;>rfl
@[go_sem] theorem Qpc:gd b (pickS (gdV b x) y z)=gd b (pickS x y z):=by cases b<;>rfl
@[go_sem] theorem Qpd:gd b (pickS x (gdV b y) z)=gd b (pickS x y z):=by cases b<;>rfl
@[go_sem] theorem Qpe:gd b (pickS x y (gdV b z))=gd b (pickS x y z):=by cases b<;>rfl
@[go_sem] theorem Qrs(p q:Option Slot):gd b (bif b then p else q)=gd b p:=by cases b<;>rfl
@[go_sem] theorem QlY:gdV b (bif c then x else gdV (b && !c) y)=gdV b (bif c then x else y):=by cases b<;>cases c<;>rfl
@[go_sem] theorem QlX:gdV b (bif c then gdV (b&&c) x else y)=gdV b (bif c then x else y):=by cases b<;>cases c<;>rfl
@[go_sem] theorem Qrm(d:Bool):(bif c then Slot.val (.bool true) else .val (.bool d)) = .val (.bool (c || d)):=by cases c<;>rfl
@[go_sem] theorem Qrl(d:Bool):(bif c then Slot.val (.bool d) else .val (.bool false)) = .val (.bool (c&&d)):=by cases c<;>rfl
end
@[go_sem] theorem Qpq(c:Bool)(a b:Slot):pickS (.val (.bool c)) a b=some (bif c then a else b):=id rfl
@[go_sem] theorem QlI(c:Bool)(a b:Bool)(v w:Slot):(bif c then gdV (c&&a) v else w)=bif c then gdV a v else w:=by cases c<;>rfl
@[go_sem] theorem Qke(c:Bool)(v w:Slot):(bif c then gdV c v else w)=bif c then v else w:=by cases c<;>rfl
@[go_sem] theorem QlJ(c:Bool)(v w:Slot):(bif c then v else gdV (!c) w)=bif c then v else w:=by cases c<;>rfl
@[go_sem] theorem Qp4(w:Bool)(k:Unit->Res):chkP true w k=k ():=id rfl
@[go_sem] theorem Qp3(w:Bool)(k:Unit->Res):chkP w w k=k ():=by cases w<;>rfl
def maxI(a b:Int):Int:=if b>a then b else a
theorem beqd(x y:List UInt8):(x == y)=decide (x=y):=by rw[Bool.eq_iff_iff];simp
section
variable (t:TI) (k:IntKind) (a b:Int) (x y:List UInt8)
@[go_sem] theorem Q5b:binS t .lss (.val (.int k a)) (.val (.int k b))=some (.val (.bool (decide (a<b)))):=by simp[go_sem,binS]
@[go_sem] theorem QpI:binS t .leq (.val (.int k a)) (.val (.int k b))=some (.val (.bool (decide (a<=b)))):=by simp[go_sem,binS]
@[go_sem] theorem QpH:binS t .gtr (.val (.int k a)) (.val (.int k b))=some (.val (.bool (decide (a>b)))):=by simp[go_sem,binS]
@[go_sem] theorem QpG:binS t .geq (.val (.int k a)) (.val (.int k b))=some (.val (.bool (decide (a≥b)))):=by simp[go_sem,binS]
@[go_sem] theorem QpF:binS t .eql (.val (.int k a)) (.val (.int k b))=some (.val (.bool (decide (a=b)))):=by simp[go_sem,binS];rfl
@[go_sem] theorem QpK:binS t .neq (.val (.int k a)) (.val (.int k b))=some (.val (.bool (!decide (a=b)))):=by simp[go_sem,binS];rfl
@[go_sem] theorem QpE:binS t .add (.val (.int k a)) (.val (.int k b))=some (.val (.int k (k.wrap (a+b)))):=by simp[go_sem,binS]
@[go_sem] theorem QpN:binS t .sub (.val (.int k a)) (.val (.int k b))=some (.val (.int k (k.wrap (a - b)))):=by simp[go_sem,binS]
@[go_sem] theorem QoQ:binS t .eql (.val (.str x)) (.val (.str y))=some (.val (.bool (decide (x=y)))):=by simp only[binS,Q1l,beqd]
@[go_sem] theorem QoR:binS t .neq (.val (.str x)) (.val (.str y))=some (.val (.bool (!decide (x=y)))):=by simp only[binS,Q1l,beqd]
@[go_sem] theorem QpM(h:b≠0):binS t .rem (.val (.int k a)) (.val (.int k b))=some (.val (.int k (a.tmod b))):=by simp[go_sem,binS,h]
@[go_sem] theorem QpL(h:b≠0):binS t .quo (.val (.int k a)) (.val (.int k b))=some (.val (.int k (k.wrap (a.tdiv b)))):=by simp[go_sem,binS,h]
@[go_sem] theorem QpJ:binS t .mul (.val (.int k a)) (.val (.int k b))=some (.val (.int k (k.wrap (a*b)))):=by simp[go_sem,binS]
theorem Qa3(h:x.length+y.length<=9223372036854775807):binS t .add (.val (.str x)) (.val (.str y))=some (.val (.str (x++y))):=by simp only[binS,Q1l];rw[if_pos h]
@[go_sem] theorem Qrg(b:Bool):unS .not (.val (.bool b))=some (.val (.bool !b)):=id rfl
@[go_sem] theorem Qqw:max2 (.val (.int k a)) (.val (.int k b))=some (.val (.int k (maxI a b))):=id rfl
@[go_sem] theorem Qqx(c:Int):max3 (.val (.int k a)) (.val (.int k b)) (.val (.int k c))=some (.val (.int k (maxI (maxI a b) c))):=id rfl
@[go_sem] theorem QoO(p q:Bool)(h:t.k = .bool):binS t .eql (.val (.bool p)) (.val (.bool q))=some (.val (.bool (p == q))):=by simp[go_sem,binS,eqS,h]
@[go_sem] theorem QoP(p q:Bool)(h:t.k = .bool):binS t .neq (.val (.bool p)) (.val (.bool q))=some (.val (.bool !(p == q))):=by simp[go_sem,binS,eqS,h]
end
def TKptr:TK->Bool | .ptr=>true|_=>false
@[go_sem] theorem Qop:TKptr .ptr=true:=id rfl
section
variable {t:TI} (l:List AV)
theorem Q58{k:TK}(h:TKptr k=true):k = .ptr:=by cases k<;>first|rfl|cases h
@[go_sem] theorem Qrx(h:TKptr t.k=true):binS t .neq (.val (.cp l)) (.val .nilp)=some (.val (.bool true)):=by simp[go_sem,binS,eqS,Q58 h]
@[go_sem] theorem Qqy(h:TKptr t.k=true):binS t .neq (.val .nilp) (.val .nilp)=some (.val (.bool false)):=by simp[go_sem,binS,eqS,Q58 h]
@[go_sem] theorem Qro(h:TKptr t.k=true):binS t .eql (.val (.cp l)) (.val .nilp)=some (.val (.bool false)):=by simp[go_sem,binS,eqS,Q58 h]
@[go_sem] theorem QpZ(h:TKptr t.k=true):binS t .eql (.val .nilp) (.val .nilp)=some (.val (.bool true)):=by simp[go_sem,binS,eqS,Q58 h]
end
theorem wrap64{n:Int}(h:-9223372036854775808<=n)(g:n<=9223372036854775807):IntKind.i64.wrap n=n:=by
 unfold IntKind.wrap
 simp[go_sem,IntKind.bits,IntKind.signed]
 omega
theorem Q0Q{t et:TI}(h:t.k = .str){l:List UInt8}{n:Nat}{b:UInt8}(hv:l[n]? = some b):indexS t et (.val (.str l)) (.val (.int .i64 (n:Int)))=some (.val (.int .u8 b.toNat)):=by
 unfold indexS
 simp only[h]
 rw[if_pos (by omega)]
 simp[go_sem,hv]
@[go_sem] theorem ZP{t et:TI}(h:t.k = .str){l:List UInt8}(hl:l≠[]):indexS t et (.val (.str l)) (.val (.int .i64 0))=some (.val (.int .u8 (l.headD 0).toNat)):=by
  cases l with
  |nil=>exact absurd rfl hl
  |cons b l=>exact Q0Q (n:=0) h rfl
@[go_sem] theorem Q5j{t:TI}(h:t.k = .str)(l:List UInt8):lenS t (.val (.str l))=some (.val (.int .i64 l.length)):=by simp[go_sem,lenS,h]
def TKslice:TK->Bool | .slice _=>true|_=>false
@[go_sem] theorem Qma(e:TypeId):TKslice (.slice e)=true:=id rfl
@[go_sem] theorem QmV{t:TI}(h:TKslice t.k=true)(x:Slot):lenS t x=lenO x.list? x:=by
  unfold lenS
  cases hk:t.k<;>rw[hk] at h<;>first|(cases h;done)|rfl
@[go_sem] theorem Qpn(l:List AV)(x:Slot):lenO (some l) x=some (.val (.int .i64 l.length)):=id rfl
@[go_sem] theorem Qcc(loc:Nat)(e:TypeId)(sz lo n:Nat):(Slot.val (.vs loc e sz lo n)).list? = none:=id rfl
@[go_sem] theorem Qre(loc:Nat)(e:TypeId)(sz lo n:Nat):lenO none (.val (.vs loc e sz lo n))=some (.val (.int .i64 n)):=id rfl
@[go_sem] theorem QoZ(loc:Nat)(e:TypeId)(sz lo n:Nat):(Slot.val (.vs loc e sz lo n)).cellOk=true:=id rfl
@[go_sem] theorem QpV(loc:Nat)(e:TypeId)(sz lo n:Nat):(AV.vs loc e sz lo n).cells=[.vs loc e sz lo n]:=id rfl
@[go_sem] theorem Qqq(loc:Nat)(e:TypeId)(sz lo n:Nat):(AV.vs loc e sz lo n).isTup=false:=id rfl
@[go_sem] theorem Qkf{t:TI}(h:t.isAgg=true){l:List AV}(g:l.length=t.size):boxCells t (.val (.agg l))=some (l.map .val):=by unfold boxCells;rw[h];simp only[cond_true];rw[if_pos g]
@[go_sem] theorem Qkg{t:TI}(h:t.isAgg=false)(g:t.isGood=true){x:Slot}(hx:x.cellOk=true):boxCells t x=some [x]:=by unfold boxCells;rw[h,hx,g];rfl
def aggO(t:TI)(o:Option (List AV)):Option Slot:=match o with|some l=>if l.length=t.size then some (.val (.agg l)) else none|none=>none
@[go_sem] theorem QoM{t:TI}{l:List AV}(h:l.length=t.size):aggO t (some l)=some (.val (.agg l)):=by simp only[aggO];rw[if_pos h]
@[go_sem] theorem Qm4{t:TI}(h:t.isAgg=true)(cs:List Slot):ofSlots t cs=aggO t (avs cs):=by unfold ofSlots;rw[h];rfl
@[go_sem] theorem Qm5{t:TI}(h:t.isAgg=false)(x:Slot):ofSlots t [x]=some x:=by simp[go_sem,ofSlots,h]
@[go_sem] theorem Qm2{t:TI}(h:t.isAgg=true){cs:List AV}(g:cs.length=t.size):ofCells t cs=some (.agg cs):=by unfold ofCells;rw[h];simp only[cond_true];rw[if_pos g]
@[go_sem] theorem Qm3{t:TI}(h:t.isAgg=false)(x:AV):ofCells t [x]=some x:=by simp[go_sem,ofCells,h]
@[go_sem] theorem Qrw(t:TI)(r:Bool)(s:St)(l:List AV):ldV t r s (.val (.cp l))=(ofCells t (l.take t.size)).map .val:=by
  simp only[ldV];cases ofCells t (l.take t.size)<;>rfl
attribute [go_sem] List.take_of_length_le Yi Yn Yg Yp Yh Ye Yk Yo Yr List.append_nil List.take_succ_cons List.take_zero List.drop_succ_cons List.drop_zero List.take_nil List.drop_nil List.map_append List.map_map Option.map_some Option.map_none Bool.and_self Bool.and_true Bool.true_and Bool.and_false Bool.false_and Bool.or_false Bool.or_true Bool.true_or Bool.false_or Bool.not_true Bool.not_false cond_true cond_false if_true if_false reduceCtorEq decide_true decide_false
theorem Qdl{t:TI}(h:t.isAgg=true){l:List AV}(g:l.length=t.size):ofSlots t (l.map .val)=some (.val (.agg l)):=by
 unfold ofSlots;rw[h];simp[go_sem,g]
@[go_sem] theorem Qpr{z l:List AV}(h:z.length=l.length):putAt (z.map .val) 0 (l.map .val)=some (l.map .val):=by
  unfold putAt;simp[go_sem,h]
@[go_sem] theorem QpY{α:Type}{n:Nat}{l m:List α}(h:l.length<=n):(l++m).drop n=m.drop (n - l.length):=by
  rw[List.drop_append,List.drop_of_length_le h];rfl
@[go_sem] theorem QqN{α:Type}{n:Nat}{l m:List α}(h:n<=l.length):(l++m).take n=l.take n:=by
  rw[List.take_append];simp[go_sem,Nat.sub_eq_zero_of_le h]
@[go_sem] theorem QqL{l c:List Slot}{off:Nat}(h:off+c.length<=l.length):putAt l off c=some (l.take off++(c++l.drop (off+c.length))):=by unfold putAt;rw[if_pos h]
theorem Q2M{sz:Nat}{x:Slot}{k:IntKind}{n:Nat}{l:List AV}{v:AV}(h:x.list? = some l)(hv:l[n]? = some v)(hs:v.cells.length=sz)(h0:0<sz):ixS sz x (.val (.int k (n:Int)))=some (.val (.cp v.cells)):=by
 have hlt:=(List.getElem?_eq_some_iff.1 hv).1
 unfold ixS
 rw[h]
 simp only[ixO,ixL]
 rw[if_pos ⟨by omega,by omega⟩]
 simp[go_sem,hv,hs,h0]
@[go_sem] theorem Qrp(off:Nat)(l:List AV):faV off (.val (.cp l))=some (.val (.cp (l.drop off))):=id rfl
@[go_sem] theorem Qrq(off a o:Nat):faV off (.val (.vp a o))=some (.val (.vp a (o+off))):=id rfl
@[go_sem] theorem Qm0(l:List AV):nilCheckV (.val (.cp l))=some (.val (.cp l)):=id rfl
@[go_sem] theorem Qm1(a b:Nat):nilCheckV (.val (.vp a b))=some (.val (.vp a b)):=id rfl
def fullO(o:Option (List AV)):Option Slot:=match o with|some l=>some (.full l)|none=>none
@[go_sem] theorem QmO(l:List AV):fullO (some l)=some (.full l):=id rfl
@[go_sem] theorem Qr1(sz:Nat)(xs:List Slot):bslF sz xs=fullO (bslS sz xs):=by unfold bslF;cases bslS sz xs<;>rfl
@[go_sem] theorem QgA(sz:Nat):bslS sz []=some []:=id rfl
@[go_sem] theorem QgB{sz:Nat}{v:AV}(h:v.cells.length=sz)(g:v.isTup=false)(r:List Slot):bslS sz (.val v::r)=(bslS sz r).map (v :: ·):=by
  simp only[bslS,Q1l];rw[if_pos ⟨h,g⟩];cases bslS sz r<;>rfl
theorem Q6e{sz loc lo m:Nat}{e:TypeId}{k:IntKind}{n:Nat}(h:n<m)(h0:0<sz):ixS sz (.val (.vs loc e sz lo m)) (.val (.int k (n:Int)))=some (.val (.vp loc ((lo+n)*sz))):=by
 simp only[ixS,Qcc,ixO,ixV]
 rw[if_pos ⟨⟨by omega,by omega⟩,trivial,h0⟩]
 simp
@[go_sem] theorem Qp6(l:List AV):fillS l []=some l:=id rfl
@[go_sem] theorem Qp7{l:List AV}{off sz:Nat}{v:AV}(h:v.cells.length=sz)(g:v.isTup=false)(k:off+v.cells.length<=l.length)(r:List (Nat × Nat × Slot)):fillS l ((off,sz,.val v)::r)=fillS (l.take off++(v.cells++l.drop (off+v.cells.length))) r:=by
  simp only[fillS,Q1l];rw[if_pos ⟨h,g⟩];simp only[setAt];rw[if_pos k]
theorem Qeq{l:List AV}{off sz:Nat}{x:Slot}{v:AV}(hx:x.av=some v)(h:v.cells.length=sz)(g:v.isTup=false)(k:off+v.cells.length<=l.length)(r:List (Nat × Nat × Slot)):fillS l ((off,sz,x)::r)=fillS (l.take off++(v.cells++l.drop (off+v.cells.length))) r:=by
 simp only[fillS,hx];rw[if_pos ⟨h,g⟩];simp only[setAt];rw[if_pos k]
def bldO(o:Option (List AV)):Option Slot:=match o with|some l=>some (.val (.agg l))|none=>none
@[go_sem] theorem QoS(l:List AV):bldO (some l)=some (.val (.agg l)):=id rfl
@[go_sem] theorem QoT(z:List AV)(ps:List (Nat × Nat × Slot)):buildS z ps=bldO (fillS z ps):=by unfold buildS;cases fillS z ps<;>rfl
@[go_sem] theorem Qpy:avsO []=some []:=id rfl
@[go_sem] theorem Qpz(v:AV)(r:List (Option Slot)):avsO (some (.val v)::r)=(avsO r).map (v :: ·):=by
  simp only[avsO,Q1l];cases avsO r<;>rfl
theorem Qa2{x:Slot}{v:AV}(h:x.av=some v)(r:List (Option Slot)):avsO (some x::r)=(avsO r).map (v :: ·):=by
 simp only[avsO,h];cases avsO r<;>rfl
def tupO(o:Option (List AV)):Option Slot:=match o with|some l=>some (.val (.tup l))|none=>none
@[go_sem] theorem Qpt(l:List AV):tupO (some l)=some (.val (.tup l)):=id rfl
@[go_sem] theorem Qrf(rs:List (Option Slot)):tupS rs=tupO (avsO rs):=id rfl
@[go_sem] theorem Qq1(a:AV)(l:List AV):extractS (.val (.tup (a::l))) 0=some (.val a):=id rfl
@[go_sem] theorem Qq2(a b:AV)(l:List AV):extractS (.val (.tup (a::b::l))) 1=some (.val b):=id rfl
@[go_sem] theorem Qq3(a b c:AV)(l:List AV):extractS (.val (.tup (a::b::c::l))) 2=some (.val c):=id rfl
theorem Qki(cl:CallFn)(f:FuncId)(caps:List AV)(args:List Slot)(s:St):cal cl true (tgtV (.val (.fn f caps)) args) s=match avs args with|some l=>cl (.f f) (l++caps) s|none=>none:=by
 unfold tgtV
 cases avs args<;>rfl
@[go_sem] theorem Qr2(cl:CallFn)(loc:Nat)(args:List Slot)(s:St):cal cl true (tgtV (.val (.yld loc)) args) s=match avs args with|some l=>cl (.y loc) l s|none=>none:=by
  unfold tgtV
  cases avs args<;>rfl
def gdR(b:Bool)(r:Res)(s:St):Res:=bif b then r else some (.ret .no,s)
@[go_sem] theorem Qqd(r:Res)(s:St):gdR true r s=r:=id rfl
@[go_sem] theorem Qp9(r:Res)(s:St):gdR false r s=some (.ret .no,s):=id rfl
@[go_sem] theorem Qqc(b:Bool)(v:Slot)(s:St):gdR b (some (.ret v,s)) s=some (.ret (gdV b v),s):=by cases b<;>rfl
@[congr] theorem Qp8{b b':Bool}{r r':Res}{s:St}(h:b=b')(g:b'=true->r=r'):gdR b r s=gdR b' r' s:=by
  subst h;cases b
  ·rfl
  ·rw[g rfl]
def argC(cl:CallFn)(f:FuncId)(caps:List AV)(o:Option (List AV))(s:St):Res:=match o with|some l=>cl (.f f) (l++caps) s|none=>none
@[go_sem] theorem QoN(cl:CallFn)(f:FuncId)(caps l:List AV)(s:St):argC cl f caps (some l) s=cl (.f f) (l++caps) s:=id rfl
@[go_sem] theorem QrR(cl:CallFn)(f:FuncId)(caps:List AV)(b:Bool)(x:Slot)(r:List Slot)(s:St):gdR b (argC cl f caps (avs (gdV b x::r)) s) s=gdR b (argC cl f caps (avs (x::r)) s) s:=by cases b<;>rfl
@[go_sem] theorem QrS(cl:CallFn)(f:FuncId)(caps:List AV)(b:Bool)(x:Slot)(r:List Slot)(g:List AV->List AV)(s:St):gdR b (argC cl f caps ((avs (gdV b x::r)).map g) s) s=gdR b (argC cl f caps ((avs (x::r)).map g) s) s:=by cases b<;>rfl
@[go_sem] theorem QrT(cl:CallFn)(f:FuncId)(caps:List AV)(b:Bool)(x:Slot)(r:List Slot)(g h:List AV->List AV)(s:St):gdR b (argC cl f caps (((avs (gdV b x::r)).map g).map h) s) s=gdR b (argC cl f caps (((avs (x::r)).map g).map h) s) s:=by cases b<;>rfl
@[go_sem] theorem Qrn(cl:CallFn)(w:Bool)(f:FuncId)(caps:List AV)(args:List Slot)(s:St):cal cl w (tgtV (.val (.fn f caps)) args) s=gdR w (argC cl f caps (avs args) s) s:=by
  cases w
  ·rfl
  ·rw[Qki];rfl
@[go_sem] theorem QoU(cl:CallFn)(t:Option (Callee × List AV))(s:St):cal cl false t s=some (.ret .no,s):=id rfl
def Grew(s s':St):Prop:=(∃ a,s'.locs=s.locs++a)/\∃ b,s'.toks=s.toks++b
theorem Grew.refl(s:St):Grew s s:=⟨⟨[],by simp⟩,⟨[],by simp⟩⟩
theorem Grew.trans{a b c:St}(h:Grew a b)(k:Grew b c):Grew a c:=by
 obtain⟨⟨x,hx⟩,⟨y,hy⟩⟩:=h
 obtain⟨⟨u,hu⟩,⟨v,hv⟩⟩:=k
 exact⟨⟨x++u,by rw[hu,hx,Yr]⟩,⟨y++v,by rw[hv,hy,Yr]⟩⟩
theorem Grew.tok{s s':St}(h:Grew s s'){k n:Nat}(hk:s.toks[k]? = some n):s'.toks[k]? = some n:=by
 obtain⟨_,b,hb⟩:=h
 rw[hb,List.getElem?_append_left (List.getElem?_eq_some_iff.1 hk).1]
 exact hk
theorem Grew.toksLe{s s':St}(h:Grew s s'):s.toks.length<=s'.toks.length:=by
 obtain⟨_,b,hb⟩:=h
 rw[hb];simp
theorem Grew.loc{s s':St}(h:Grew s s'){k:Nat}{o:Obj}(hk:s.locs[k]? = some o):s'.locs[k]? = some o:=by
 obtain⟨⟨a,ha⟩,_⟩:=h
 rw[ha,List.getElem?_append_left (List.getElem?_eq_some_iff.1 hk).1]
 exact hk
theorem Grew.locsLe{s s':St}(h:Grew s s'):s.locs.length<=s'.locs.length:=by
 obtain⟨⟨a,ha⟩,_⟩:=h
 rw[ha];simp
structure AccR (e:TypeId) (s0 s:St) (x:Slot) (l:List AV):Prop where
 grew:Grew s0 s
 is:(x = .val .nils/\l=[])\/x = .full l\/∃ k,x = .own k e l/\s0.toks.length<=k/\s.toks[k]? = some l.length
theorem AccR.list?{e:TypeId}{s0 s:St}{x:Slot}{l:List AV}(h:AccR e s0 s x l):x.list? = some l:=by
 rcases h.is with ⟨rfl,rfl⟩|rfl|⟨k,rfl,_⟩<;>rfl
theorem AccR.av{e:TypeId}{s0 s:St}{x:Slot}{l:List AV}(h:AccR e s0 s x l):∃ nl,x.av=some (encS nl l):=by
 rcases h.is with ⟨rfl,rfl⟩|rfl|⟨k,rfl,_⟩
 ·exact⟨true,rfl⟩
 ·exact⟨false,rfl⟩
 ·exact⟨false,rfl⟩
theorem AccR.move{e:TypeId}{s0 s s':St}{x:Slot}{l:List AV}(h:AccR e s0 s x l)(g:Grew s s'):AccR e s0 s' x l:=by
 refine⟨h.grew.trans g,?_⟩
 rcases h.is with hx|hx|⟨k,hx,h1,h2⟩
 ·exact .inl hx
 ·exact .inr (.inl hx)
 ·exact .inr (.inr ⟨k,hx,h1,g.tok h2⟩)
theorem AccR.nil(e:TypeId)(s:St):AccR e s s (.val .nils) []:=⟨.refl s,.inl ⟨rfl,rfl⟩⟩
theorem AccR.full(e:TypeId)(s:St)(l:List AV):AccR e s s (.full l) l:=⟨.refl s,.inr (.inl rfl)⟩
theorem Grew.pushTok{s0 s:St}(h:Grew s0 s)(n:Nat):Grew s0 { s with toks:=s.toks++[n] }:=by
 obtain⟨ha,b,hb⟩:=h
 exact⟨ha,b++[n],by simp[go_sem,hb]⟩
theorem Grew.setTok{s0 s:St}(h:Grew s0 s){k:Nat}(hk:s0.toks.length<=k)(n:Nat):Grew s0 { s with toks:=s.toks.set k n }:=by
 obtain⟨ha,b,hb⟩:=h
 refine⟨ha,b.set (k - s0.toks.length) n,?_⟩
 simp only[hb]
 rw[List.set_append_right _ _ hk]
theorem Grew.addLoc{s0 s:St}(h:Grew s0 s)(o:Obj):Grew s0 (s.addLoc o):=by
 obtain⟨⟨a,ha⟩,hb⟩:=h
 exact⟨⟨a++[o],by simp[go_sem,St.addLoc,ha]⟩,hb⟩
theorem Q02{sz:Nat}{l:List AV}(h:∀ v ∈ l,v.cells.length=sz)(h0:0<sz):okSz sz l=true:=by
 unfold okSz
 simp only[Ya,List.all_eq_true,beq_iff_eq]
 exact⟨h,by simpa using h0⟩
theorem AccR.append{e:TypeId}{t:TI}{s0 s:St}{x y:Slot}{l m:List AV}(h:AccR e s0 s x l)(hy:y.list? = some m)(hl:∀ v ∈ l,v.cells.length=t.size)(hm:∀ v ∈ m,v.cells.length=t.size)(h0:0<t.size)
  (b1:(l.length+m.length)*t.bytes<=140737488355328) (b2:l.length+m.length<=9223372036854775807):∃ x' s',appendS e t s x y=some (x',s')/\AccR e s0 s' x' (l++m):=by
 unfold appendS
 rw[hy]
 cases m with
 |nil=>
   simp only[h.list?]
   exact⟨x,s,rfl,by simpa using h⟩
 |cons a m=>
   simp only[Q02 hm h0,cond_true]
   rcases h.is with ⟨rfl,rfl⟩|rfl|⟨k,rfl,h1,h2⟩
   ·simp only[]
    rw[if_pos ⟨by simpa using b1,by simpa using b2⟩]
    exact⟨_,_,rfl,h.grew.pushTok _,.inr (.inr ⟨s.toks.length,rfl,h.grew.toksLe,by simp⟩)⟩
   ·simp only[Q02 hl h0,cond_true]
    rw[if_pos ⟨b1,b2⟩]
    exact⟨_,_,rfl,h.grew.pushTok _,.inr (.inr ⟨s.toks.length,rfl,h.grew.toksLe,by simp⟩)⟩
   ·simp only[Q02 hl h0,cond_true]
    have hlt:=(List.getElem?_eq_some_iff.1 h2).1
    rw[if_pos ⟨trivial,h2,b1,b2⟩]
    exact⟨_,_,rfl,h.grew.setTok h1 _,.inr (.inr ⟨k,rfl,h1,by simp[go_sem,hlt]⟩)⟩
def Ret(r:Res)(s:St)(v:AV):Prop:=∃ s',r=some (.ret (.val v),s')/\Grew s s'
def RetA(r:Res)(e:TypeId)(s:St)(l:List AV):Prop:=∃ x s',r=some (.ret x,s')/\AccR e s s' x l
theorem Ret.mk{s s':St}{v:AV}(h:Grew s s'):Ret (some (.ret (.val v),s')) s v:=⟨s',rfl,h⟩
theorem Ret.same(s:St)(v:AV):Ret (some (.ret (.val v),s)) s v:=⟨s,rfl,.refl s⟩
theorem RetA.mk{e:TypeId}{s s':St}{x:Slot}{l:List AV}(h:AccR e s s' x l):RetA (some (.ret x,s')) e s l:=⟨x,s',rfl,h⟩
theorem AccR.appendF{α:Type}{f:α->AV}{e:TypeId}{t:TI}{s0 s:St}{x y:Slot}{A B:List α}(h:AccR e s0 s x (A.map f))(hy:y.list? = some (B.map f))(hf:∀ a,(f a).cells.length=t.size)(h0:0<t.size)
  (b:A.length+B.length<2^30) (hb:t.bytes<=2^16):∃ x' s',appendS e t s x y=some (x',s')/\AccR e s0 s' x' ((A++B).map f):=by
 have h1:(A.length+B.length)*t.bytes<=2^30*2^16:=Nat.mul_le_mul (Nat.le_of_lt b) hb
 have:=AccR.append (m:=B.map f) h hy (t:=t) (λv hv=>by obtain⟨a,_,rfl⟩:=List.mem_map.1 hv;exact hf a) (λv hv=>by obtain⟨a,_,rfl⟩:=List.mem_map.1 hv;exact hf a) h0 (by simp only[Yh];omega) (by simp only[Yh];omega)
 simpa using this
theorem Qh{α:Type}{f:α->AV}{L pre suf:List α}{t:α}{x:Slot}{sz:Nat}(hx:x.list? = some (L.map f))(h:pre++t::suf=L)(hl:L.length<2^62)(hs:(f t).cells.length=sz)(h0:0<sz) :
  decide ((pre.length:Int)<(L.length:Int))=true/\ixS sz x (.val (.int .i64 (pre.length:Int)))=some (.val (.cp (f t).cells))/\IntKind.i64.wrap ((pre.length:Int)+1)=((pre.length+1:Nat):Int):=by
 have hlt:pre.length<L.length:=by rw[<-h];simp
 refine⟨by simpa using hlt,Q2M hx (by rw[<-h];simp) hs h0,?_⟩
 rw[wrap64 (by omega) (by omega)]
 rfl
theorem Ql{α:Type}{L pre:List α}(h:pre=L):decide ((pre.length:Int)<(L.length:Int))=false:=by subst h;simp
end Go.Am
namespace Go.Am
open Go
@[go_sem] theorem QmN{t ft:TI}{off:Nat}{l:List AV}(h:1<=ft.size):fieldS t ft off (.val (.agg l))=(ofCells ft ((l.drop off).take ft.size)).map .val:=by
  simp only[fieldS,if_pos (show 0<ft.size from h)];cases ofCells ft ((l.drop off).take ft.size)<;>rfl
@[go_sem] theorem Qm6{α β:Type}(f:α->β)(a:α):(some a).map f=some (f a):=id rfl
theorem QS{t:TI}{s:St}{loc off:Nat}{cs:List Slot}(h:s.locs[loc]? = some (.var cs)):ldV t false s (.val (.vp loc off))=ofSlots t ((cs.drop off).take t.size):=by simp[ldV,h]
theorem Q2B{s:St}{loc off:Nat}{cs c:List Slot}(h:s.locs[loc]? = some (.var cs))(g:off+c.length<=cs.length):stV s (.val (.vp loc off)) c=some { s with locs:=s.locs.set loc (.var (cs.take off++(c++cs.drop (off+c.length)))) }:=by
 simp only[stV,h,putAt,if_pos g]
theorem Q1L{α:Type}{l:List α}{i:Nat}{a b:α}(h:l[i]? = some a):(l.set i b)[i]? = some b:=by
 have:=(List.getElem?_eq_some_iff.1 h).1
 simp[this]
@[go_sem] theorem Q8y(s:St)(o:Obj):(s.addLoc o).locs.length=s.locs.length+1:=by simp[St.addLoc]
@[go_sem] theorem Qm7(s:St)(o:Obj):(s.addLoc o).toks=s.toks:=id rfl
theorem Q24(s:St)(o:Obj):(s.addLoc o).locs[s.locs.length]? = some o:=by simp[St.addLoc]
theorem Qiw(s:St)(o c:List Slot)(h:c.length=o.length):stV (s.addLoc (.var o)) (.val (.vp s.locs.length 0)) c=some (s.addLoc (.var c)):=by
 rw[Q2B (cs:=o) (Q24 _ _) (by omega)]
 simp[St.addLoc,h]
@[go_sem] theorem Qhp(s:St)(o c:Slot):stV (s.addLoc (.var [o])) (.val (.vp s.locs.length 0)) [c]=some (s.addLoc (.var [c])):=Qiw s [o] [c] rfl
@[go_sem] theorem QqM(s:St)(a:Obj)(o c:Slot):stV ((s.addLoc a).addLoc (.var [o])) (.val (.vp (s.locs.length+1) 0)) [c]=some ((s.addLoc a).addLoc (.var [c])):=by
  have:=Qhp (s.addLoc a) o c
  rwa [Q8y] at this
def fnO(f:FuncId)(o:Option (List AV)):Option Slot:=match o with|some l=>some (.val (.fn f l))|none=>none
@[go_sem] theorem Qq5(f:FuncId)(l:List AV):fnO f (some l)=some (.val (.fn f l)):=id rfl
@[go_sem] theorem Qrr(f:FuncId)(xs:List Slot):fnS f xs=fnO f (avs xs):=by unfold fnS;cases avs xs<;>rfl
theorem Q26{t:TI}{k:IntKind}(h:t.k = .int k)(n:Int):isKey t (.int k n)=true:=by simp[isKey,h,TK.has]
theorem QaN{t:TI}{z:AV}(hg:t.isGood=true)(ha:t.isAgg=false)(hz:t.zero=[z]):t.zeroV=some z:=by simp[TI.zeroV,hg,ofCells,ha,hz]
theorem Qgn{t:TI}{l:List AV}(hg:t.isGood=true)(ha:t.isAgg=true)(hz:t.zero=l)(hl:l.length=t.size):t.zeroV=some (.agg l):=by simp[TI.zeroV,hg,ofCells,ha,hz,hl]
structure Moves (A h h':List Nat) (s s':St):Prop where
 tl:s.toks.length<=s'.toks.length
 tk:∀ k,k<s.toks.length->k ∉ h->s'.toks[k]? = s.toks[k]?
 new:∀ k ∈ h',k ∈ h\/s.toks.length<=k
 ll:s.locs.length<=s'.locs.length
 lk:∀ i,i<s.locs.length->i ∉ A->s'.locs[i]? = s.locs[i]?
theorem Moves.refl(A h:List Nat)(s:St):Moves A h h s s:=⟨Yd _,λ_ _ _=>rfl,λ_ h=>.inl h,Yd _,λ_ _ _=>rfl⟩
theorem Moves.trans{A h h' h'':List Nat}{s s' s'':St}(a:Moves A h h' s s')(b:Moves A h' h'' s' s''):Moves A h h'' s s'' where
 tl:=Nat.le_trans a.tl b.tl
 tk:=λk hk hn=>by
  have h1:=a.tl
  rw[b.tk k (by omega) (λhm=>(a.new k hm).elim hn (λh=>by omega)),a.tk k hk hn]
 new:=λk hk=>(b.new k hk).elim (a.new k) (λh=>.inr (Nat.le_trans a.tl h))
 ll:=Nat.le_trans a.ll b.ll
 lk:=λi hi hn=>by
  have h1:=a.ll
  rw[b.lk i (by omega) hn,a.lk i hi hn]
theorem Moves.grew{s s':St}(A h:List Nat)(g:Grew s s'):Moves A h h s s':=
 ⟨g.toksLe,λk hk _=>by rw[List.getElem?_eq_getElem hk];exact g.tok (List.getElem?_eq_getElem hk),λ_ h=>.inl h,g.locsLe,λi hi _=>by rw[List.getElem?_eq_getElem hi];exact g.loc (List.getElem?_eq_getElem hi)⟩
theorem Q7i{α:Type}{l m:List α}(h:l.length<=m.length)(g:∀ i,i<l.length->m[i]? = l[i]?):∃ a,m=l++a:=by
 refine⟨m.drop l.length,List.ext_getElem? λi=>?_⟩
 by_cases hi:i<l.length
 ·rw[List.getElem?_append_left hi,g i hi]
 ·rw[List.getElem?_append_right (by omega),List.getElem?_drop];congr 1;omega
theorem Moves.toGrew{s s':St}(m:Moves [] [] [] s s'):Grew s s':=
 ⟨Q7i m.ll λi hi=>m.lk i hi (by simp),Q7i m.tl λi hi=>m.tk i hi (by simp)⟩
theorem Moves.wider{A A' h h':List Nat}{s s':St}(m:Moves A h h' s s')(hA:∀ i ∈ A,i ∈ A'):Moves A' h h' s s':=
 ⟨m.tl,m.tk,m.new,m.ll,λi hi hn=>m.lk i hi λh=>hn (hA i h)⟩
theorem Moves.tok{A h h':List Nat}{s s':St}(m:Moves A h h' s s'){i n:Nat}(hi:s.toks[i]? = some n)(hn:i ∉ h):s'.toks[i]? = some n:=by
 rw[m.tk i (List.getElem?_eq_some_iff.1 hi).1 hn];exact hi
theorem Moves.shrink{A h:List Nat}{s s':St}{h':List Nat}(m:Moves A h h' s s'){g:List Nat}(hg:∀ k ∈ g,k ∈ h'):Moves A h g s s':=⟨m.tl,m.tk,λk hk=>m.new k (hg k hk),m.ll,m.lk⟩
theorem Moves.setLoc{A h h':List Nat}{s s':St}(m:Moves A h h' s s'){i:Nat}(hi:i ∈ A\/s.locs.length<=i)(o:Obj):Moves A h h' s { s' with locs:=s'.locs.set i o }:=
 ⟨m.tl,m.tk,m.new,by simpa using m.ll,λj hj hn=>by
   have:i≠j:=λe=>by subst e;exact hi.elim hn (λh=>by omega)
   rw[List.getElem?_set_ne this];exact m.lk j hj hn⟩
theorem Moves.since{A B h g g':List Nat}{s0 s s':St}(m:Moves A h h s0 s)(c:Moves B g g' s s')(hB:∀ i ∈ B,i ∈ A\/s0.locs.length<=i)(hg:∀ k ∈ g,k ∈ h\/s0.toks.length<=k):Moves A h h s0 s' where
 tl:=Nat.le_trans m.tl c.tl
 tk:=λk hk hn=>by
  have:=m.tl
  rw[c.tk k (by omega) (λhm=>(hg k hm).elim hn (λh=>by omega)),m.tk k hk hn]
 new:=λ_ h=>.inl h
 ll:=Nat.le_trans m.ll c.ll
 lk:=λi hi hn=>by
  have:=m.ll
  rw[c.lk i (by omega) (λhm=>(hB i hm).elim hn (λh=>by omega)),m.lk i hi hn]
structure AccH (e:TypeId) (base:Nat) (h:List Nat) (s:St) (x:Slot) (l:List AV):Prop where
 is:(x = .val .nils/\l=[])\/(x = .full l/\l≠[])\/∃ k,x = .own k e l/\k ∉ h/\base<=k/\s.toks[k]? = some l.length/\l≠[]
theorem AccH.nil(e:TypeId)(base:Nat)(h:List Nat)(s:St):AccH e base h s (.val .nils) []:=⟨.inl ⟨rfl,rfl⟩⟩
theorem AccH.list?{e:TypeId}{base:Nat}{h:List Nat}{s:St}{x:Slot}{l:List AV}(a:AccH e base h s x l):x.list? = some l:=by
 rcases a.is with ⟨rfl,rfl⟩|⟨rfl,_⟩|⟨k,rfl,_⟩<;>rfl
theorem Q48{l:List AV}(h:l≠[]):encS true l = .sl l:=by cases l with|nil=>exact absurd rfl h|cons a l=>rfl
theorem AccH.av{e:TypeId}{base:Nat}{h:List Nat}{s:St}{x:Slot}{l:List AV}(a:AccH e base h s x l):x.av=some (encS true l):=by
 rcases a.is with ⟨rfl,rfl⟩|⟨rfl,hl⟩|⟨k,rfl,_,_,_,hl⟩
 ·rfl
 ·rw[Q48 hl];rfl
 ·rw[Q48 hl];rfl
theorem AccH.cellOk{e:TypeId}{base:Nat}{h:List Nat}{s:St}{x:Slot}{l:List AV}(a:AccH e base h s x l):x.cellOk=true:=by
 rcases a.is with ⟨rfl,rfl⟩|⟨rfl,_⟩|⟨k,rfl,_⟩<;>rfl
theorem AccH.move{e:TypeId}{base:Nat}{A h h':List Nat}{s s':St}{x:Slot}{l:List AV}(a:AccH e base h s x l)(m:Moves A h h' s s'):AccH e base h' s' x l:=by
 rcases a.is with hx|hx|⟨k,hx,h1,h2,h3,h4⟩
 ·exact⟨.inl hx⟩
 ·exact⟨.inr (.inl hx)⟩
 ·exact⟨.inr (.inr ⟨k,hx,λhk=>(m.new k hk).elim h1 (λh=>by have:=(List.getElem?_eq_some_iff.1 h3).1;omega),h2,m.tok h3 h1,h4⟩)⟩
theorem AccH.append{e:TypeId}{t:TI}{A h0 h:List Nat}{s0 s:St}{x y:Slot}{l m:List AV}(a:AccH e s0.toks.length h s x l)(M:Moves A h0 h s0 s)(hh:∀ k ∈ h,k<s.toks.length)(hy:y.list? = some m)(hl:∀ v ∈ l,v.cells.length=t.size)(hm:∀ v ∈ m,v.cells.length=t.size)(h0':0<t.size)
  (b1:(l.length+m.length)*t.bytes<=140737488355328) (b2:l.length+m.length<=9223372036854775807) :
  ∃ x' s',appendS e t s x y=some (x',s')/\AccH e s0.toks.length h s' x' (l++m)/\Moves A h0 h s0 s'/\s'.locs=s.locs/\(∀ k ∈ h,s'.toks[k]? = s.toks[k]?)/\(∀ k ∈ h,k<s'.toks.length):=by
 unfold appendS
 rw[hy]
 have push:∀ n:Nat,Moves A h0 h s0 { s with toks:=s.toks++[n] }/\(∀ k ∈ h,(s.toks++[n])[k]? = s.toks[k]?)/\∀ k ∈ h,k<(s.toks++[n]).length:=λn=>
  ⟨M.trans (Moves.grew _ _ ((Grew.refl s).pushTok n)),λk hk=>List.getElem?_append_left (hh k hk),λk hk=>by have:=hh k hk;simp;omega⟩
 cases m with
 |nil=>
   simp only[a.list?]
   exact⟨x,s,rfl,by simpa using a,M,rfl,λ_ _=>rfl,hh⟩
 |cons q m=>
   simp only[Q02 hm h0',cond_true]
   rcases a.is with ⟨rfl,rfl⟩|⟨rfl,hn⟩|⟨k,rfl,h1,h2,h3,h4⟩
   ·simp only[]
    rw[if_pos ⟨by simpa using b1,by simpa using b2⟩]
    obtain⟨p1,p2,p3⟩:=push (q::m).length
    exact⟨_,_,rfl,⟨.inr (.inr ⟨s.toks.length,rfl,λhk=>by have:=hh _ hk;omega,M.tl,by simp,by simp⟩)⟩,p1,rfl,p2,p3⟩
   ·simp only[Q02 hl h0',cond_true]
    rw[if_pos ⟨b1,b2⟩]
    obtain⟨p1,p2,p3⟩:=push (l.length+(q::m).length)
    exact⟨_,_,rfl,⟨.inr (.inr ⟨s.toks.length,rfl,λhk=>by have:=hh _ hk;omega,M.tl,by simp,by simp⟩)⟩,p1,rfl,p2,p3⟩
   ·simp only[Q02 hl h0',cond_true]
    have hlt:=(List.getElem?_eq_some_iff.1 h3).1
    rw[if_pos ⟨trivial,h3,b1,b2⟩]
    refine⟨_,_,rfl,⟨.inr (.inr ⟨k,rfl,h1,h2,by simp[hlt],by simp⟩)⟩,?_,rfl,λj hj=>?_,λj hj=>by have:=hh j hj;simpa using this⟩
    ·refine⟨by simpa using M.tl,λj hj hn=>?_,M.new,M.ll,M.lk⟩
     rw[List.getElem?_set_ne (by omega)];exact M.tk j hj hn
    ·rw[List.getElem?_set_ne (λe=>h1 (by rw[e];exact hj))]
theorem AccH.appendF{α:Type}{f:α->AV}{e:TypeId}{t:TI}{A0 h0 h:List Nat}{s0 s:St}{x y:Slot}{A B:List α}(a:AccH e s0.toks.length h s x (A.map f))(M:Moves A0 h0 h s0 s)(hh:∀ k ∈ h,k<s.toks.length)(hy:y.list? = some (B.map f))(hf:∀ a,(f a).cells.length=t.size)(h0':0<t.size)
  (b:A.length+B.length<2^30) (hb:t.bytes<=2^16):∃ x' s',appendS e t s x y=some (x',s')/\AccH e s0.toks.length h s' x' ((A++B).map f)/\Moves A0 h0 h s0 s'/\s'.locs=s.locs/\(∀ k ∈ h,s'.toks[k]? = s.toks[k]?)/\(∀ k ∈ h,k<s'.toks.length):=by
 have h1:(A.length+B.length)*t.bytes<=2^30*2^16:=Nat.mul_le_mul (Nat.le_of_lt b) hb
 have:=AccH.append (m:=B.map f) a M hh hy (t:=t) (λv hv=>by obtain⟨a,_,rfl⟩:=List.mem_map.1 hv;exact hf a) (λv hv=>by obtain⟨a,_,rfl⟩:=List.mem_map.1 hv;exact hf a) h0' (by simp only[Yh];omega) (by simp only[Yh];omega)
 simpa using this
def HeldIs(e:TypeId)(s:St)(x:Slot)(l:List AV)(h:List Nat):Prop:=
 (x = .val .nils/\l=[]/\h=[])\/(x = .full l/\l≠[]/\h=[])\/∃ k,x = .own k e l/\h=[k]/\s.toks[k]? = some l.length/\l≠[]
theorem HeldIs.list?{e:TypeId}{s:St}{x:Slot}{l:List AV}{h:List Nat}(a:HeldIs e s x l h):x.list? = some l:=by
 rcases a with ⟨rfl,rfl,_⟩|⟨rfl,_⟩|⟨k,rfl,_⟩<;>rfl
theorem HeldIs.av{e:TypeId}{s:St}{x:Slot}{l:List AV}{h:List Nat}(a:HeldIs e s x l h):x.av=some (encS true l):=by
 rcases a with ⟨rfl,rfl,_⟩|⟨rfl,hl,_⟩|⟨k,rfl,_,_,hl⟩
 ·rfl
 ·rw[Q48 hl];rfl
 ·rw[Q48 hl];rfl
theorem HeldIs.cellOk{e:TypeId}{s:St}{x:Slot}{l:List AV}{h:List Nat}(a:HeldIs e s x l h):x.cellOk=true:=by
 rcases a with ⟨rfl,rfl,_⟩|⟨rfl,_⟩|⟨k,rfl,_⟩<;>rfl
theorem HeldIs.held{e:TypeId}{s:St}{x:Slot}{l:List AV}{h:List Nat}(a:HeldIs e s x l h):∀ k ∈ h,k<s.toks.length:=by
 rcases a with ⟨_,_,rfl⟩|⟨_,_,rfl⟩|⟨k,_,rfl,ht,_⟩<;>intro k' hk
 ·cases hk
 ·cases hk
 ·simp only[List.mem_singleton] at hk;subst hk;exact (List.getElem?_eq_some_iff.1 ht).1
theorem HeldIs.stab{e:TypeId}{s s':St}{x:Slot}{l:List AV}{h:List Nat}(a:HeldIs e s x l h)(ht:∀ k ∈ h,s'.toks[k]? = s.toks[k]?):HeldIs e s' x l h:=by
 rcases a with a|a|⟨k,rfl,rfl,hk,hl⟩
 ·exact .inl a
 ·exact .inr (.inl a)
 ·exact .inr (.inr ⟨k,rfl,rfl,by rw[ht k (by simp)];exact hk,hl⟩)
theorem HeldIs.append{e:TypeId}{t:TI}{s:St}{x y:Slot}{l m:List AV}{h:List Nat}(a:HeldIs e s x l h)(hy:y.list? = some m)(hl:∀ v ∈ l,v.cells.length=t.size)(hm:∀ v ∈ m,v.cells.length=t.size)(h0:0<t.size)
  (b1:(l.length+m.length)*t.bytes<=140737488355328) (b2:l.length+m.length<=9223372036854775807) :
  ∃ x' s' h',appendS e t s x y=some (x',s')/\HeldIs e s' x' (l++m) h'/\s'.locs=s.locs/\Moves [] h h' s s':=by
 unfold appendS
 rw[hy]
 cases m with
 |nil=>
   simp only[a.list?]
   exact⟨x,s,h,rfl,by simpa using a,rfl,.refl _ _ _⟩
 |cons q m=>
   simp only[Q02 hm h0,cond_true]
   have push:∀ n:Nat,Moves [] h [s.toks.length] s { s with toks:=s.toks++[n] }:=λn=>
    ⟨by simp,λk hk _=>List.getElem?_append_left hk,λk hk=>.inr (by simp at hk;omega),Yd _,λ_ _ _=>rfl⟩
   rcases a with ⟨rfl,rfl,rfl⟩|⟨rfl,hn,rfl⟩|⟨k,rfl,rfl,h3,h4⟩
   ·simp only[]
    rw[if_pos ⟨by simpa using b1,by simpa using b2⟩]
    exact⟨_,_,_,rfl,.inr (.inr ⟨s.toks.length,rfl,rfl,by simp,by simp⟩),rfl,push _⟩
   ·simp only[Q02 hl h0,cond_true]
    rw[if_pos ⟨b1,b2⟩]
    exact⟨_,_,_,rfl,.inr (.inr ⟨s.toks.length,rfl,rfl,by simp,by simp⟩),rfl,push _⟩
   ·simp only[Q02 hl h0,cond_true]
    have hlt:=(List.getElem?_eq_some_iff.1 h3).1
    rw[if_pos ⟨trivial,h3,b1,b2⟩]
    refine⟨_,_,[k],rfl,.inr (.inr ⟨k,rfl,rfl,by simp[hlt],by simp⟩),rfl,⟨by simp,λj hj hn=>?_,λ_ h=>.inl h,Yd _,λ_ _ _=>rfl⟩⟩
    simp only[List.mem_singleton] at hn
    rw[List.getElem?_set_ne (Ne.symm hn)]
theorem HeldIs.appendF{α:Type}{f:α->AV}{e:TypeId}{t:TI}{s:St}{x y:Slot}{A B:List α}{h:List Nat}(a:HeldIs e s x (A.map f) h)(hy:y.list? = some (B.map f))(hf:∀ a,(f a).cells.length=t.size)(h0:0<t.size)
  (b:A.length+B.length<2^30) (hb:t.bytes<=2^16):∃ x' s' h',appendS e t s x y=some (x',s')/\HeldIs e s' x' ((A++B).map f) h'/\s'.locs=s.locs/\Moves [] h h' s s':=by
 have h1:(A.length+B.length)*t.bytes<=2^30*2^16:=Nat.mul_le_mul (Nat.le_of_lt b) hb
 have:=HeldIs.append (m:=B.map f) a hy (t:=t) (λv hv=>by obtain⟨a,_,rfl⟩:=List.mem_map.1 hv;exact hf a) (λv hv=>by obtain⟨a,_,rfl⟩:=List.mem_map.1 hv;exact hf a) h0 (by simp only[Yh];omega) (by simp only[Yh];omega)
 simpa using this
section
variable {K V:Type} [DecidableEq K]
def find3(k:K):List (K × V × Nat)->Nat->Option (Nat × V × Nat)
 |[],_=>none
 |(k',v,b)::r,i=>if k=k' then some (i,v,b) else find3 k r (i+1)
def upd(g:K->Option V)(k:K)(v:V):K->Option V:=λk'=>if k'=k then some v else g k'
theorem Q41(g:K->Option V)(k:K)(v:V):upd g k v k=some v:=by simp[upd]
theorem Q9b(g:K->Option V){k k':K}(v:V)(h:k'≠k):upd g k v k'=g k':=by simp[upd,h]
structure MapIs (ek:K->AV) (ev:V->AV) (g:K->Option V) (es:List (AV × AV × Nat)) (c:Nat) (D:List (K × V × Nat)):Prop where
 eq:es=D.map λp=>(ek p.1,ev p.2.1,p.2.2)
 find:∀ k,g k=(find3 k D 0).map (·.2.1)
 born:∀ p ∈ D,p.2.2<c
 nodup:(D.map (·.2.2)).Nodup
variable {ek:K->AV} {ev:V->AV} {g:K->Option V} {es:List (AV × AV × Nat)} {c:Nat} {D:List (K × V × Nat)}
def KeyEnc(ek:K->AV):Prop:=∀ a b,(ek a).keyEq (ek b)=some (decide (a=b))
theorem keyInt:KeyEnc λn:Int=>AV.int .i64 n:=λa b=>by simp[AV.keyEq];rfl
theorem MapIs.nil:MapIs ek ev (λ_=>none) [] 0 ([]:List (K × V × Nat)):=⟨rfl,λ_=>rfl,by simp,by simp⟩
theorem Q9p(hk:KeyEnc ek)(k:K):∀ (D:List (K × V × Nat)) (i:Nat),findE (ek k) (D.map λp=>(ek p.1,ev p.2.1,p.2.2)) i=some ((find3 k D i).map λq=>(q.1,ev q.2.1,q.2.2))
 |[],_=>rfl
 |(k',v,b)::D,i=>by
   simp only[Yi,findE,hk k k',find3]
   by_cases h:k=k'
   ·simp[h]
   ·simp only[h,decide_false,if_false];exact Q9p hk k D (i+1)
theorem Qac{k:K}{v v0:V}{b:Nat}:∀ {D:List (K × V × Nat)} {i j:Nat},find3 k D i=some (j,v0,b)->i<=j/\D[j - i]? = some (k,v0,b)/\∀ k',find3 k' (D.set (j - i) (k,v,b)) i=if k'=k then some (j,v,b) else find3 k' D i
 |[],_,_,h=>by cases h
 |(k0,v1,b1)::D,i,j,h=>by
   simp only[find3] at h
   by_cases hk:k=k0
   ·simp only[hk,if_true] at h
    cases h
    refine⟨Yd _,by simp[hk],λk'=>?_⟩
    simp only[Nat.sub_self,List.set_cons_zero,find3,hk]
    by_cases h2:k'=k0<;>simp[h2]
   ·simp only[hk,if_false] at h
    obtain⟨h1,h2,h3⟩:=Qac (v:=v) h
    refine⟨by omega,by rw[show j - i=(j - (i+1))+1 by omega];simpa using h2,λk'=>?_⟩
    rw[show j - i=(j - (i+1))+1 by omega]
    simp only[List.set_cons_succ,find3,h3]
    by_cases e:k'=k0
    ·have:k'≠k:=λe'=>hk (by rw[<-e',e])
     simp[e,this]
     intro e';exact absurd e'.symm hk
    ·simp[e]
theorem Q8w{k:K}{v:V}{b:Nat}:∀ {D:List (K × V × Nat)} {i:Nat},find3 k D i=none->∀ k',find3 k' (D++[(k,v,b)]) i=if k'=k then some (i+D.length,v,b) else find3 k' D i
 |[],i,_,k'=>by simp[find3]
 |(k0,v1,b1)::D,i,h,k'=>by
   simp only[find3] at h
   by_cases hk:k=k0
   ·simp[hk] at h
   ·simp only[hk,if_false] at h
    simp only[Yk,find3,Q8w h,Yg]
    by_cases e:k'=k0
    ·have:k'≠k:=λe'=>hk (by rw[<-e',e])
     simp[e]
     intro e';exact absurd e'.symm hk
    ·simp only[e,if_false];congr 2;simp;omega
theorem MapIs.update(M:MapIs ek ev g es c D)(hk:KeyEnc ek)(k:K)(v:V) :
  (∃ j v0 b,findE (ek k) es 0=some (some (j,ev v0,b))/\g k=some v0/\b<c/\∃ D',MapIs ek ev (upd g k v) (es.set j (ek k,ev v,b)) c D')\/
  (findE (ek k) es 0=some none/\g k=none/\∃ D',MapIs ek ev (upd g k v) (es++[(ek k,ev v,c)]) (c+1) D'):=by
 obtain⟨rfl,hf,hb,hn⟩:=M
 rw[Q9p hk]
 cases h:find3 k D 0 with
 |none=>
   refine .inr ⟨rfl,by rw[hf,h];rfl,D++[(k,v,c)],by simp,λk'=>?_,λp hp=>?_,?_⟩
   ·rw[Q8w h]
    by_cases e:k'=k
    ·simp[e,upd]
    ·simp[e,upd,hf]
   ·rcases List.mem_append.1 hp with hp|hp
    ·have:=hb p hp;omega
    ·simp at hp;subst hp;simp
   ·rw[List.map_append]
    refine List.nodup_append.2 ⟨hn,by simp,λa ha b' hb'=>?_⟩
    simp only[Yi,Yn,List.mem_singleton] at hb'
    obtain⟨p,hp,rfl⟩:=List.mem_map.1 ha
    have:=hb p hp;omega
 |some q=>
   obtain⟨j,v0,b⟩:=q
   obtain⟨-,h2,h3⟩:=Qac (v:=v) h
   simp only[Nat.sub_zero] at h2 h3
   refine .inl ⟨j,v0,b,rfl,by rw[hf,h];rfl,hb _ (List.mem_of_getElem? h2),D.set j (k,v,b),by simp[List.map_set],λk'=>?_,λp hp=>?_,?_⟩
   ·rw[h3]
    by_cases e:k'=k
    ·simp[e,upd]
    ·simp[e,upd,hf]
   ·rcases List.mem_or_eq_of_mem_set hp with hp|rfl
    ·exact hb p hp
    ·have:=hb _ (List.mem_of_getElem? h2);exact this
   ·have:(D.set j (k,v,b)).map (·.2.2)=D.map (·.2.2):=by
     rw[List.map_set]
     refine List.ext_getElem? λi=>?_
     rw[List.getElem?_set]
     by_cases e:j=i
     ·subst e
      obtain⟨hlt,hD⟩:=List.getElem?_eq_some_iff.1 h2
      simp[hlt,hD]
     ·simp[e]
    rw[this];exact hn
omit [DecidableEq K] in
theorem Qg0{y:AV}:∀ {D:List (K × V × Nat)} {j:Nat} {k:K} {v:V} {b:Nat},D[j]? = some (k,v,b)->(D.map (·.2.2)).Nodup->setBorn (b:Int) y (D.map λp=>(ek p.1,ev p.2.1,p.2.2))=some ((D.map λp=>(ek p.1,ev p.2.1,p.2.2)).set j (ek k,y,b))
 |[],j,k,v,b,h,_=>by simp at h
 |(k0,v0,b0)::D,0,k,v,b,h,_=>by
   simp at h
   obtain⟨rfl,rfl,rfl⟩:=h
   simp[setBorn]
 |(k0,v0,b0)::D,j+1,k,v,b,h,hn=>by
   simp only[List.getElem?_cons_succ] at h
   simp only[Yi,List.nodup_cons] at hn
   have hne:b0≠b:=λe=>hn.1 (List.mem_map.2 ⟨_,List.mem_of_getElem? h,e.symm⟩)
   have hb:((b0:Int) == (b:Int))=false:=by simp;omega
   simp only[Yi,setBorn,hb,cond_false,Qg0 h hn.2,List.set_cons_succ]
theorem Q4w(M:MapIs ek ev g es c D)(hk:KeyEnc ek){kt et:TI}(k:K)(hkt:isKey kt (ek k)=true){s:St}{loc:Nat}(hl:s.locs[loc]? = some (.map es c)){z:AV}(hz:et.zeroV=some z)(ok:Bool) :
  lookupS kt et s (.val (.mp loc)) (.val (ek k)) ok=some (.val (match g k with|some v=>(bif ok then .tup [ev v,.bool true] else ev v)|none=>(bif ok then .tup [z,.bool false] else z))):=by
 obtain⟨rfl,hf,hb,hn⟩:=M
 simp only[lookupS,Q1l,hkt,if_true,hl,Q9p hk,hf]
 cases h:find3 k D 0 with
 |none=>simp[hz]
 |some q=>simp
theorem Q7x(M:MapIs ek ev g es c D)(hk:KeyEnc ek){kt et:TI}(k:K)(hkt:isKey kt (ek k)=true){s:St}{loc:Nat}(hl:s.locs[loc]? = some (.map es c)){x:Slot}{v:V}(hx:x.av=some (ev v))(hs:(ev v).cells.length=et.size) :
  ∃ es' c' D',updateS kt et s (.val (.mp loc)) (.val (ek k)) x=some (.no,{ s with locs:=s.locs.set loc (.map es' c') })/\MapIs ek ev (upd g k v) es' c' D':=by
 rcases M.update hk k v with ⟨j,v0,b,h1,h2,h3,D',h4⟩|⟨h1,h2,D',h4⟩
 ·exact⟨_,_,D',by simp only[updateS,Q1l,hx,hkt,hs,and_self,if_true,hl,h1],h4⟩
 ·exact⟨_,_,D',by simp only[updateS,Q1l,hx,hkt,hs,and_self,if_true,hl,h1],h4⟩
end
end Go.Am
namespace Go.Am
open Go
abbrev Str:=List UInt8
inductive Ty where
 |mk (kind n:Int) (name:Str) (args:List Ty) (nl:Bool)
 deriving Inhabited
namespace Ty
def kind:Ty->Int|mk k _ _ _ _=>k
def n:Ty->Int|mk _ n _ _ _=>n
def name:Ty->Str|mk _ _ s _ _=>s
def args:Ty->List Ty|mk _ _ _ l _=>l
def nl:Ty->Bool|mk _ _ _ _ b=>b
mutual
def cells:Ty->List AV
 |mk k n s l b=>[.int .i64 k,.int .i64 n,.str s,encS b (encs l)]
def encs:List Ty->List AV
 |[]=>[]
 |t::l=>.agg t.cells::encs l
end
abbrev enc(t:Ty):AV:=.agg t.cells
theorem encs_map:∀ l:List Ty,encs l=l.map enc
 |[]=>rfl
 |t::l=>by rw[encs,encs_map l];rfl
theorem cells_eq(t:Ty):t.cells=[.int .i64 t.kind,.int .i64 t.n,.str t.name,encS t.nl (t.args.map enc)]:=by
 cases t;rw[cells,encs_map];rfl
@[go_sem] theorem cells_mk(k n:Int)(s:Str)(l:List Ty)(b:Bool):(mk k n s l b).cells=[.int .i64 k,.int .i64 n,.str s,encS b (l.map enc)]:=cells_eq _
@[go_sem] theorem cells_len(t:Ty):t.cells.length=4:=by rw[cells_eq];rfl
mutual
def size:Ty->Nat
 |mk _ _ _ l _=>sizes l+1
def sizes:List Ty->Nat
 |[]=>0
 |t::l=>t.size+sizes l
end
def zero:Ty:=mk 0 0 [] [] true
end Ty
inductive Pat where
 |mk (kind at_:Int) (name:Str) (n:Int) (kids:List Pat) (kb:Bool)
 deriving Inhabited
namespace Pat
def kind:Pat->Int|mk k _ _ _ _ _=>k
def at_:Pat->Int|mk _ a _ _ _ _=>a
def name:Pat->Str|mk _ _ s _ _ _=>s
def n:Pat->Int|mk _ _ _ n _ _=>n
def kids:Pat->List Pat|mk _ _ _ _ l _=>l
def kb:Pat->Bool|mk _ _ _ _ _ b=>b
mutual
def cells:Pat->List AV
 |mk k a s n l b=>[.int .i64 k,.int .i64 a,.str s,.int .i64 n,encS b (encs l)]
def encs:List Pat->List AV
 |[]=>[]
 |t::l=>.agg t.cells::encs l
end
abbrev enc(t:Pat):AV:=.agg t.cells
theorem encs_map:∀ l:List Pat,encs l=l.map enc
 |[]=>rfl
 |t::l=>by rw[encs,encs_map l];rfl
theorem cells_eq(t:Pat):t.cells=[.int .i64 t.kind,.int .i64 t.at_,.str t.name,.int .i64 t.n,encS t.kb (t.kids.map enc)]:=by
 cases t;rw[cells,encs_map];rfl
@[go_sem] theorem cells_mk(k a:Int)(s:Str)(n:Int)(l:List Pat)(b:Bool):(mk k a s n l b).cells=[.int .i64 k,.int .i64 a,.str s,.int .i64 n,encS b (l.map enc)]:=cells_eq _
@[go_sem] theorem cells_len(t:Pat):t.cells.length=5:=by rw[cells_eq];rfl
mutual
def size:Pat->Nat
 |mk _ _ _ _ l _=>sizes l+1
def sizes:List Pat->Nat
 |[]=>0
 |t::l=>t.size+sizes l
end
def zero:Pat:=mk 0 0 [] 0 [] true
end Pat
structure Con where
 name:Str
 at_:Int
 has:Bool
 arg:Ty
 deriving Inhabited
namespace Con
def cells(c:Con):List AV:=.str c.name :: .int .i64 c.at_ :: .bool c.has::c.arg.cells
abbrev enc(c:Con):AV:=.agg c.cells
@[go_sem] theorem cells_len(c:Con):c.cells.length=7:=by simp[go_sem,cells]
def size(c:Con):Nat:=c.arg.size+1
def sizes:List Con->Nat
 |[]=>0
 |c::l=>c.size+sizes l
def zero:Con:=⟨[],0,false,.zero⟩
end Con
mutual
inductive Exp where
 |mk (kind at_:Int) (name:Str) (n:Int) (kids:List Exp) (kb:Bool) (cases:List Case) (cb:Bool) (decs:List Dec) (db:Bool)
inductive Case where
 |mk (pat:Pat) (exp:Exp)
inductive Dec where
 |mk (kind at_:Int) (name:Str) (params:Int) (cons:List Con) (nb:Bool) (case:List Case) (cb:Bool) (funs:List Fun) (fb:Bool)
inductive Fun where
 |mk (name:Str) (at_:Int) (case:Case)
end
namespace Exp
def kind:Exp->Int|mk k _ _ _ _ _ _ _ _ _=>k
def at_:Exp->Int|mk _ a _ _ _ _ _ _ _ _=>a
def name:Exp->Str|mk _ _ s _ _ _ _ _ _ _=>s
def n:Exp->Int|mk _ _ _ n _ _ _ _ _ _=>n
def kids:Exp->List Exp|mk _ _ _ _ l _ _ _ _ _=>l
def kb:Exp->Bool|mk _ _ _ _ _ b _ _ _ _=>b
def cases:Exp->List Case|mk _ _ _ _ _ _ c _ _ _=>c
def cb:Exp->Bool|mk _ _ _ _ _ _ _ b _ _=>b
def decs:Exp->List Dec|mk _ _ _ _ _ _ _ _ d _=>d
def db:Exp->Bool|mk _ _ _ _ _ _ _ _ _ b=>b
end Exp
namespace Case
def pat:Case->Pat|mk p _=>p
def exp:Case->Exp|mk _ e=>e
end Case
namespace Dec
def kind:Dec->Int|mk k _ _ _ _ _ _ _ _ _=>k
def at_:Dec->Int|mk _ a _ _ _ _ _ _ _ _=>a
def name:Dec->Str|mk _ _ s _ _ _ _ _ _ _=>s
def params:Dec->Int|mk _ _ _ p _ _ _ _ _ _=>p
def cons:Dec->List Con|mk _ _ _ _ l _ _ _ _ _=>l
def nb:Dec->Bool|mk _ _ _ _ _ b _ _ _ _=>b
def case:Dec->List Case|mk _ _ _ _ _ _ c _ _ _=>c
def cb:Dec->Bool|mk _ _ _ _ _ _ _ b _ _=>b
def funs:Dec->List Fun|mk _ _ _ _ _ _ _ _ f _=>f
def fb:Dec->Bool|mk _ _ _ _ _ _ _ _ _ b=>b
end Dec
namespace Fun
def name:Fun->Str|mk s _ _=>s
def at_:Fun->Int|mk _ a _=>a
def case:Fun->Case|mk _ _ c=>c
end Fun
mutual
def Exp.cells:Exp->List AV
 |.mk k a s n l kb c cb d db=>[.int .i64 k,.int .i64 a,.str s,.int .i64 n,encS kb (Exp.encs l),encS cb (Case.encs c),encS db (Dec.encs d)]
def Exp.encs:List Exp->List AV
 |[]=>[]
 |t::l=>.agg t.cells::Exp.encs l
def Case.cells:Case->List AV
 |.mk p e=>p.cells++e.cells
def Case.encs:List Case->List AV
 |[]=>[]
 |t::l=>.agg t.cells::Case.encs l
def Dec.cells:Dec->List AV
 |.mk k a s p l nb c cb f fb=>[.int .i64 k,.int .i64 a,.str s,.int .i64 p,encS nb (l.map Con.enc),encS cb (Case.encs c),encS fb (Fun.encs f)]
def Dec.encs:List Dec->List AV
 |[]=>[]
 |t::l=>.agg t.cells::Dec.encs l
def Fun.cells:Fun->List AV
 |.mk s a c=>.str s :: .int .i64 a::c.cells
def Fun.encs:List Fun->List AV
 |[]=>[]
 |t::l=>.agg t.cells::Fun.encs l
end
abbrev Exp.enc(t:Exp):AV:=.agg t.cells
abbrev Case.enc(t:Case):AV:=.agg t.cells
abbrev Dec.enc(t:Dec):AV:=.agg t.cells
abbrev Fun.enc(t:Fun):AV:=.agg t.cells
theorem Exp.encs_map:∀ l:List Exp,Exp.encs l=l.map Exp.enc
 |[]=>by rw[Exp.encs];rfl
 |t::l=>by rw[Exp.encs,Exp.encs_map l];rfl
theorem Case.encs_map:∀ l:List Case,Case.encs l=l.map Case.enc
 |[]=>by rw[Case.encs];rfl
 |t::l=>by rw[Case.encs,Case.encs_map l];rfl
theorem Dec.encs_map:∀ l:List Dec,Dec.encs l=l.map Dec.enc
 |[]=>by rw[Dec.encs];rfl
 |t::l=>by rw[Dec.encs,Dec.encs_map l];rfl
theorem Fun.encs_map:∀ l:List Fun,Fun.encs l=l.map Fun.enc
 |[]=>by rw[Fun.encs];rfl
 |t::l=>by rw[Fun.encs,Fun.encs_map l];rfl
@[go_sem] theorem Exp.cells_mk(k a:Int)(s:Str)(n:Int)(l:List Exp)(kb:Bool)(c:List Case)(cb:Bool)(d:List Dec)(db:Bool):(Exp.mk k a s n l kb c cb d db).cells=[.int .i64 k,.int .i64 a,.str s,.int .i64 n,encS kb (l.map Exp.enc),encS cb (c.map Case.enc),encS db (d.map Dec.enc)]:=by
  rw[Exp.cells,Exp.encs_map,Case.encs_map,Dec.encs_map]
@[go_sem] theorem Case.cells_mk(p:Pat)(e:Exp):(Case.mk p e).cells=p.cells++e.cells:=by rw[Case.cells]
@[go_sem] theorem Dec.cells_mk(k a:Int)(s:Str)(p:Int)(l:List Con)(nb:Bool)(c:List Case)(cb:Bool)(f:List Fun)(fb:Bool):(Dec.mk k a s p l nb c cb f fb).cells=[.int .i64 k,.int .i64 a,.str s,.int .i64 p,encS nb (l.map Con.enc),encS cb (c.map Case.enc),encS fb (f.map Fun.enc)]:=by
  rw[Dec.cells,Case.encs_map,Fun.encs_map]
@[go_sem] theorem Fun.cells_mk(s:Str)(a:Int)(c:Case):(Fun.mk s a c).cells = .str s :: .int .i64 a::c.cells:=by rw[Fun.cells]
theorem Exp.cells_eq(t:Exp):t.cells=[.int .i64 t.kind,.int .i64 t.at_,.str t.name,.int .i64 t.n,encS t.kb (t.kids.map Exp.enc),encS t.cb (t.cases.map Case.enc),encS t.db (t.decs.map Dec.enc)]:=by
 cases t;rw[Exp.cells_mk];rfl
theorem Dec.cells_eq(t:Dec):t.cells=[.int .i64 t.kind,.int .i64 t.at_,.str t.name,.int .i64 t.params,encS t.nb (t.cons.map Con.enc),encS t.cb (t.case.map Case.enc),encS t.fb (t.funs.map Fun.enc)]:=by
 cases t;rw[Dec.cells_mk];rfl
theorem Case.cells_eq(t:Case):t.cells=t.pat.cells++t.exp.cells:=by cases t;rw[Case.cells_mk];rfl
theorem Fun.cells_eq(t:Fun):t.cells = .str t.name :: .int .i64 t.at_::t.case.cells:=by cases t;rw[Fun.cells_mk];rfl
@[go_sem] theorem Exp.cells_len(t:Exp):t.cells.length=7:=by rw[Exp.cells_eq];rfl
@[go_sem] theorem Dec.cells_len(t:Dec):t.cells.length=7:=by rw[Dec.cells_eq];rfl
@[go_sem] theorem Case.cells_len(t:Case):t.cells.length=12:=by rw[Case.cells_eq];simp[go_sem]
@[go_sem] theorem Fun.cells_len(t:Fun):t.cells.length=14:=by rw[Fun.cells_eq];simp[go_sem]
def Exp.zero:Exp:=.mk 0 0 [] 0 [] true [] true [] true
def Case.zero:Case:=.mk .zero .zero
def Dec.zero:Dec:=.mk 0 0 [] 0 [] true [] true [] true
def Fun.zero:Fun:=.mk [] 0 .zero
theorem Ty.len_sizes:∀ l:List Ty,l.length<=Ty.sizes l
 |[]=>Yd _
 |.mk _ _ _ _ _::l=>by have:=Ty.len_sizes l;simp only[Ty.sizes,Ty.size,Yg];omega
theorem Pat.len_sizes:∀ l:List Pat,l.length<=Pat.sizes l
 |[]=>Yd _
 |.mk _ _ _ _ _ _::l=>by have:=Pat.len_sizes l;simp only[Pat.sizes,Pat.size,Yg];omega
theorem Ty.mem_sizes:∀ {l:List Ty} {t:Ty},t ∈ l->t.size<=Ty.sizes l
 |x::l,t,h=>by
   simp only[Ty.sizes]
   rcases List.mem_cons.1 h with rfl|h
   ·omega
   ·have:=Ty.mem_sizes h;omega
theorem Pat.mem_sizes:∀ {l:List Pat} {t:Pat},t ∈ l->t.size<=Pat.sizes l
 |x::l,t,h=>by
   simp only[Pat.sizes]
   rcases List.mem_cons.1 h with rfl|h
   ·omega
   ·have:=Pat.mem_sizes h;omega
end Go.Am