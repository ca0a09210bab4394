/- A part of the proof: A27, A29, A30, A31, A15, A16, A17, A18, A19, A20, A21, A22, A23. -/
import Derived.Test.YtobelgghegmhhaaGreatDoorM1
import Derived.Lib.AppendStr
import Derived.OrdersIn
import Derived.LoopNIn
import Derived.RangeFuncRecord
import Derived.RangeFuncIn
import Derived.RangeFuncLeaves
import Derived.ReadAgain
import Derived.ChangeSame
import Derived.RowKit3
set_option linter.unusedVariables false
set_option linter.unusedSimpArgs false
open Array renaming getD_eq_getD_getElem?→Yl
open Bool renaming and_eq_true→Ya
open List renaming mem_cons_of_mem→Yb,mem_cons_self→Yc,length_append→Ye,length_cons→Yg,length_map→Yh,map_cons→Yi,cons_append→Yk,mem_append_left→Ym,map_nil→Yn,nil_append→Yo,length_nil→Yp,mem_append_right→Yq,append_assoc→Yr
open Nat renaming le_refl→Yd,eq_of_beq_eq_true→Yf
namespace Go.Am
open Go Go.RowKit
section
variable {P:Program} {C:Cfg} {κ κ' κ0:Kn} {B B' N:Nat} {s s':St} {w w' w0:World} {e:Env} {a:Act} {β:Nat->Option Nat} {δ:List Nat}
theorem QcU(hT:∀ t,TyOK P C t){t:TypeId}{z:AV}(h:(C.ti t).zeroV=some z)(w:World):∃ u,(zeroValue t).run P w = .ok u w/\VR κ z u:=by
 unfold TI.zeroV at h
 cases hg:(C.ti t).isGood with
 |false=>rw[hg] at h;cases h
 |true=>
   rw[hg] at h
   simp only[cond_true] at h
   have hb:(C.ti t).k≠.bad:=λhk=>by simp[TI.isGood,hk] at hg
   obtain⟨i,u,h1,h2,h3,h4,h5,h6,h7,h8,h9⟩:=(hT t).info hb
   have hrun:(zeroValue t).run P w = .ok u w:=by simp[zeroValue,typeInfo,h1,h4]
   refine⟨u,hrun,?_⟩
   have hvl:=h6 κ
   unfold ofCells at h
   cases hag:(C.ti t).isAgg with
   |true=>
     rw[hag] at h
     simp only[cond_true] at h
     split at h
     ·cases h
      obtain⟨cs,rfl⟩:=h8 hag
      simp only[VR]
      exact⟨cs.toList,hvl,h7,by simp⟩
     ·cases h
   |false=>
     rw[hag] at h
     simp only[cond_false] at h
     split at h
     ·rename_i x hx
      cases h
      rw[hx] at hvl
      simp only[VRl] at hvl
      obtain⟨v,us,he,hv,rfl⟩:=hvl
      have:u.cells = #[u]:=by
       have:=(h9 hag).1
       cases u<;>first|rfl|simp[Value.oneCell'] at this
      rw[this] at he
      simp at he
      rw[he];exact hv
     ·cases h
theorem Q5g(hT:∀ t,TyOK P C t){t:TypeId}{k:AV}(h:isKey (C.ti t) k=true){v:Value}(hv:VR κ k v):∃ d,P.underlying t=some d/\MapKept.IsKey d v/\(∀ x y u,k.keyEq x=some y->VR κ x u->∃ r,Instr.sameNow d v u=some r/\r=y/\(r=true->u=v)):=by
 have hK:=(hT t).kind
 unfold isKey at h
 cases hk:(C.ti t).k<;>rw[hk] at h hK<;>cases k<;>simp[TK.has] at h<;>simp only[KOk] at hK<;>simp only[VR] at hv
 ·subst hv
  refine⟨_,hK,trivial,λx y u hx hu=>?_⟩
  cases x<;>simp[AV.keyEq] at hx
  subst hx
  simp only[VR] at hu
  subst hu
  exact⟨_,rfl,rfl,λe=>by have e:=LawfulBEq.eq_of_beq e;rw[e]⟩
 ·subst h;subst hv
  refine⟨_,hK,rfl,λx y u hx hu=>?_⟩
  cases x<;>simp[AV.keyEq] at hx
  obtain⟨rfl,rfl⟩:=hx
  simp only[VR] at hu
  subst hu
  exact⟨_,by simp[Instr.sameNow],rfl,λe=>by simp at e;rw[e]⟩
 ·obtain⟨bs,hb,rfl⟩:=hv
  refine⟨_,hK,trivial,λx y u hx hu=>?_⟩
  cases x<;>simp[AV.keyEq] at hx
  simp only[VR] at hu
  obtain⟨cs,hc,rfl⟩:=hu
  refine⟨_,rfl,?_,λe=>?_⟩
  ·rw[<-hx,<-hb,<-hc]
   by_cases hbc:bs=cs
   ·subst hbc;rw[(MapKept.bytes_beq bs bs).2 rfl];simp
   ·have h1:(bs == cs)=false:=by
     cases hq:(bs == cs) with
     |false=>rfl
     |true=>exact absurd ((MapKept.bytes_beq _ _).1 hq) hbc
    have h2:bs.data.toList≠cs.data.toList:=λe=>hbc (by cases bs;cases cs;simp only at e;rw[Array.toList_inj.1 e])
    rw[h1]
    symm
    simpa using h2
  ·rw[(MapKept.bytes_beq _ _).1 e]
theorem Q0a{key:AV}{v:Value}{d:TypeDesc}(hk:∀ x y u,key.keyEq x=some y->VR κ x u->∃ r,Instr.sameNow d v u=some r/\r=y/\(r=true->u=v)):∀ {es:List (AV × AV × Nat)} {mes:List MapEntry} {i:Nat} {r:Option (Nat × AV × Nat)},MR κ es mes->findE key es i=some r->
  match r with
  |none=>Instr.findNow d v mes i=some none
  |some (j,y,b)=>∃ n m,j=i+n/\mes[n]? = some m/\m.key=v/\m.born=b/\VR κ y m.val/\Instr.findNow d v mes i=some (some (j,m.val))/\∃ k0,es[n]? = some (k0,y,b)/\VR κ k0 m.key
 |[],mes,i,r,hm,h=>by
   simp only[MR] at hm
   subst hm
   simp only[findE] at h
   cases h
   rfl
 |(k,y,b)::es,mes,i,r,hm,h=>by
   obtain⟨m,ms,rfl,h1,h2,h3,h4⟩:=hm
   simp only[findE] at h
   split at h
   ·rename_i hkk
    cases h
    obtain⟨q,hq,rfl,hv⟩:=hk _ _ _ hkk h1
    exact⟨0,m,rfl,rfl,hv rfl,h3,h2,by simp[Instr.findNow,hq],k,rfl,h1⟩
   ·rename_i hkk
    obtain⟨q,hq,hqf,_⟩:=hk _ _ _ hkk h1
    subst hqf
    have ih:=Q0a hk h4 h
    have hf:Instr.findNow d v (m::ms) i=Instr.findNow d v ms (i+1):=by simp[Instr.findNow,hq]
    rw[hf]
    match r,ih with
    |none,ih=>exact ih
    |some (j,y',b'),⟨n,m',e1,e2,e3,e4,e5,e6,k0,e7,e8⟩=>exact⟨n+1,m',by omega,by simpa using e2,e3,e4,e5,e6,k0,by simpa using e7,e8⟩
   ·cases h
theorem QeE(hT:∀ t,TyOK P C t)(hI:Inv C κ B s w){t kt et:TypeId}(hk:(C.ti t).k = .map kt et){sx si sl:Slot}{x i:Value}(hx:SR κ sx x)(hi:SR κ si i){ok:Bool}(h:lookupS (C.ti kt) (C.ti et) s sx si ok=some sl) :
  ∃ z,(Instr.lookup t x i ok).run P w = .ok z w/\SR κ sl z:=by
 have hK:=(hT t).kind
 rw[hk] at hK;simp only[KOk] at hK
 unfold lookupS at h
 split at h
 ·rename_i key hkey
  have hkv:=hi.av hkey
  split at h
  ·rename_i hik
   obtain⟨d,hd,hid,hkk⟩:=Q5g hT hik hkv
   split at h
   ·rename_i es hes
    have ⟨mes,hm,hrun⟩:∃ mes:Array MapEntry,MR κ es mes.toList/\∀ {β} (f:Array MapEntry->Sem β),((do
      let es <-match x with
       |.map none=>pure #[]
       |.map (some r)=>do
         let .map es _ ← getObj r | stuck "Lookup: map expected"
         pure es
       | _ => stuck "Lookup: map expected"
      f es):Sem β).run P w=(f mes).run P w:=by
     split at hes
     ·cases hes
      simp only[SR,VR] at hx
      subst hx
      exact⟨#[],rfl,λf=>by simp⟩
     ·rename_i loc
      simp only[SR,VR] at hx
      obtain⟨b,hb,rfl⟩:=hx
      split at hes
      ·rename_i es' c hl
       cases hes
       obtain⟨b',o,h1,h2,h3,mes,rfl,h5⟩:=hI.locs loc _ hl
       rw[hb] at h1
       cases h1
       exact⟨mes,h5,λf=>by simp[MapKept.run_getObj_map h3]⟩
      ·cases hes
     ·cases hes
    have hlk:∀ r:Option (Nat × Value),Instr.findNow d i mes.toList 0=some r->(Instr.lookup t x i ok).run P w=((do
      let (v,ok') <-match r with
       |some (_,v)=>pure (v,true)
       |none=>pure (<-zeroValue et,false)
      pure (if ok then .tuple #[v,.bool ok'] else v)):Sem Value).run P w:=λr hr=>by
     unfold Instr.lookup
     simp only[Sem.run_bind,run_underlying hK,Result.andThen_ok]
     have:=hrun (λes=>do
      Instr.checkKey es.isEmpty 10000 kt i
      let (v,ok') <-match <-Instr.findKey kt i es.toList with
       |some (_,v)=>pure (v,true)
       |none=>pure (<-zeroValue et,false)
      pure (if ok then .tuple #[v,.bool ok'] else v))
     simp only[Sem.run_bind,MapKept.run_checkKey hd hid,Result.andThen_ok,MapKept.run_findKey hd hr] at this
     refine Eq.trans ?_ this
     rfl
    have fin:∀ (v:AV) (z:Value) (b:Bool),VR κ v z->SR κ (.val (bif ok then .tup [v,.bool b] else v)) (if ok then .tuple #[z,.bool b] else z):=λv z b hv=>by
     cases ok with
     |false=>exact hv
     |true=>
       simp only[SR,VR,VRl,cond_true,if_true]
       exact⟨[z,.bool b],⟨z,_,rfl,hv,_,_,rfl,rfl,rfl⟩,rfl⟩
    split at h
    ·rename_i j v b hf
     cases h
     obtain⟨n,m,_,_,_,_,hv,hfn,_⟩:=Q0a hkk hm hf
     refine⟨_,?_,fin v m.val true hv⟩
     rw[hlk _ hfn]
     simp
    ·rename_i hf
     have hfn:=Q0a hkk hm hf
     simp only at hfn
     split at h
     ·rename_i z hz
      cases h
      obtain⟨u,hu,hvr⟩:=QcU (κ:=κ) hT hz w
      refine⟨_,?_,fin z u false hvr⟩
      rw[hlk _ hfn]
      simp[hu]
     ·cases h
    ·cases h
   ·cases h
  ·cases h
 ·cases h
theorem QgZ(hT:∀ t,TyOK P C t)(hI:Inv C κ B s w){t ty:TypeId}(hk:isMap (C.ti t)=true){sx sl:Slot}{x:Value}(hx:SR κ sx x)(h:lenM s sx=some sl):∃ z,(Builtin.len_ #[t] ty #[x]).run P w = .ok z w/\SR κ sl z:=by
 unfold isMap at hk
 split at hk
 ·rename_i kt et hkt
  have hK:=(hT t).kind
  rw[hkt] at hK;simp only[KOk] at hK
  unfold lenM at h
  split at h
  ·cases h
   simp only[SR,VR] at hx
   subst hx
   exact⟨goInt 0,by simp[Builtin.len_,run_underlying hK],by simp only[SR,VR];rfl⟩
  ·rename_i loc
   split at h
   ·rename_i es c hl
    cases h
    simp only[SR,VR] at hx
    obtain⟨b,hb,rfl⟩:=hx
    obtain⟨b',o,h1,h2,h3,mes,rfl,h5⟩:=hI.locs loc _ hl
    rw[hb] at h1
    cases h1
    have hlen:es.length=mes.size:=by
     have:∀ {l:List (AV × AV × Nat)} {m:List MapEntry},MR κ l m->l.length=m.length:=λ{l}=>by
      induction l with
      |nil=>intro m hm;simp only[MR] at hm;subst hm;rfl
      |cons p l ih=>
        intro m hm
        obtain⟨k,v,b⟩:=p
        obtain⟨x,xs,rfl,_,_,_,h⟩:=hm
        simp[ih h]
     simpa using this h5
    exact⟨goInt mes.size,by simp[Builtin.len_,run_underlying hK,MapKept.run_getObj_map h3],by simp only[SR,VR,hlen];rfl⟩
   ·cases h
  ·cases h
 ·cases hk
theorem MR.set{key y:AV}{k' v':Value}{b:Nat}:∀ {es:List (AV × AV × Nat)} {mes:List MapEntry} {n:Nat} {m:MapEntry},MR κ es mes->mes[n]? = some m->m.born=b->VR κ key k'->VR κ y v'->MR κ (es.set n (key,y,b)) (mes.set n { key:=k',val:=v',born:=b })
 |[],_,n,m,h,hm,_,_,_=>by simp only[MR] at h;subst h;simp at hm
 |(k,v,c)::es,_,0,m,⟨x,xs,h1,h2,h3,h4,h5⟩,hm,hb,hk,hy=>by
   subst h1
   exact⟨_,xs,rfl,hk,hy,rfl,h5⟩
 |(k,v,c)::es,_,n+1,m,⟨x,xs,h1,h2,h3,h4,h5⟩,hm,hb,hk,hy=>by
   subst h1
   exact⟨x,_,rfl,h2,h3,h4,MR.set h5 (by simpa using hm) hb hk hy⟩
theorem MR.push{key y:AV}{k' v':Value}{b:Nat}(hk:VR κ key k')(hy:VR κ y v'):∀ {es:List (AV × AV × Nat)} {mes:List MapEntry},MR κ es mes->MR κ (es++[(key,y,b)]) (mes++[{ key:=k',val:=v',born:=b }])
 |[],_,h=>by simp only[MR] at h;subst h;exact⟨_,[],rfl,hk,hy,rfl,rfl⟩
 |(k,v,c)::es,_,⟨x,xs,h1,h2,h3,h4,h5⟩=>by
   subst h1
   exact⟨x,_,rfl,h2,h3,h4,MR.push hk hy h5⟩
theorem MR.erase:∀ {es:List (AV × AV × Nat)} {mes:List MapEntry} (n:Nat),MR κ es mes->MR κ (es.eraseIdx n) (mes.eraseIdx n)
 |[],_,n,h=>by simp only[MR] at h;subst h;simp[MR]
 |(k,v,c)::es,_,0,⟨x,xs,h1,h2,h3,h4,h5⟩=>by subst h1;simpa using h5
 |(k,v,c)::es,_,n+1,⟨x,xs,h1,h2,h3,h4,h5⟩=>by
   subst h1
   exact⟨x,_,rfl,h2,h3,h4,MR.erase n h5⟩
theorem QcB{b:Nat}{o o':Go.Obj}(hb:w.heap[b]? = some o):w.grownBy { w with heap:=w.heap.setIfInBounds b o' } (some b):=
 ⟨rfl,rfl,rfl,by simp,λi hi hne=>by
   have:i≠b:=λe=>hne (by rw[e])
   simp[Array.getElem?_setIfInBounds,Ne.symm this]⟩
theorem setMap(hI:Inv C κ B s w){loc b:Nat}(hl:κ.loc loc=some b)(gl:κ.gone loc=false){es es':List (AV × AV × Nat)}{c c':Nat}{mes mes':Array MapEntry}(hb:w.heap[b]? = some (.map mes c))(hm:MR κ es' mes'.toList) :
  Inv C κ B { s with locs:=s.locs.set loc (.map es' c') } { w with heap:=w.heap.setIfInBounds b (.map mes' c') }/\Mv κ κ w { w with heap:=w.heap.setIfInBounds b (.map mes' c') }:=
 hI.setLoc hl gl (x:=.map es' c') (o:=.map mes' c') ⟨mes',rfl,hm⟩ (MapKept.heap_set hb).1 (QcB hb) (λcs t z e=>by rw[hb] at e;cases e)
theorem Q5l{mes:Array MapEntry}{n:Nat}{m:MapEntry}(h:mes[n]? = some m)(f:MapEntry->MapEntry):(mes.modify n f).toList=mes.toList.set n (f m):=by
 apply List.ext_getElem?
 intro j
 simp only[Array.getElem?_toList,Array.getElem?_modify,List.getElem?_set]
 by_cases hj:n=j
 ·subst hj
  have hlt:n<mes.toList.length:=by simpa using (Array.getElem?_eq_some_iff.1 h).1
  simp[h,hlt]
  simpa using hlt
 ·simp[hj]
theorem Q9c(hT:∀ t,TyOK P C t)(hI:Inv C κ B s w){t kt et:TypeId}(hk:(C.ti t).k = .map kt et){sx si sv sl:Slot}{x i v:Value}(hx:SR κ sx x)(hi:SR κ si i)(hv:SR κ sv v)(h:updateS (C.ti kt) (C.ti et) s sx si sv=some (sl,s')) :
  sl = .no/\∃ w',(Instr.mapUpdate t x i v).run P w = .ok () w'/\Mv κ κ w w'/\Inv C κ B s' w':=by
 have hK:=(hT t).kind
 rw[hk] at hK;simp only[KOk] at hK
 unfold updateS at h
 split at h
 ·rename_i loc key y hkey hy
  have hkv:=hi.av hkey
  have hyv:=hv.av hy
  split at h
  ·rename_i hik
   obtain⟨d,hd,hid,hkk⟩:=Q5g hT hik.1 hkv
   simp only[SR,VR] at hx
   obtain⟨b,hb,rfl⟩:=hx
   split at h
   ·rename_i es c hl
    obtain⟨b',o,h1,h2,h3,mes,rfl,h5⟩:=hI.locs loc _ hl
    rw[hb] at h1
    cases h1
    split at h
    ·rename_i j y' bb hf
     cases h
     obtain⟨n,m,hj,hm,hkm,hbm,_,hfn,k0,_⟩:=Q0a hkk h5 hf
     simp only[Nat.zero_add] at hj
     subst hj
     have hj':mes[j]? = some m:=by simpa using hm
     obtain⟨r1,r2⟩:=setMap (c':=c) (es:=es) hI hb (hI.lv loc _ hl (by simp)) h3 (mes':=mes.modify j λe=>{ e with key:=i,val:=v }) (es':=es.set j (key,y,bb)) (by
      rw[Q5l hj']
      have:=h5.set (n:=j) hm hbm hkv hyv
      rw[<-hbm] at this |-
      exact this)
     refine⟨rfl,_,?_,r2,r1⟩
     simp[Instr.mapUpdate,run_underlying hK,MapKept.run_getObj_map h3,MapKept.run_checkKey hd hid,MapKept.run_findKey hd hfn,hj',hkm,MapKept.run_keyThatStays hid,MapKept.run_setObj_map _ h3]
    ·rename_i hf
     cases h
     have hfn:=Q0a hkk h5 hf
     simp only at hfn
     obtain⟨r1,r2⟩:=setMap (c':=c+1) (es:=es) hI hb (hI.lv loc _ hl (by simp)) h3 (mes':=mes.push { key:=i,val:=v,born:=c }) (es':=es++[(key,y,c)]) (by
      simpa using h5.push hkv hyv)
     refine⟨rfl,_,?_,r2,r1⟩
     simp[Instr.mapUpdate,run_underlying hK,MapKept.run_getObj_map h3,MapKept.run_checkKey hd hid,MapKept.run_findKey hd hfn,MapKept.run_setObj_map _ h3]
    ·cases h
   ·cases h
  ·cases h
 ·cases h
theorem Qfo(hT:∀ t,TyOK P C t)(hI:Inv C κ B s w){t kt et:TypeId}(hk:(C.ti t).k = .map kt et){sx si sl:Slot}{x i:Value}(hx:SR κ sx x)(hi:SR κ si i)(h:entryS (C.ti kt) (C.ti et) s sx si=some (sl,s')) :
  ∃ z w',(Instr.mapEntry t x i).run P w = .ok z w'/\Mv κ κ w w'/\Inv C κ B s' w'/\SR κ sl z:=by
 have hK:=(hT t).kind
 rw[hk] at hK;simp only[KOk] at hK
 have fin:∀ (v:AV) (z:Value) (b:Nat),VR κ v z->SR κ (.val (.tup [v,.int .i64 b])) (.tuple #[z,goInt b]):=λv z b hv=>by
  simp only[SR,VR,VRl]
  exact⟨[z,goInt b],⟨z,_,rfl,hv,_,_,rfl,rfl,rfl⟩,rfl⟩
 unfold entryS at h
 split at h
 ·rename_i loc key hkey
  have hkv:=hi.av hkey
  split at h
  ·rename_i hik
   obtain⟨d,hd,hid,hkk⟩:=Q5g hT hik hkv
   simp only[SR,VR] at hx
   obtain⟨b,hb,rfl⟩:=hx
   split at h
   ·rename_i es c hl
    obtain⟨b',o,h1,h2,h3,mes,rfl,h5⟩:=hI.locs loc _ hl
    rw[hb] at h1
    cases h1
    split at h
    ·rename_i j y' bb hf
     cases h
     obtain⟨n,m,hj,hm,hkm,hbm,hyv,hfn,k0,_⟩:=Q0a hkk h5 hf
     simp only[Nat.zero_add] at hj
     subst hj
     have hj':mes[j]? = some m:=by simpa using hm
     obtain⟨r1,r2⟩:=setMap (c':=c) (es:=es) hI hb (hI.lv loc _ hl (by simp)) h3 (mes':=mes.modify j λe=>{ e with key:=i }) (es':=es.set j (key,y',bb)) (by
      rw[Q5l hj']
      have:=h5.set (n:=j) hm hbm hkv hyv
      rw[<-hbm] at this |-
      exact this)
     refine⟨_,_,?_,r2,r1,fin y' m.val bb hyv⟩
     simp[Instr.mapEntry,run_underlying hK,MapKept.run_getObj_map h3,MapKept.run_checkKey hd hid,MapKept.run_findKey hd hfn,hj',hkm,hbm,MapKept.run_keyThatStays hid,MapKept.run_setObj_map _ h3]
    ·rename_i hf
     have hfn:=Q0a hkk h5 hf
     simp only at hfn
     split at h
     ·rename_i z hz
      cases h
      obtain⟨u,hu,hvr⟩:=QcU (κ:=κ) hT hz w
      obtain⟨r1,r2⟩:=setMap (c':=c+1) (es:=es) hI hb (hI.lv loc _ hl (by simp)) h3 (mes':=mes.push { key:=i,val:=u,born:=c }) (es':=es++[(key,z,c)]) (by
       simpa using h5.push hkv hvr)
      refine⟨_,_,?_,r2,r1,fin z u c hvr⟩
      simp[Instr.mapEntry,run_underlying hK,MapKept.run_getObj_map h3,MapKept.run_checkKey hd hid,MapKept.run_findKey hd hfn,hu,MapKept.run_setObj_map _ h3]
     ·cases h
    ·cases h
   ·cases h
  ·cases h
 ·cases h
theorem Q7q{n:Int}{y:AV}{u:Value}(hy:VR κ y u):∀ {es es':List (AV × AV × Nat)} {mes:List MapEntry},MR κ es mes->setBorn n y es=some es'->∃ i m,mes.findIdx? (λe=>(e.born:Int) == n)=some i/\mes[i]? = some m/\MR κ es' (mes.set i { m with val:=u })
 |[],es',mes,_,h=>by simp[setBorn] at h
 |(k,v,b)::es,es',mes,⟨x,xs,h1,h2,h3,h4,h5⟩,h=>by
   subst h1
   simp only[setBorn] at h
   cases hb:((b:Int) == n) with
   |true=>
     rw[hb] at h
     simp only[cond_true] at h
     cases h
     refine⟨0,x,by simp[List.findIdx?_cons,h4,hb],rfl,?_⟩
     exact⟨_,xs,rfl,h2,hy,h4,h5⟩
   |false=>
     rw[hb] at h
     simp only[cond_false] at h
     split at h
     ·rename_i l hl
      cases h
      obtain⟨i,m,e1,e2,e3⟩:=Q7q hy h5 hl
      exact⟨i+1,m,by simp[List.findIdx?_cons,h4,hb,e1],by simpa using e2,x,_,rfl,h2,h3,h4,e3⟩
     ·cases h
theorem Qd8(hI:Inv C κ B s w){t:TypeId}{sx si sv sl:Slot}{x i v:Value}(hx:SR κ sx x)(hi:SR κ si i)(hv:SR κ sv v)(h:entrySt s sx si sv=some (sl,s')) :
  sl = .no/\∃ w',(Instr.entryStore t x i v).run P w = .ok () w'/\Mv κ κ w w'/\Inv C κ B s' w':=by
 unfold entrySt at h
 split at h
 ·rename_i loc k n y hy
  have hyv:=hv.av hy
  simp only[SR,VR] at hx hi
  obtain⟨b,hb,rfl⟩:=hx
  subst hi
  split at h
  ·rename_i es c hl
   obtain⟨b',o,h1,h2,h3,mes,rfl,h5⟩:=hI.locs loc _ hl
   rw[hb] at h1
   cases h1
   split at h
   ·rename_i es' hs
    cases h
    obtain⟨j,m,e1,e2,e3⟩:=Q7q hyv h5 hs
    have hj':mes[j]? = some m:=by simpa using e2
    obtain⟨r1,r2⟩:=setMap (c':=c) (es:=es) hI hb (hI.lv loc _ hl (by simp)) h3 (mes':=mes.modify j λe=>{ e with val:=v }) (es':=es') (by rw[Q5l hj'];exact e3)
    refine⟨rfl,_,?_,r2,r1⟩
    have e1':mes.findIdx? (λe=>(e.born:Int) == n)=some j:=by rw[show mes=mes.toList.toArray by simp,List.findIdx?_toArray];exact e1
    simp[Instr.entryStore,MapKept.run_getObj_map h3,asInt,asIntOf,e1',MapKept.run_setObj_map _ h3]
   ·cases h
  ·cases h
 ·cases h
theorem Qel(hT:∀ t,TyOK P C t)(hI:Inv C κ B s w){t u ty kt et:TypeId}(hk:(C.ti t).k = .map kt et){sx si sl:Slot}{x i:Value}(hx:SR κ sx x)(hi:SR κ si i)(h:deleteS (C.ti kt) s sx si=some (sl,s')) :
  ∃ z w',(Builtin.delete_ #[t,u] ty #[x,i]).run P w = .ok z w'/\Mv κ κ w w'/\Inv C κ B s' w'/\SR κ sl z:=by
 have hK:=(hT t).kind
 rw[hk] at hK;simp only[KOk] at hK
 unfold deleteS at h
 split at h
 ·rename_i loc key hkey
  have hkv:=hi.av hkey
  split at h
  ·rename_i hik
   obtain⟨d,hd,hid,hkk⟩:=Q5g hT hik hkv
   simp only[SR,VR] at hx
   obtain⟨b,hb,rfl⟩:=hx
   split at h
   ·rename_i es c hl
    obtain⟨b',o,h1,h2,h3,mes,rfl,h5⟩:=hI.locs loc _ hl
    rw[hb] at h1
    cases h1
    split at h
    ·rename_i j y' bb hf
     cases h
     obtain⟨n,m,hj,hm,hkm,hbm,hyv,hfn,k0,_⟩:=Q0a hkk h5 hf
     simp only[Nat.zero_add] at hj
     subst hj
     obtain⟨r1,r2⟩:=setMap (c':=c) (es:=es) hI hb (hI.lv loc _ hl (by simp)) h3 (mes':=mes.eraseIdxIfInBounds j) (es':=es.eraseIdx j) (by
      have:=h5.erase j
      unfold Array.eraseIdxIfInBounds
      split
      ·simpa using this
      ·rename_i hn
       have h2:mes.toList.eraseIdx j=mes.toList:=List.eraseIdx_of_length_le (by simpa using hn)
       rw[h2] at this
       exact this)
     refine⟨_,_,?_,r2,r1,by simp only[SR,VR,VRl];exact⟨[],rfl,rfl⟩⟩
     simp[Builtin.delete_,run_underlying hK,MapKept.run_getObj_map h3,MapKept.run_checkKey hd hid,MapKept.run_findKey hd hfn,MapKept.run_setObj_map _ h3]
    ·rename_i hf
     cases h
     have hfn:=Q0a hkk h5 hf
     simp only at hfn
     obtain⟨r1,r2⟩:=setMap (c':=c) (es:=es) hI hb (hI.lv loc _ hl (by simp)) h3 (mes':=mes) (es':=es) h5
     refine⟨_,_,?_,r2,r1,by simp only[SR,VR,VRl];exact⟨[],rfl,rfl⟩⟩
     simp[Builtin.delete_,run_underlying hK,MapKept.run_getObj_map h3,MapKept.run_checkKey hd hid,MapKept.run_findKey hd hfn,MapKept.run_setObj_map _ h3]
    ·cases h
   ·cases h
  ·cases h
 ·cases h
theorem QfF(hI:Inv C κ B s w)(hB:B<=w.heap.size):∀ {sl:Slot},makeM s=some (sl,s')->∃ κ',Mv κ κ' w (w.alloc (.map #[] 0))/\Inv C κ' B s' (w.alloc (.map #[] 0))/\SR κ' sl (.map (some w.heap.size)):=by
 intro sl h
 cases h
 obtain⟨h1,h2⟩:=hI.addLoc hB (x:=.map [] 0) (o:=.map #[] 0) ⟨#[],rfl,rfl⟩
 refine⟨_,h2,h1,?_⟩
 simp only[SR,VR]
 exact⟨w.heap.size,by simp[Kn.addLoc],rfl⟩
end
end Go.Am
namespace Go.Am
open Go Go.RowKit
def Kn.addArr(κ:Kn)(l g:Nat)(kill:Option Nat)(e:TypeId)(sz c:Nat):Kn:=
 { κ with loc:=λi=>if i=l then some g else κ.loc i,gone:=λi=>if i=l then false else if kill=some i then true else κ.gone i,cap:=λi=>if i=l then some (e,sz,c) else κ.cap i }
section
variable {P:Program} {C:Cfg} {κ κ' κ0:Kn} {B B' N:Nat} {s s':St} {w w' w0:World}
theorem Inv.addArr_le(h:Inv C κ B s w)(g:Nat)(kill:Option Nat)(e:TypeId)(sz c:Nat):LE κ (κ.addArr s.locs.length g kill e sz c):=
 ⟨λ_ _ _ k=>k,λl b hl=>by
   have:=h.locn l b hl
   have:l≠s.locs.length:=by omega
   simp only[Kn.addArr,this,if_false];exact hl,λ_ L _ v k=>⟨L,v,k,Yd _,λ_=>rfl⟩,λl x hx=>by
   obtain⟨e,sz,c⟩:=x
   have:=(h.caps l e sz c hx).1
   have:l≠s.locs.length:=by omega
   simp only[Kn.addArr,this,if_false];exact hx⟩
def LocsTo(s s':St)(kill:Option Nat)(x:Obj):Prop:=
 s'.locs.length=s.locs.length+1/\(∀ i y,s'.locs[i]? = some y->(i=s.locs.length/\y=x)\/(i<s.locs.length/\((kill=some i/\y = .dead)\/(kill≠some i/\s.locs[i]? = some y))))
theorem Inv.addArr(h:Inv C κ B s w){g:Nat}{kill:Option Nat}{e:TypeId}{sz c:Nat}{cells:List Slot}{cs:Array Value}(hs:LocsTo s s' kill (.var cells))(ht:s'.toks=s.toks)
  (hB:B<=g) (hg:w'.heap[g]? = some (.cells cs e (0,0))) (hc:cs.size=c*sz) (hsz:sz=(C.ti e).size) (h0:0<sz) (hcm:c<=maxLen)
  (hle:cells.length<=cs.toList.length) (hcells:SRs κ cells (cs.toList.take cells.length)) (hones:Ones (cs.toList.take cells.length))
  (hgr:(w.grownBy w' none/\w.heap.size<=g)\/(w.grownBy w' (some g)/\∃ l0,kill=some l0/\κ.loc l0=some g/\κ.gone l0=false))
  (hbl:∀ p ∈ s'.bl,p ∈ s.bl\/p=(s.locs.length,e)/\c=1:=by exact λp hp=>.inl hp) :
  Inv C (κ.addArr s.locs.length g kill e sz c) B s' w'/\Mv κ (κ.addArr s.locs.length g kill e sz c) w w':=by
 have hlek:=h.addArr_le g kill e sz c
 have hnl:∀ l b,κ.loc l=some b->l≠s.locs.length:=λl b hl=>by have:=h.locn l b hl;omega
 have hblk:∀ l b,κ.loc l=some b->b<w.heap.size:=λl b hl=>by
  obtain⟨b',o,h1,_,h3,_⟩:=h.locs l _ (List.getElem?_eq_getElem (h.locn l b hl))
  rw[hl] at h1
  cases h1
  exact (Array.getElem?_eq_some_iff.1 h3).1
 have hstay:∀ b,b<w.heap.size->b≠g->w'.heap[b]? = w.heap[b]? :=λb hb hne=>by
  rcases hgr with ⟨h1,_⟩|⟨h1,_⟩
  ·exact h1.block b hb (by simp)
  ·exact h1.block b hb (λe=>hne (by cases e;rfl))
 have hsize:w.heap.size<=w'.heap.size:=by rcases hgr with ⟨h1,_⟩|⟨h1,_⟩<;>exact h1.size
 have hlive:∀ l b,κ.loc l=some b->κ.gone l=false->kill≠some l->b≠g:=λl b hl gl hk e=>by
  subst e
  rcases hgr with ⟨_,h1⟩|⟨_,l0,h1,h2,h3⟩
  ·have:=hblk l b hl;omega
  ·exact hk (by rw[h1,h.locinj l l0 b hl h2 gl h3])
 have hgw:∀ b,b=g->b<w.heap.size->∃ l0,kill=some l0/\κ.loc l0=some g/\κ.gone l0=false:=λb e hb=>by
  subst e
  rcases hgr with ⟨_,h1⟩|⟨_,h1⟩
  ·omega
  ·exact h1
 have hloc:∀ l b,(κ.addArr s.locs.length g kill e sz c).loc l=some b->(l=s.locs.length/\b=g)\/(l≠s.locs.length/\κ.loc l=some b):=λl b hl=>by
  simp only[Kn.addArr] at hl
  split at hl
  ·rename_i e;cases hl;exact .inl ⟨e,rfl⟩
  ·rename_i e;exact .inr ⟨e,hl⟩
 have hgn:∀ l,l≠s.locs.length->(κ.addArr s.locs.length g kill e sz c).gone l=false->κ.gone l=false/\kill≠some l:=λl hl gl=>by
  simp only[Kn.addArr,hl,if_false] at gl
  split at gl
  ·cases gl
  ·rename_i hk;exact⟨gl,hk⟩
 have him:∀ b o v,κ.im b o=some v->b≠g:=λb o v hv e=>by
  subst e
  obtain⟨l0,_,h2,h3⟩:=hgw b rfl (h.im_lt hv)
  rw[h.locim l0 b o h2 h3] at hv
  cases hv
 have htok:∀ k L e v b,κ.tok k=some (L,e,v)->v.ownBlock=some b->b≠g:=λk L e v b hk hv e'=>by
  subst e'
  obtain⟨l0,_,h2,h3⟩:=hgw b rfl (h.wr_lt (.inr ⟨k,L,e,v,hk,hv⟩)).2
  exact h.loctok l0 b k L e v h2 h3 hk hv
 have hkept:∀ {L e v xs},w.ownsRow B e (C.ti e).size v L xs->v.ownBlock≠some g->w'.ownsRow B e (C.ti e).size v L xs:=λho hv=>by
  rcases hgr with ⟨h1,_⟩|⟨h1,_⟩
  ·exact ho.kept h1 (Classical.em _)
  ·exact ho.kept h1 (.inr (λe=>hv e))
 refine⟨⟨λb o v k=>?_,λl x hx=>?_,λl b hl=>?_,λk L hk=>?_,λk L e v hk=>?_,λi j b hi hj gi gj=>?_,h.tokinj,λl b k L e v hl gl hk=>?_,λl b o hl gl=>?_,λl x hx hd=>?_,λl e' sz' c' hc'=>?_,λp hp=>?_,
   h.tabs.mono (λ_ v k=>⟨v,hlek.im _ _ _ k⟩) λb _ hs hv=>hstay b hs (by obtain⟨v,hv⟩:=hv;exact him b 0 v hv)⟩,
  ⟨hlek,?_,?_,?_,hsize,λb hb hw=>hstay b hb λe=>?_,λb hb=>?_,λ_ _ _ k _ _=>k⟩⟩
 ·have hlt:=h.im_lt k
  have:=h.im b o v k
  rw[<-this]
  exact World.cell?_of_block (hstay b hlt (him b o v k))
 ·rcases hs.2 l x hx with ⟨rfl,rfl⟩|⟨hl,⟨hk,rfl⟩|⟨hk,hy⟩⟩
  ·exact⟨g,_,by simp[Kn.addArr],hB,hg,cs,e,rfl,hle,hcells.mono hlek,hones⟩
  ·obtain⟨b,o,h1,h2,h3,_⟩:=h.locs l _ (List.getElem?_eq_getElem hl)
   exact Q2K (hlek.loc l b h1) h2 h3 hsize
  ·obtain⟨b,o,h1,h2,h3,h4⟩:=h.locs l x hy
   by_cases hd:x = .dead
   ·subst hd
    exact Q2K (hlek.loc l b h1) h2 h3 hsize
   ·exact⟨b,o,hlek.loc l b h1,h2,by rw[hstay b (hblk l b h1) (hlive l b h1 (h.lv l x hy hd) hk)];exact h3,h4.mono hlek⟩
 ·rw[hs.1]
  rcases hloc l b hl with ⟨rfl,_⟩|⟨_,hl⟩
  ·omega
  ·have:=h.locn l b hl;omega
 ·rw[ht] at hk
  obtain⟨e2,v,h1,h2⟩:=h.toks k L hk
  refine⟨e2,v,h1,λg2 h3=>?_⟩
  obtain⟨xs,h2,h4⟩:=h2 g2 h3
  exact⟨xs,hkept h2 (λe=>htok k L e2 v g h1 e rfl),h4⟩
 ·rw[ht]
  exact h.tokn k L e v hk
 ·rcases hloc i b hi with ⟨rfl,rfl⟩|⟨ni,hi⟩<;>rcases hloc j _ hj with ⟨rfl,hb⟩|⟨nj,hj⟩
  ·rfl
  ·obtain⟨q1,q2⟩:=hgn j nj gj
   exact absurd rfl (hlive j _ hj q1 q2)
  ·obtain⟨q1,q2⟩:=hgn i ni gi
   exact absurd hb (hlive i b hi q1 q2)
  ·exact h.locinj i j b hi hj (hgn i ni gi).1 (hgn j nj gj).1
 ·rcases hloc l b hl with ⟨rfl,rfl⟩|⟨nl,hl⟩
  ·exact λhv=>htok k L e v b hk hv rfl
  ·exact h.loctok l b k L e v hl (hgn l nl gl).1 hk
 ·rcases hloc l b hl with ⟨rfl,rfl⟩|⟨nl,hl⟩
  ·cases ho:κ.im b o with
   |none=>exact ho
   |some v=>exact absurd rfl (him b o v ho)
  ·exact h.locim l b o hl (hgn l nl gl).1
 ·by_cases hl:l=s.locs.length
  ·simp[Kn.addArr,hl]
  ·rcases hs.2 l x hx with ⟨rfl,_⟩|⟨_,⟨_,rfl⟩|⟨hk,hy⟩⟩
   ·exact absurd rfl hl
   ·exact absurd rfl hd
   ·simp only[Kn.addArr,hl,if_false]
    rw[if_neg hk]
    exact h.lv l x hy hd
 ·rw[hs.1]
  by_cases hl:l=s.locs.length
  ·subst hl
   simp only[Kn.addArr,if_true,Option.some.injEq,Prod.mk.injEq] at hc'
   obtain⟨rfl,rfl,rfl⟩:=hc'
   refine⟨by omega,hsz,h0,hcm,λ_ b hb=>?_⟩
   simp only[Kn.addArr,if_true,Option.some.injEq] at hb
   subst hb
   exact⟨cs,hg,hc⟩
  ·simp only[Kn.addArr,hl,if_false] at hc'
   obtain⟨k1,k2,k3,k4,k5⟩:=h.caps l e' sz' c' hc'
   refine⟨by omega,k2,k3,k4,λgl b hb=>?_⟩
   obtain⟨q1,q2⟩:=hgn l hl gl
   simp only[Kn.addArr,hl,if_false] at hb
   obtain⟨cs',k6,k7⟩:=k5 q1 b hb
   exact⟨cs',by rw[hstay b (hblk l b hb) (hlive l b hb q1 q2)];exact k6,k7⟩
 ·rcases hbl p hp with hp|⟨rfl,rfl⟩
  ·exact hlek.cap _ _ (h.bls p hp)
  ·simp only[Kn.addArr,if_true,hsz]
 ·rcases hgr with ⟨h1,_⟩|⟨h1,_⟩<;>exact h1.os
 ·rcases hgr with ⟨h1,_⟩|⟨h1,_⟩<;>exact h1.tape
 ·rcases hgr with ⟨h1,_⟩|⟨h1,_⟩<;>exact h1.output
 ·obtain⟨l0,_,h2,h3⟩:=hgw b e hb
  subst e
  exact hw (.inl ⟨l0,h2,h3⟩)
 ·rcases hb with ⟨l,hl,gl⟩|hb
  ·rcases hloc l b hl with ⟨rfl,rfl⟩|⟨nl,hl⟩
   ·rcases hgr with ⟨_,h1⟩|⟨_,l0,_,h2,h3⟩
    ·exact .inr h1
    ·exact .inl (.inl ⟨l0,h2,h3⟩)
   ·exact .inl (.inl ⟨l,hl,(hgn l nl gl).1⟩)
  ·exact .inl (.inr hb)
theorem Q8B(s:St)(x:Obj):LocsTo s (s.addLoc x) none x:=by
 refine⟨by simp[St.addLoc],λi y hy=>?_⟩
 simp only[St.addLoc] at hy
 rcases Nat.lt_or_ge i s.locs.length with h|h
 ·rw[List.getElem?_append_left h] at hy
  exact .inr ⟨h,.inr ⟨by simp,hy⟩⟩
 ·rw[List.getElem?_append_right h] at hy
  cases hq:i - s.locs.length with
  |zero=>rw[hq] at hy;simp at hy;exact .inl ⟨by omega,hy.symm⟩
  |succ n=>rw[hq] at hy;simp at hy
theorem Qdh(s:St){l:Nat}(hl:l<s.locs.length)(x:Obj):LocsTo s { s with locs:=s.locs.set l .dead++[x] } (some l) x:=by
 refine⟨by simp,λi y hy=>?_⟩
 simp only at hy
 rcases Nat.lt_or_ge i s.locs.length with h|h
 ·rw[List.getElem?_append_left (by simpa using h)] at hy
  by_cases hi:l=i
  ·subst hi
   rw[List.getElem?_set_self hl] at hy
   exact .inr ⟨h,.inl ⟨rfl,by cases hy;rfl⟩⟩
  ·rw[List.getElem?_set_ne hi] at hy
   exact .inr ⟨h,.inr ⟨by simpa using hi,hy⟩⟩
 ·rw[List.getElem?_append_right (by simpa using h),List.length_set] at hy
  cases hq:i - s.locs.length with
  |zero=>rw[hq] at hy;simp at hy;exact .inl ⟨by omega,hy.symm⟩
  |succ n=>rw[hq] at hy;simp at hy
theorem QcS{l g e sz c n:Nat}{kill:Option Nat}(h:n<=c):SR (κ.addArr l g kill e sz c) (.val (.vs l e sz 0 n)) (.slice (some ⟨g,0,none⟩) n c):=by
 simp only[SR,VR,Kn.addArr,if_true]
 exact⟨g,c,⟨g,0,none⟩,rfl,rfl,by omega,λ_=>by rw[Nat.zero_mul],by rw[Nat.sub_zero]⟩
theorem Q5m(hI:Inv C κ B s w){e:TypeId}{l:List AV}{sl:Slot}(h:newV e (C.ti e) l s=some (sl,s')){v':Value}{xs:List Value}(hown:w'.ownsRow B e (C.ti e).size v' l.length xs)(hgr:w.grownBy w' none)
  {g:Nat} (hg:v'.ownBlock=some g) (hge:w.heap.size<=g) (hv:VRl κ (flat l) xs) (ho:Ones xs) (h0:0<(C.ti e).size) (hl:∀ v ∈ l,v.cells.length=(C.ti e).size) :
  ∃ κ',Mv κ κ' w w'/\Inv C κ' B s' w'/\SR κ' sl v':=by
 unfold newV at h
 split at h
 ·cases h
  rcases hown.2 with ⟨rfl,_⟩|⟨g',cap,cur,rfl,hbg,hgg,hncap,hcapm,hcur,htake⟩
  ·simp[Value.ownBlock] at hg
  ·simp only[Value.ownBlock,Option.some.injEq] at hg
   subst hg
   have hlen:((flatL l).map Slot.val).length=l.length*(C.ti e).size:=by rw[Yh];exact Z1 hl
   obtain⟨hI',hM⟩:=hI.addArr (s':=s.addLoc (.var ((flatL l).map .val))) (kill:=none) (c:=cap) (Q8B s _) rfl hbg hgg hcur rfl h0 hcapm
    (by rw[hlen];have:=Nat.mul_le_mul_right (C.ti e).size hncap;simp only[Array.length_toList];omega) (by rw[hlen,htake];exact SRs.vals hv) (by rw[hlen,htake];exact ho) (.inl ⟨hgr,hge⟩)
   exact⟨_,hM,hI',QcS hncap⟩
 ·cases h
theorem Q4x{v':Value}{e:TypeId}{sz n:Nat}{xs:List Value}(h:w'.ownsRow B e sz v' n xs)(hn:0<n):∃ g,v'.ownBlock=some g:=by
 rcases h.2 with ⟨_,h0⟩|⟨g2,cap2,cur2,rfl,_⟩
 ·omega
 ·exact⟨g2,rfl⟩
theorem Qcq{B B':Nat}{v':Value}{e:TypeId}{sz n:Nat}{xs:List Value}(h:w'.ownsRow B e sz v' n xs)(hB:B'<=B):w'.ownsRow B' e sz v' n xs:=
 ⟨h.1,h.2.imp id λ⟨g2,cap2,cur2,h1,h2,h3⟩=>⟨g2,cap2,cur2,h1,Nat.le_trans hB h2,h3⟩⟩
theorem Qd0(hT:∀ t,TyOK P C t)(hI:Inv C κ B s w)(hB:B<=w.heap.size){t ty et:TypeId}(hk:(C.ti t).k = .slice et){x y:Slot}{u v:Value}(hx:SR κ x u)(hy:SR κ y v){sl:Slot}(h:appendV et (C.ti et) s x y=some (sl,s')) :
  ∃ z κ' w',(Builtin.append_ #[t,t] ty #[u,v]).run P w = .ok z w'/\Mv κ κ' w w'/\Inv C κ' B s' w'/\SR κ' sl z:=by
 have hK:=(hT t).kind
 have hel:=(hT t).elem et hk
 rw[hk] at hK;simp only[KOk] at hK
 obtain⟨i0,hi0⟩:=Option.isSome_iff_exists.1 hel
 unfold appendV at h
 split at h
 ·rename_i hyl
  cases hb:isArrS x with
  |false=>rw[hb] at h;cases h
  |true=>
    rw[hb] at h
    cases h
    obtain⟨a2,n2,c2,rfl,h3,h4,h5,h6⟩:=hy.list hyl
    simp only[Yp] at h3
    subst h3
    obtain⟨a1,n1,c1,rfl,h2⟩:∃ a1 n1 c1,u = .slice a1 n1 c1/\n1<=c1:=by
     cases x with
     |val v=>
       cases v<;>simp only[isArrS] at hb<;>try (cases hb;done)
       ·simp only[SR,VR] at hx;exact⟨_,_,_,hx,Yd _⟩
       ·simp only[SR,VR] at hx
        obtain⟨b,c,a,_,_,g3,_,rfl⟩:=hx
        exact⟨_,_,_,rfl,by omega⟩
     |full l=>obtain⟨a,n,rfl,hs⟩:=hx;exact⟨_,_,_,rfl,Yd _⟩
     |und=>cases hb
     |no=>cases hb
     |own _ _ _=>cases hb
    refine⟨.slice a1 n1 c1,κ,w,?_,.refl _ _,hI,hx⟩
    have hfc:(Builtin.firstCells i0.size 0 (.slice a2 0 c2)).run P w = .ok #[] w:=by
     cases a2 with
     |none=>simp[Builtin.firstCells]
     |some a2=>simp[Builtin.firstCells,loadCells,loadCellsFrom]
    cases a1 with
    |none=>simp[Builtin.append_,run_underlying hK,sizeOf,typeInfo,hi0,Builtin.lenOf,h2,hfc]
    |some a1=>simp[Builtin.append_,run_underlying hK,sizeOf,typeInfo,hi0,Builtin.lenOf,h2,hfc,storeCells]
 ·rename_i ys hne hyl
  cases hq:okSz (C.ti et).size ys with
  |false=>rw[hq] at h;cases h
  |true=>
    rw[hq] at h
    simp only[cond_true] at h
    obtain⟨hys,hsz⟩:=Q2P hq
    have hne0:(C.ti et).size≠0:=by omega
    obtain⟨ie,ze,g1,g2,g3,g4,g5,_⟩:=(hT et).info (nbad hT hne0)
    have hyn:y≠.val .nils:=λe=>by subst e;simp only[Slot.list?] at hyl;cases hyl;exact hne rfl
    obtain⟨ya,m,yc,rfl,hm,_,hysp,szy,yvs,hycl,hyh,hyo,hyv⟩:=hy.list_some hyl hyn
    have hmpos:0<m:=by
     rw[<-hm]
     cases ys with
     |nil=>exact absurd rfl hne
     |cons _ _=>simp
    have hyasp:=hysp hmpos
    have hylen:yvs.length=m*(C.ti et).size:=by rw[<-hyv.length,Z1 hys,hm]
    have hynews:∀ j u,yvs[j]? = some u->w.cell? (ya.add j)=some u:=λj u hj=>by
     obtain⟨yb,yo,ysp⟩:=ya
     simp only at hyasp
     subst hyasp
     rw[Qw]
     exact hI.im _ _ _ (hyh j u hj)
    split at h
    ·have hcond:(ys.length*(C.ti et).bytes<=140737488355328/\ys.length<=9223372036854775807):=by
      unfold newV at h
      split at h
      ·assumption
      ·cases h
     obtain⟨hby,hmx⟩:=hcond
     simp only[SR,VR] at hx
     subst hx
     obtain⟨v',w',hr,hown',hgr,_,hbl⟩:=run_append_own_at (P:=P) w B t ty et ie ze (C.ti et).size (C.ti et).bytes hK g1 g4 g2 g3 g5 hsz (.slice none 0 0) 0 [] (World.ownsRow_nil _ _ _ _) ya m yc yvs hylen hynews (λu hu=>hyo u hu) (by simp only[maxLen];rw[<-hm];omega) (by rw[<-hm];simpa using hby) hB
     simp only[Nat.zero_add,Yo] at hown'
     obtain⟨gn,hgn⟩:=Q4x hown' hmpos
     have hge:w.heap.size<=gn:=by
      rw[hgn] at hbl
      rcases hbl with hbl|hbl
      ·cases hbl
      ·cases hbl;exact Yd _
     obtain⟨κ',r1,r2,r3⟩:=Q5m hI h (by rw[hm];exact hown') hgr hgn hge hyv hyo hsz hys
     exact⟨v',κ',w',hr,r1,r2,r3⟩
    ·rename_i l
     cases hq2:okSz (C.ti et).size l with
     |false=>rw[hq2] at h;cases h
     |true=>
       rw[hq2] at h
       simp only[cond_true] at h
       obtain⟨hlsz,_⟩:=Q2P hq2
       have hcond:((l++ys).length*(C.ti et).bytes<=140737488355328/\(l++ys).length<=9223372036854775807):=by
        unfold newV at h
        split at h
        ·assumption
        ·cases h
       obtain⟨hby,hmx⟩:=hcond
       rw[Ye] at hby hmx
       obtain⟨xa,n,rfl,hxn,_,hxsp,szx,xvs,hxcl,hxh,hxo,hxv⟩:=hx
       have hxl:xvs.length=n*(C.ti et).size:=by rw[<-hxv.length,Z1 hlsz,hxn]
       have holds:∀ j u,xvs[j]? = some u->w.cell? (xa.add j)=some u:=λj u hj=>by
        have hn:0<n:=by
         rcases Nat.eq_zero_or_pos n with h0|h0
         ·subst h0
          have:xvs=[]:=List.length_eq_zero_iff.1 (by rw[hxl];simp)
          subst this
          simp at hj
         ·exact h0
        have hsp:=hxsp hn
        obtain⟨xb,xo,xsp⟩:=xa
        simp only at hsp
        subst hsp
        rw[Qw]
        exact hI.im _ _ _ (hxh j u hj)
       obtain⟨v',w',hr,hown',hgr⟩:=run_append_arg_grows (P:=P) w t ty et ie ze (C.ti et).size (C.ti et).bytes hK g1 g4 g2 g3 g5 hsz xa n n xvs hxl holds ya m yc yvs hylen hynews (by omega) (by simp only[maxLen];rw[<-hm,<-hxn];omega) (by rw[<-hm,<-hxn];exact hby)
       obtain⟨gn,hgn⟩:=Q4x hown' (by omega)
       have hlen:(l++ys).length=n+m:=by simp[hxn,hm]
       obtain⟨κ',r1,r2,r3⟩:=Q5m hI h (by rw[hlen];exact Qcq hown' hB) hgr hgn (hown'.lt gn hgn).1
        (by rw[show flat (l++ys)=flat l++flat ys by simp[flat]];exact VRl.append.2 ⟨_,_,rfl,hxv,hyv⟩) (hxo.append hyo) hsz (λv hv=>(List.mem_append.1 hv).elim (hlsz v) (hys v))
       exact⟨v',κ',w',hr,r1,r2,r3⟩
    ·rename_i loc e sz n
     split at h
     ·rename_i cells hloc
      split at h
      ·rename_i hc
       obtain⟨rfl,hncs,hby,hmx⟩:=hc
       cases h
       have hll:loc<s.locs.length:=(List.getElem?_eq_some_iff.1 hloc).1
       have gl:=hI.lv loc _ hloc (by simp)
       obtain⟨b,o,hb1,hb2,hb3,cs,t',rfl,hle,hcells,hones⟩:=hI.locs loc _ hloc
       simp only[SR,VR] at hx
       obtain⟨b',c,a,k1,k2,k3,k4,rfl⟩:=hx
       rw[hb1] at k1
       cases k1
       obtain⟨_,c1,c2,c3,c4⟩:=hI.caps loc e sz c k2
       obtain⟨cs',c5,c6⟩:=c4 gl b hb1
       rw[hb3] at c5
       cases c5
       subst c1
       simp only[Nat.zero_add,Nat.sub_zero] at k3
       have hxs:((cs.toList.take cells.length).take (n*(C.ti e).size))=cs.toList.take (n*(C.ti e).size):=by rw[List.take_take,Nat.min_eq_left hncs]
       have hsr:SRs κ (cells.take (n*(C.ti e).size)) (cs.toList.take (n*(C.ti e).size)):=by rw[<-hxs];exact hcells.take _
       have hon:Ones (cs.toList.take (n*(C.ti e).size)):=by rw[<-hxs];exact hones.take _
       have hxl:(cs.toList.take (n*(C.ti e).size)).length=n*(C.ti e).size:=by rw[List.length_take];omega
       have hnl:(cells.take (n*(C.ti e).size)++(flatL ys).map Slot.val).length=(n+m)*(C.ti e).size:=by
        rw[Ye,List.length_take,Nat.min_eq_left hncs,Yh,show (flatL ys).length=ys.length*(C.ti e).size from Z1 hys,hm,Nat.add_mul]
       have hsrn:SRs κ (cells.take (n*(C.ti e).size)++(flatL ys).map Slot.val) (cs.toList.take (n*(C.ti e).size)++yvs):=hsr.append (SRs.vals hyv)
       have hst:=λx=>Qdh s hll x
       by_cases hroom:n+m<=c
       ·have h0c:0<c:=by omega
        have ha:=k4 h0c
        rw[Nat.zero_mul] at ha
        subst ha
        have hr:=run_append_room (P:=P) w t ty e ie hK g1 b n c cs hb3 ya m yc yvs (by rw[g2];exact hylen) hynews (λu hu=>hyo u hu) hroom (by rw[g2,hylen,c6,<-Nat.add_mul];exact Nat.mul_le_mul_right _ hroom)
        rw[g2] at hr
        generalize hcur':(cs.toList.take (n*(C.ti e).size)++yvs++cs.toList.drop (n*(C.ti e).size+yvs.length)).toArray=cur' at hr
        have hgr:w.grownBy (w.setRow b cur') (some b):=⟨rfl,rfl,rfl,by simp,λi hi hne=>setRow_other w b i cur' (λe=>hne (by rw[e]))⟩
        have hcm:(n+m)*(C.ti e).size<=c*(C.ti e).size:=Nat.mul_le_mul_right _ hroom
        have hcz:cs.toList.length=c*(C.ti e).size:=by rw[Array.length_toList];exact c6
        have hcs:cur'.size=c*(C.ti e).size:=by
         rw[<-hcur']
         simp only[List.size_toArray,Ye,List.length_take,List.length_drop,hylen,hcz]
         rw[Nat.add_mul] at hcm
         omega
        have htk:cur'.toList.take ((n+m)*(C.ti e).size)=cs.toList.take (n*(C.ti e).size)++yvs:=by
         rw[<-hcur']
         rw[List.take_left' (by rw[Ye,hxl,hylen,Nat.add_mul])]
        obtain⟨hI',hM⟩:=hI.addArr (kill:=some loc) (c:=c) (hst (.var (cells.take (n*(C.ti e).size)++(flatL ys).map .val))) rfl hb2 (setRow_heap w b cs _ e (0,0) hb3) hcs rfl c2 c3
         (by rw[hnl,Array.length_toList,hcs];exact hcm) (by rw[hnl,htk];exact hsrn) (by rw[hnl,htk];exact hon.append hyo) (.inr ⟨hgr,loc,rfl,hb1,gl⟩)
        refine⟨_,_,_,hr,hM,hI',?_⟩
        rw[hm]
        exact QcS hroom
       ·have holds:∀ j u,(cs.toList.take (n*(C.ti e).size))[j]? = some u->w.cell? (a.add j)=some u:=λj u hj=>by
         have hj2:j<n*(C.ti e).size:=by
          have:=(List.getElem?_eq_some_iff.1 hj).1
          omega
         have hn:0<n:=by
          rcases Nat.eq_zero_or_pos n with h0|h0
          ·subst h0;omega
          ·exact h0
         have ha:=k4 (by omega)
         rw[Nat.zero_mul] at ha
         subst ha
         rw[Qw,Nat.zero_add]
         have:=Q2T hb3 0 (n*(C.ti e).size) j u (by simpa using hj)
         simpa using this
        obtain⟨v',w',hr,hown',hgr⟩:=run_append_arg_grows (P:=P) w t ty e ie ze (C.ti e).size (C.ti e).bytes hK g1 g4 g2 g3 g5 hsz a n c (cs.toList.take (n*(C.ti e).size)) hxl holds ya m yc yvs hylen hynews (by omega) (by simp only[maxLen];rw[<-hm];omega) (by rw[<-hm];exact hby)
        obtain⟨gn,hgn⟩:=Q4x hown' (by omega)
        have hge:=(hown'.lt gn hgn).1
        rcases (Qcq hown' hB).2 with ⟨_,h0⟩|⟨g',cap,cur,rfl,hbg,hgg,hncap,hcapm,hcur,htake⟩
        ·omega
        ·simp only[Value.ownBlock,Option.some.injEq] at hgn
         subst hgn
         obtain⟨hI',hM⟩:=hI.addArr (kill:=some loc) (c:=cap) (hst (.var (cells.take (n*(C.ti e).size)++(flatL ys).map .val))) rfl hbg hgg hcur rfl c2 hcapm
          (by rw[hnl,Array.length_toList,hcur];exact Nat.mul_le_mul_right _ hncap) (by rw[hnl,htake];exact hsrn) (by rw[hnl,htake];exact hon.append hyo) (.inl ⟨hgr,hge⟩)
         refine⟨_,_,_,hr,hM,hI',?_⟩
         rw[hm]
         exact QcS hncap
      ·cases h
     ·cases h
    ·cases h
 ·cases h
theorem Qh2(hT:∀ t,TyOK P C t)(hB:B<=w.heap.size){et:TypeId}{ie:TypeInfo}{ze:Value}{z:AV}{a b:Int}(h1:0<=a)(h2:a<=b)(h4:0<(C.ti et).size)(h5:b<=9223372036854775807)(hz:ofCells (C.ti et) (C.ti et).zero=some z)
  (g5:ze.cells.size=(C.ti et).size) (g6:∀ κ,VRl κ (C.ti et).zero ze.cells.toList) (g7:Ones ze.cells.toList) (κ:Kn) :
  (w.alloc (.cells (madeCells ze.cells (b.toNat*(C.ti et).size)) et)).ownsRow B et (C.ti et).size (.slice (some ⟨w.heap.size,0,none⟩) a.toNat b.toNat) a.toNat ((madeCells ze.cells (b.toNat*(C.ti et).size)).toList.take (a.toNat*(C.ti et).size))/\
  Ones ((madeCells ze.cells (b.toNat*(C.ti et).size)).toList.take (a.toNat*(C.ti et).size))/\VRl κ (flat (List.replicate a.toNat z)) ((madeCells ze.cells (b.toNat*(C.ti et).size)).toList.take (a.toNat*(C.ti et).size))/\∀ x ∈ List.replicate a.toNat z,x.cells.length=(C.ti et).size:=by
 have hzc:z.cells=(C.ti et).zero/\z.cells.length=(C.ti et).size:=by
  have hzl:(C.ti et).zero.length=(C.ti et).size:=by rw[(g6 κ).length];simpa using g5
  unfold ofCells at hz
  cases hag:(C.ti et).isAgg with
  |true=>
    rw[hag] at hz
    simp only[cond_true] at hz
    rw[if_pos hzl] at hz
    cases hz
    exact⟨rfl,hzl⟩
  |false=>
    rw[hag] at hz
    simp only[cond_false] at hz
    split at hz
    ·rename_i y hy
     cases hz
     have:=Q2Y (g6 κ) g7 z (by rw[hy];exact Yc)
     rw[this,hy]
     rw[hy] at hzl
     exact⟨rfl,hzl⟩
    ·cases hz
 have hsize:(madeCells ze.cells (b.toNat*(C.ti et).size)).size=b.toNat*(C.ti et).size:=by simp[madeCells]
 have hle:a.toNat*(C.ti et).size<=b.toNat*(C.ti et).size:=Nat.mul_le_mul_right _ (by omega)
 have hget:∀ (j:Nat) (x:Value),((madeCells ze.cells (b.toNat*(C.ti et).size)).toList.take (a.toNat*(C.ti et).size))[j]? = some x->j<a.toNat*(C.ti et).size/\ze.cells.toList[j % (C.ti et).size]? = some x:=λj x hx=>by
  rw[List.getElem?_take] at hx
  split at hx
  ·rename_i hj
   refine⟨hj,?_⟩
   have hjb:j<b.toNat*(C.ti et).size:=by omega
   have hm:j % (C.ti et).size<ze.cells.size:=by rw[g5];exact Nat.mod_lt _ h4
   simp[madeCells,hjb,g5] at hx
   rw[Array.getElem?_toList,Array.getElem?_eq_getElem hm,<-hx]
   simp[hm]
  ·cases hx
 exact⟨⟨by simp[hsize,hle],.inr ⟨w.heap.size,b.toNat,_,by simp,hB,heap_alloc_new w _,by omega,by simp only[maxLen];omega,hsize,by simp⟩⟩,
  (λx hx=>by
    obtain⟨j,hj⟩:=List.mem_iff_getElem?.1 hx
    obtain⟨_,h2⟩:=hget j x hj
    exact g7 x (List.mem_of_getElem? h2)),
  (VRl.of_get (by rw[Z1 (sz:=(C.ti et).size) (λx hx=>by rw[List.eq_of_mem_replicate hx];exact hzc.2)];simp[hsize,hle]) (λi x y hx hy=>by
    obtain⟨hi,hy2⟩:=hget i y hy
    rw[Q1m hzc.2 h4 _ _ hi,hzc.1] at hx
    obtain⟨y',hy3,hvr⟩:=(g6 κ).get hx
    rw[hy2] at hy3
    cases hy3
    exact hvr)),
  λx hx=>by rw[List.eq_of_mem_replicate hx];exact hzc.2⟩
theorem QfH(hT:∀ t,TyOK P C t)(hI:Inv C κ B s w)(hB:B<=w.heap.size){t et:TypeId}(hk:(C.ti t).k = .slice et){l c:Slot}{u v:Value}(hl:SR κ l u)(hc:SR κ c v){sl:Slot}(h:makeV et (C.ti et) s l c=some (sl,s')) :
  ∃ z κ' w',(Instr.makeSlice t u v).run P w = .ok z w'/\Mv κ κ' w w'/\Inv C κ' B s' w'/\SR κ' sl z:=by
 have hK:=(hT t).kind
 rw[hk] at hK;simp only[KOk] at hK
 unfold makeV at h
 split at h
 ·rename_i a b
  split at h
  ·rename_i hcond
   obtain⟨⟨h1,rfl⟩,h4⟩:=hcond
   split at h
   ·rename_i z hz
    have hcond:(a.toNat*(C.ti et).bytes<=140737488355328/\a.toNat<=9223372036854775807):=by
     unfold newV at h
     split at h
     ·rename_i hq;rw[List.length_replicate] at hq;exact hq
     ·cases h
    obtain⟨hby0,hmx⟩:=hcond
    simp only[SR,VR] at hl hc
    subst hl;subst hc
    have hne0:(C.ti et).size≠0:=by omega
    obtain⟨ie,ze,g1,g2,g3,g4,g5,g6,g7,g8,g9⟩:=(hT et).info (nbad hT hne0)
    have hby:(ie.bytes:Int)*a<=281474976710656:=by
     rw[g3,Int.mul_comm]
     have h9:((a.toNat*(C.ti et).bytes:Nat):Int)<=140737488355328:=by omega
     rw[Int.natCast_mul,Int.toNat_of_nonneg h1] at h9
     omega
    have hr:=run_make (P:=P) w t et ie ze hK g1 g4 .i64 .i64 a a h1 (Int.le_refl _) hby (by omega)
    rw[g2] at hr
    obtain⟨q1,q2,q3,q4⟩:=Qh2 (w:=w) hT hB h1 (Int.le_refl a) h4 (by omega) hz g5 g6 g7 κ (B:=B) (ie:=ie)
    obtain⟨κ',r1,r2,r3⟩:=Q5m hI h (by rw[List.length_replicate];exact q1) (World.grownBy_alloc w (.cells (madeCells ze.cells (a.toNat*(C.ti et).size)) et) none) rfl (Yd _) q3 q2 h4 q4
    exact⟨_,κ',_,hr,r1,r2,r3⟩
   ·cases h
  ·cases h
 ·cases h
theorem QgC(hT:∀ t,TyOK P C t)(hI:Inv C κ B s w)(hB:B<=w.heap.size){e:Env}{ev:Operand->Value}(hev:∀ x,SR κ (opnd C e x) (ev x)){t et:TypeId}(hk:(C.ti t).k = .slice et)(h0:(C.ti et).size≠0){n:Nat}{ps:Array (Nat × Operand)}
  (hin:inOrder 0 ps.toList=true) (hn:ps.toList.length=n) (hsm:n*(C.ti et).size<=16777216) {sl:Slot} (h:bslV et (C.ti et) s (ps.toList.map λp=>opnd C e p.2)=some (sl,s')) :
  ∃ z κ' w',(Instr.buildSlice t n (ps.map λ(i,x)=>(i,ev x))).run P w = .ok z w'/\Mv κ κ' w w'/\Inv C κ' B s' w'/\SR κ' sl z:=by
 obtain⟨ie,ze,g1,g2,g3,g4,g5,_⟩:=(hT et).info (nbad hT h0)
 unfold bslV at h
 split at h
 ·rename_i l hl
  have hsr:SRs κ (ps.toList.map λp=>opnd C e p.2) (ps.toList.map λp=>ev p.2):=by
   clear hin hn hsm hl
   induction ps.toList with
   |nil=>rfl
   |cons p r ih=>exact⟨_,_,rfl,hev p.2,ih⟩
  obtain⟨k1,k2,k3,k4,k5⟩:=Q9n hsr hl
  have hlen:l.length=n:=by rw[k2];simpa using hn
  have hr:=Q4H (P:=P) (w:=w) hT hk h0 hin hn hsm k3
  generalize hvs:((ps.toList.map λp=>ev p.2).flatMap λv=>v.cells.toList)=vs at hr k4 k5
  have hvl:vs.length=n*(C.ti et).size:=by rw[<-k4.length,Z1 k1,hlen]
  have hmax:n<=maxLen:=by
   have:n*1<=n*(C.ti et).size:=Nat.mul_le_mul_left _ (by omega)
   simp only[maxLen]
   omega
  obtain⟨κ',r1,r2,r3⟩:=Q5m hI h (v':=.slice (some ⟨w.heap.size,0,none⟩) n n) (xs:=vs) (w':=w.alloc (.cells vs.toArray et)) (by
   rw[hlen]
   exact⟨hvl,.inr ⟨w.heap.size,n,vs.toArray,rfl,hB,heap_alloc_new w _,Yd _,hmax,by simpa using hvl,by rw[List.take_of_length_le (by simp[hvl])]⟩⟩)
   (World.grownBy_alloc w _ none) rfl (Yd _) k4 k5 (by omega) k1
  exact⟨_,κ',_,hr,r1,r2,r3⟩
 ·cases h
end
end Go.Am
namespace Go.Am
open Go Go.RowKit
def Kn.kill(κ:Kn)(l:Nat):Kn:={ κ with gone:=λi=>if i=l then true else κ.gone i }
def Kn.hold(κ:Kn)(b:Nat)(S:Nat->Option Value):Kn:={ κ with im:=λb' o=>if b'=b then S o else κ.im b' o }
section
variable {P:Program} {C:Cfg} {κ κ' κ0:Kn} {B B' N:Nat} {s s':St} {w w' w0:World}
theorem Qik{l b:Nat}(h:Wr (κ.kill l) b):Wr κ b:=by
 rcases h with ⟨i,hi,gi⟩|h
 ·simp only[Kn.kill] at gi
  split at gi
  ·cases gi
  ·exact .inl ⟨i,hi,gi⟩
 ·exact .inr h
theorem Inv.kill(h:Inv C κ B s w){l:Nat}(hl:l<s.locs.length):Inv C (κ.kill l) B { s with locs:=s.locs.set l .dead } w/\Mv κ (κ.kill l) w w:=by
 have hle:LE κ (κ.kill l):=⟨λ_ _ _ h=>h,λ_ _ h=>h,λ_ L _ v h=>⟨L,v,h,Yd _,λ_=>rfl⟩,λ_ _ h=>h⟩
 have hg:∀ i,(κ.kill l).gone i=false->κ.gone i=false:=λi gi=>by
  simp only[Kn.kill] at gi
  split at gi
  ·cases gi
  ·exact gi
 refine⟨⟨h.im,λi x hx=>?_,λi b hb=>by simpa using h.locn i b hb,h.toks,h.tokn,λi j b hi hj gi gj=>h.locinj i j b hi hj (hg i gi) (hg j gj),h.tokinj,λi b k L e v hi gi=>h.loctok i b k L e v hi (hg i gi),λi b o hi gi=>h.locim i b o hi (hg i gi),λi x hx hd=>?_,λi e sz c hc=>?_,h.bls,h.tabs⟩,
  ⟨hle,rfl,rfl,rfl,Yd _,λ_ _ _=>rfl,λ_ hb=>.inl (Qik hb),λ_ _ _ h _ _=>h⟩⟩
 ·by_cases hil:l=i
  ·subst hil
   rw[List.getElem?_set_self hl] at hx
   cases hx
   obtain⟨b,o,h1,h2,h3,_⟩:=h.locs l _ (List.getElem?_eq_getElem hl)
   exact⟨b,o,h1,h2,h3,trivial⟩
  ·rw[List.getElem?_set_ne hil] at hx
   obtain⟨b,o,h1,h2,h3,h4⟩:=h.locs i x hx
   exact⟨b,o,h1,h2,h3,h4.mono hle⟩
 ·by_cases hil:l=i
  ·subst hil
   rw[List.getElem?_set_self hl] at hx
   cases hx
   exact absurd rfl hd
  ·rw[List.getElem?_set_ne hil] at hx
   simp only[Kn.kill]
   rw[if_neg (Ne.symm hil)]
   exact h.lv i x hx hd
 ·obtain⟨k1,k2,k3,k4,k5⟩:=h.caps i e sz c hc
  exact⟨by simpa using k1,k2,k3,k4,λgi=>k5 (hg i gi)⟩
theorem Inv.hold(h:Inv C κ B s w){b:Nat}(hw:¬ Wr κ b){S:Nat->Option Value}(hS:∀ o v,S o=some v->w.cell? ⟨b,o,none⟩=some v)(hle:∀ o v,κ.im b o=some v->S o=some v):Inv C (κ.hold b S) B s w/\LE κ (κ.hold b S):=by
 have hl:LE κ (κ.hold b S):=⟨λb' o v hv=>by
  simp only[Kn.hold]
  split
  ·rename_i e;subst e;exact hle o v hv
  ·exact hv,λ_ _ h=>h,λ_ L _ v h=>⟨L,v,h,Yd _,λ_=>rfl⟩,λ_ _ h=>h⟩
 refine⟨⟨λb' o v hv=>?_,λi x hx=>?_,h.locn,λk L hk=>?_,h.tokn,h.locinj,h.tokinj,h.loctok,λi b' o hi gi=>?_,h.lv,h.caps,h.bls,h.tabs.mono (λ_ v k=>⟨v,hl.im _ _ _ k⟩) λ_ _ _ _=>rfl⟩,hl⟩
 ·simp only[Kn.hold] at hv
  split at hv
  ·rename_i e;subst e;exact hS o v hv
  ·exact h.im b' o v hv
 ·obtain⟨b',o,h1,h2,h3,h4⟩:=h.locs i x hx
  exact⟨b',o,h1,h2,h3,h4.mono hl⟩
 ·obtain⟨e,v,h1,h2⟩:=h.toks k L hk
  refine⟨e,v,h1,λg h3=>?_⟩
  obtain⟨xs,h2,h4,h5,h6,h7⟩:=h2 g h3
  have hg:g≠b:=λe'=>by subst e';exact hw (.inr ⟨k,L,e,v,h1,h3⟩)
  refine⟨xs,h2,h4,h5,λj u hj=>?_,λo ho=>?_⟩
  ·simp only[Kn.hold,hg,if_false];exact h6 j u hj
  ·simp only[Kn.hold,hg,if_false];exact h7 o ho
 ·have hb:b'≠b:=λe'=>by subst e';exact hw (.inl ⟨i,hi,gi⟩)
  simp only[Kn.hold,hb,if_false]
  exact h.locim i b' o hi gi
theorem QaX{t:TI}{cs:List AV}{v:AV}(h:ofCells t cs=some v)(hp:∀ x ∈ cs,x.cells=[x])(hs:cs.length=t.size):v.cells=cs:=by
 unfold ofCells at h
 cases ha:t.isAgg with
 |true=>
   rw[ha] at h
   simp only[cond_true] at h
   rw[if_pos hs] at h
   cases h
   rfl
 |false=>
   rw[ha] at h
   simp only[cond_false] at h
   split at h
   ·rename_i y
    cases h
    exact hp _ (by simp)
   ·cases h
theorem Qau{t:TI}:∀ {n:Nat} {cs:List AV} {l:List AV},rows t n cs=some l->(∀ x ∈ cs,x.cells=[x])->cs.length=n*t.size->flat l=cs/\l.length=n/\∀ x ∈ l,x.cells.length=t.size
 |0,cs,l,h,_,hl=>by
   simp only[rows,Option.some.injEq] at h
   subst h
   rw[Nat.zero_mul] at hl
   exact⟨(List.length_eq_zero_iff.1 hl).symm,rfl,by simp⟩
 |n+1,cs,l,h,hp,hl=>by
   simp only[rows] at h
   have hle:t.size<=cs.length:=by rw[hl,Nat.add_mul];omega
   split at h
   ·rename_i v hv
    split at h
    ·rename_i r hr
     cases h
     have hc:=QaX hv (λx hx=>hp x (List.mem_of_mem_take hx)) (by rw[List.length_take];omega)
     obtain⟨k1,k2,k3⟩:=Qau hr (λx hx=>hp x (List.mem_of_mem_drop hx)) (by rw[List.length_drop,hl,Nat.add_mul];omega)
     refine⟨?_,by simp[k2],λx hx=>?_⟩
     ·simp only[flat,List.flatMap_cons] at k1 |-
      rw[k1,hc,List.take_append_drop]
     ·rcases List.mem_cons.1 hx with rfl|hx
      ·rw[hc,List.length_take];omega
      ·exact k3 x hx
    ·cases h
   ·cases h
theorem QbT{f:AV->St->Option (AV × St)}(hf:∀ (v:AV) (s:St) (v':AV) (s':St) (κ:Kn) (u:Value),Inv C κ B s w->VR κ v u->f v s=some (v',s')->∃ κ',Mv κ κ' w w/\Inv C κ' B s' w/\VR κ' v' u) :
  ∀ (l:List AV) (s:St) (l':List AV) (s':St) (κ:Kn) (us:List Value),Inv C κ B s w->VRl κ l us->frzW f l s=some (l',s')->∃ κ',Mv κ κ' w w/\Inv C κ' B s' w/\VRl κ' l' us
 |[],s,l',s',κ,us,hI,hv,h=>by
   simp only[frzW,Option.some.injEq,Prod.mk.injEq] at h
   obtain⟨rfl,rfl⟩:=h
   exact⟨κ,.refl _ _,hI,hv⟩
 |v::r,s,l',s',κ,us,hI,hv,h=>by
   simp only[frzW] at h
   split at h
   ·rename_i v' s1 h1
    split at h
    ·rename_i r' s2 h2
     cases h
     simp only[VRl] at hv
     obtain⟨u,us,rfl,hv1,hv2⟩:=hv
     obtain⟨κ1,m1,i1,q1⟩:=hf v s v' s1 κ u hI hv1 h1
     obtain⟨κ2,m2,i2,q2⟩:=QbT hf r s1 r' s' κ1 us i1 (VRl.mono m1.le _ _ hv2) h2
     exact⟨κ2,m1.trans m2,i2,by simp only[VRl];exact⟨u,us,rfl,VR.mono m2.le _ _ q1,q2⟩⟩
    ·cases h
   ·cases h
theorem QdP(hT:∀ t,TyOK P C t):∀ (n:Nat) (v:AV) (s:St) (v':AV) (s':St) (κ:Kn) (u:Value),Inv C κ B s w->VR κ v u->frz C.ti n v s=some (v',s')->∃ κ',Mv κ κ' w w/\Inv C κ' B s' w/\VR κ' v' u
 |0,v,s,v',s',κ,u,_,_,h=>by simp[frz] at h
 |n+1,v,s,v',s',κ,u,hI,hv,h=>by
   have ih2:=QbT (B:=B) (w:=w) (C:=C) (QdP hT n)
   have same:∀ (h:some (v,s)=some (v',s')),∃ κ',Mv κ κ' w w/\Inv C κ' B s' w/\VR κ' v' u:=λh=>by
    cases h
    exact⟨κ,.refl _ _,hI,hv⟩
   cases v with
   |agg l=>
     simp only[frz] at h
     split at h
     ·rename_i l' s2 hl
      cases h
      simp only[VR] at hv
      obtain⟨us,h1,h2,rfl⟩:=hv
      obtain⟨κ',k1,k2,k3⟩:=ih2 l s l' s' κ us hI h1 hl
      exact⟨κ',k1,k2,by simp only[VR];exact⟨us,k3,h2,rfl⟩⟩
     ·cases h
   |vs loc e sz lo m=>
     simp only[frz] at h
     split at h
     ·rename_i cells hloc
      split at h
      ·rename_i l hl
       split at h
       ·rename_i l' s2 hfl
        split at h
        ·rename_i r hr
         cases hsz0:Nat.blt 0 sz&&Nat.ble (lo*sz+m*sz) cells.length with
         |false=>rw[hsz0] at h;cases h
         |true=>
           rw[hsz0] at h
           cases h
           have hll:loc<s.locs.length:=(List.getElem?_eq_some_iff.1 hloc).1
           have gl:=hI.lv loc _ hloc (by simp)
           obtain⟨b,o,hb1,hb2,hb3,cs,t',rfl,hle,hcells,hones⟩:=hI.locs loc _ hloc
           simp only[VR] at hv
           obtain⟨b',c,a,k1,k2,k3,k4,rfl⟩:=hv
           rw[hb1] at k1
           cases k1
           obtain⟨_,c1,c2,c3,c4⟩:=hI.caps loc e sz c k2
           obtain⟨hI1,hM1⟩:=hI.kill hll
           have hsr:SRs κ ((cells.drop (lo*sz)).take (m*sz)) (((cs.toList.take cells.length).drop (lo*sz)).take (m*sz)):=(hcells.drop _).take _
           have hon:Ones (((cs.toList.take cells.length).drop (lo*sz)).take (m*sz)):=(hones.drop _).take _
           have hcell:=Q2T hb3 (lo*sz) cells.length
           generalize hus:((cs.toList.take cells.length).drop (lo*sz)).take (m*sz)=us at hsr hon
           have hvl:=Q3G hsr hl
           obtain⟨κ2,hM2,hI2,hv2⟩:=ih2 l _ l' s' (κ.kill loc) us hI1 (VRl.mono hM1.le _ _ hvl) hfl
           have hWr:Wr κ b:=.inl ⟨loc,hb1,gl⟩
           have hblt:b<w.heap.size:=(Array.getElem?_eq_some_iff.1 hb3).1
           have hnw1:¬ Wr (κ.kill loc) b:=by
            rintro (⟨i,hi,gi⟩|⟨k,L,e',v,hk,hv⟩)
            ·simp only[Kn.kill] at gi
             split at gi
             ·cases gi
             ·rename_i hne
              exact hne (hI.locinj i loc b hi hb1 gi gl)
            ·exact hI.loctok loc b k L e' v hb1 gl hk hv
           have hnw2:¬ Wr κ2 b:=λhb=>by
            rcases hM2.newW b hb with h1|h1
            ·exact hnw1 h1
            ·omega
           have hMk:Mv κ κ2 w w:=hM1.trans hM2
           let S:Nat->Option Value:=λo=>if lo*sz<=o/\o<lo*sz+m*sz then w.cell? ⟨b,o,none⟩ else κ2.im b o
           obtain⟨hI3,hle3⟩:=hI2.hold hnw2 (S:=S) (λo v ho=>by
            simp only[S] at ho
            split at ho
            ·exact ho
            ·exact hI2.im b o v ho) (λo v ho=>by
            simp only[S]
            split
            ·exact hI2.im b o v ho
            ·exact ho)
           have hMf:Mv κ (κ2.hold b S) w w:=
            ⟨hMk.le.trans hle3,rfl,rfl,rfl,Yd _,λ_ _ _=>rfl,λb' hb'=>by
              have:Wr κ2 b':=by
               rcases hb' with h1|h1
               ·exact .inl h1
               ·exact .inr h1
              exact hMk.newW b' this,λb' o v ho hb' hw'=>by
              have hne:b'≠b:=λe=>by subst e;exact hw' hWr
              simp only[Kn.hold,hne,if_false] at ho
              exact hMk.newim b' o v ho hb' hw'⟩
           refine⟨_,hMf,hI3,?_⟩
           have hv3:=VRl.mono hle3 _ _ hv2
           have hp:=Q2Y hv3 hon
           have hlen:l'.length=us.length:=hv3.length
           simp only[Ya] at hsz0
           have hbl:=Nat.le_of_ble_eq_true hsz0.2
           have husl:us.length=m*sz:=by rw[<-hus,List.length_take,List.length_drop,List.length_take];omega
           obtain⟨q1,q2,q3⟩:=Qau hr hp (by rw[hlen,husl,c1])
           refine Q1B.2 ⟨a,m,c - lo,rfl,q2,by omega,λhm=>?_,(C.ti e).size,us,q3,?_,hon,by rw[q1];exact hv3⟩
           ·rw[k4 (by omega)]
           ·intro j u hj
            have hjl:=(List.getElem?_eq_some_iff.1 hj).1
            have hm:0<m:=by
             rcases Nat.eq_zero_or_pos m with h0|h0
             ·subst h0;omega
             ·exact h0
            rw[k4 (by omega)]
            simp only[Kn.hold,if_true,S]
            rw[if_pos ⟨by omega,by omega⟩]
            rw[<-hus,List.getElem?_take] at hj
            split at hj
            ·exact hcell j u hj
            ·cases hj
        ·cases h
       ·cases h
      ·cases h
     ·cases h
   |_=>exact same (by simpa only[frz] using h)
theorem Q7h(hT:∀ t,TyOK P C t){x x':Slot}{u:Value}(hI:Inv C κ B s w)(hx:SR κ x u)(h:frzSlot C.ti x s=some (x',s')):∃ κ',Mv κ κ' w w/\Inv C κ' B s' w/\SR κ' x' u:=by
 unfold frzSlot at h
 split at h
 ·rename_i v
  split at h
  ·rename_i v' s1 h1
   cases h
   exact QdP hT 16 v s v' s' κ u hI hx h1
  ·cases h
 ·cases h
  exact⟨κ,.refl _ _,hI,hx⟩
theorem Q6b(hT:∀ t,TyOK P C t):∀ {xs xs':List Slot} {us:List Value} {s s':St} {κ:Kn},Inv C κ B s w->SRs κ xs us->frzSlots C.ti xs s=some (xs',s')->∃ κ',Mv κ κ' w w/\Inv C κ' B s' w/\SRs κ' xs' us
 |[],xs',us,s,s',κ,hI,hx,h=>by
   simp only[frzSlots,Option.some.injEq,Prod.mk.injEq] at h
   obtain⟨rfl,rfl⟩:=h
   exact⟨κ,.refl _ _,hI,hx⟩
 |x::r,xs',us,s,s',κ,hI,hx,h=>by
   simp only[frzSlots] at h
   split at h
   ·rename_i x' s1 h1
    split at h
    ·rename_i r' s2 h2
     cases h
     obtain⟨u,us,rfl,hx1,hx2⟩:=hx
     obtain⟨κ1,m1,i1,q1⟩:=Q7h hT hI hx1 h1
     obtain⟨κ2,m2,i2,q2⟩:=Q6b hT i1 (hx2.mono m1.le) h2
     exact⟨κ2,m1.trans m2,i2,u,us,rfl,q1.mono m2.le,q2⟩
    ·cases h
   ·cases h
variable {e:Env} {a:Act} {β:Nat->Option Nat} {δ:List Nat}
theorem Qdd{ti:TypeId->TI}{x x':Ent}(h:frzEnt ti x s=some (x',s')):(x' = .none↔x = .none)/\∀ g d off,x' = .ptr g d off->x = .ptr g d off:=by
 cases x with
 |none=>simp only[frzEnt] at h;cases h;simp
 |ptr g d off=>simp only[frzEnt] at h;cases h;simp
 |s v=>
   simp only[frzEnt] at h
   split at h<;>cases h
   simp
 |var cs=>
   simp only[frzEnt] at h
   split at h<;>cases h
   simp
theorem Qer(hT:∀ t,TyOK P C t){i:Nat}{x x':Ent}{v:Value}(hI:Inv C κ B s w)(hx:EntR κ w β i x v)(h:frzEnt C.ti x s=some (x',s')):∃ κ',Mv κ κ' w w/\Inv C κ' B s' w/\EntR κ' w β i x' v:=by
 cases x with
 |none=>simp only[frzEnt] at h;cases h;exact⟨κ,.refl _ _,hI,hx⟩
 |ptr g d off=>simp only[frzEnt] at h;cases h;exact⟨κ,.refl _ _,hI,hx⟩
 |s y=>
   simp only[frzEnt] at h
   split at h
   ·rename_i y' s1 h1
    cases h
    exact Q7h hT hI hx h1
   ·cases h
 |var cs=>
   simp only[frzEnt] at h
   split at h
   ·rename_i cs' s1 h1
    cases h
    obtain⟨b,vs,t,k1,k2,k3,k4,k5⟩:=hx
    obtain⟨κ',m1,i1,q1⟩:=Q6b hT hI k4 h1
    exact⟨κ',m1,i1,b,vs,t,k1,k2,k3,q1,k5⟩
   ·cases h
theorem QbS(hT:∀ t,TyOK P C t){k:Env->St->Res}{R:Out × St}:∀ (ts:List Nat) {e:Env} {s:St},OkX C κ0 w0 B N e s a w->frzE C.ti ts e s k=some R->∃ e' s',OkX C κ0 w0 B N e' s' a w/\k e' s'=some R
 |[],e,s,h,hk=>⟨e,s,h,hk⟩
 |t::ts,e,s,h,hk=>by
   simp only[frzE,Q3B] at hk
   split at hk
   ·rename_i x s1 hx
    obtain⟨κ,β,δ,h⟩:=h
    obtain⟨κ',m1,i1,q1⟩:=Qer hT h.inv (h.fr.ent t) hx
    obtain⟨n1,n2⟩:=Qdd hx
    have hf:=h.fr.move m1
    have hg:∀ i,Env.get ((t,x)::e) i=if t=i then x else e.get i:=λi=>by
     simp only[Env.get]
     by_cases hi:t=i
     ·subst hi;simp
     ·have:Nat.beq t i=false:=by
       cases hb:Nat.beq t i with
       |false=>rfl
       |true=>exact absurd (Yf hb) hi
      simp[this,hi]
    refine QbS hT ts ⟨κ',β,δ,h.mv.trans m1,i1,⟨hf.size,λi=>?_,λi g d off hi=>?_,hf.priv,hf.inj,hf.defers,hf.dpriv,hf.dnodup⟩⟩ hk
    ·rw[hg]
     by_cases hi:t=i
     ·subst hi
      rw[if_pos rfl]
      exact q1
     ·rw[if_neg hi]
      exact hf.ent i
    ·have hd:e.get d≠.none:=by
      rw[hg] at hi
      by_cases hti:t=i
      ·rw[if_pos hti] at hi
       exact h.fr.ptr t g d off (n2 g d off hi)
      ·rw[if_neg hti] at hi
       exact h.fr.ptr i g d off hi
     rw[hg]
     by_cases htd:t=d
     ·rw[if_pos htd]
      intro e'
      rw[htd] at n1
      exact hd (n1.1 e')
     ·rw[if_neg htd]
      exact hd
   ·cases hk
end
end Go.Am
namespace Go.Am
open Go Go.RowKit
section
variable {P:Program} {C:Cfg} {κ κ' κ0:Kn} {B B' N:Nat} {s s':St} {w w' w0:World}
theorem Q0g(l:List UInt8):(strAV l).length=l.length:=by simp[strAV]
theorem Q4B(l:List UInt8):∀ v ∈ strAV l,v.cells.length=1:=λv hv=>by
 obtain⟨b,_,rfl⟩:=List.mem_map.1 hv
 rfl
theorem Qcp(l:List UInt8):okSz 1 (strAV l)=true:=by
 simp only[okSz,Ya,List.all_eq_true,beq_iff_eq]
 exact⟨Q4B l,rfl⟩
theorem Q8x(l:List UInt8):flat (strAV l)=strAV l:=by
 induction l with
 |nil=>rfl
 |cons b l ih=>simp only[strAV,Yi,flat,List.flatMap_cons] at ih |-;rw[ih];rfl
theorem QcH(κ:Kn)(b:ByteArray):VRl κ (strAV b.data.toList) (Lib.strCells b):=by
 unfold strAV Lib.strCells
 induction b.data.toList with
 |nil=>simp only[Yn,VRl]
 |cons x l ih=>simp only[Yi,VRl];exact⟨_,_,rfl,by simp only[VR],ih⟩
theorem QiD(hT:∀ t,TyOK P C t){et:TypeId}(hk:(C.ti et).k = .int .u8)(hz:(C.ti et).zero=[.int .u8 0])(hs:(C.ti et).size=1)(hb:(C.ti et).bytes=1):∃ i,P.info? et=some i/\i.zero=some (.int .u8 0)/\i.size=1/\i.bytes=1:=by
 obtain⟨i,z,h1,h2,h3,h4,h5,h6,_,_,h8⟩:=(hT et).info (by rw[hk];simp)
 refine⟨i,h1,?_,by rw[h2,hs],by rw[h3,hb]⟩
 have ha:(C.ti et).isAgg=false:=by simp[TI.isAgg,hk]
 obtain⟨h9,_⟩:=h8 ha
 have h10:=h6 ⟨λ_ _=>none,λ_=>none,λ_=>none,λ_=>false,λ_=>none⟩
 rw[hz] at h10
 simp only[VRl,VR] at h10
 obtain⟨u,us,e1,rfl,rfl⟩:=h10
 have:z.cells = #[z]:=by
  cases z<;>first|rfl|(simp[Value.oneCell'] at h9)
 rw[this] at e1
 simp at e1
 rw[h4,e1]
theorem Q5s(t u ty e:TypeId)(i:TypeInfo)(ht:P.underlying t=some (.slice e))(hu:P.underlying u=some .string)(hi:P.info? e=some i)(hz:i.zero=some (.int .u8 0))(hsize:i.size=1)(hby:i.bytes=1)
  (b:Addr) (n cap:Nat) (olds:List Value) (hlo:olds.length=n) (holds:∀ j u,olds[j]? = some u->w.cell? (b.add j)=some u) (str:ByteArray)
  (hg:cap<n+str.size) (h63:n+str.size<=maxLen) (hbytes:n+str.size<=140737488355328) :
  ∃ v' w',(Builtin.append_ #[t,u] ty #[.slice (some b) n cap,.string str]).run P w = .ok v' w'/\w'.ownsRow w.heap.size e 1 v' (n+str.size) (olds++Lib.strCells str)/\w.grownBy w' none:=by
 have hsmall:n+str.size<=9223372036854775807:=by simp only[maxLen] at h63;omega
 have hr:=Lib.run_append_grow_string (P:=P) w t u ty e i (.int .u8 0) ht hu hi hz b n cap olds (by rw[hsize];simpa using hlo) holds str hg (by omega) (by rw[hby];exact growslice_fits (by omega) (by omega))
 have hlen:(olds++Lib.strCells str).length=(n+str.size)*1:=by rw[Ye,hlo,Lib.strCells_length,Nat.mul_one]
 have hge:=grownCap_ge w (n+str.size) cap e
 have hcm:grownCap w (n+str.size) cap e<=maxLen:=grownCap_le_maxLen w (n+str.size) cap e h63
 refine⟨_,_,hr,⟨hlen,.inr ⟨w.heap.size,_,_,rfl,Yd _,heap_alloc_new w.drew _,hge,hcm,?_,?_⟩⟩,⟨rfl,rfl,rfl,by simp,λk hk _=>World.grownBy_alloc w.drew (.cells _ _) none |>.block k hk (by simp)⟩⟩
 ·have hz1:(Value.int IntKind.u8 0).cells.size=1:=rfl
  simp only[Array.size_append,List.size_toArray,size_zeroCells,hz1,hlo,Lib.strCells_length]
  omega
 ·simp only[Array.toList_append,Yr]
  rw[<-Yr,<-hlen]
  exact List.take_left
theorem Qd1(hT:∀ t,TyOK P C t)(hI:Inv C κ B s w)(hB:B<=w.heap.size){t u ty et:TypeId}(hk:(C.ti t).k = .slice et){x y:Slot}{a v:Value}(hx:SR κ x a)(hy:SR κ y v){sl:Slot}(h:appendX C et u s x y=some (sl,s')) :
  ∃ z κ' w',(Builtin.append_ #[t,u] ty #[a,v]).run P w = .ok z w'/\Mv κ κ' w w'/\Inv C κ' B s' w'/\SR κ' sl z:=by
 have hK:=(hT t).kind
 rw[hk] at hK;simp only[KOk] at hK
 unfold appendX at h
 split at h
 rotate_left
 ·cases h
 rename_i hu
 have hU:=(hT u).kind
 rw[hu] at hU;simp only[KOk] at hU
 unfold appendStr at h
 split at h
 rotate_left
 ·cases h
 rename_i l he hz
 simp only[SR,VR] at hy
 obtain⟨str,rfl,rfl⟩:=hy
 cases hq:Nat.beq (C.ti et).size 1&&Nat.beq (C.ti et).bytes 1 with
 |false=>rw[hq] at h;cases h
 |true=>
   rw[hq] at h
   simp only[cond_true] at h
   simp only[Ya] at hq
   have hs1:=Yf hq.1
   have hb1:=Yf hq.2
   obtain⟨i,i1,i2,i3,i4⟩:=QiD hT he hz hs1 hb1
   have hsl:str.data.toList.length=str.size:=rfl
   have hones:Ones (Lib.strCells str):=Lib.strCells_oneCell str
   split at h
   ·simp only[SR,VR] at hx
    subst hx
    unfold appendS at h
    simp only[Slot.list?] at h
    cases hl:strAV str.data.toList with
    |nil=>
      have h0:str.size=0:=by rw[<-hsl,<-Q0g,hl];rfl
      rw[hl] at h
      simp only[] at h
      cases h
      obtain⟨v',w',hr,_,hgr,hiff⟩:=Lib.run_append_own_string (P:=P) w w.heap.size t u ty et i hK hU i1 i2 i3 i4 (.slice none 0 0) 0 [] (World.ownsRow_nil w _ et 1) str (by rw[h0];decide) (by rw[h0];decide) (Yd _)
      have:=hiff.2 ⟨rfl,h0⟩
      subst this
      exact⟨_,κ,w',hr,Mv.grown κ hgr,hI.grown hgr,by simp only[SR,VR]⟩
    |cons c r=>
      rw[hl] at h
      simp only[] at h
      rw[<-hl] at h
      rw[hs1,Qcp] at h
      simp only[cond_true] at h
      split at h
      ·rename_i hc
       cases h
       rw[Q0g,hsl,hb1,Nat.mul_one] at hc
       have hpos:0<str.size:=by rw[<-hsl,<-Q0g,hl];simp
       obtain⟨v',w',hr,hown,hgr,hiff⟩:=Lib.run_append_own_string (P:=P) w w.heap.size t u ty et i hK hU i1 i2 i3 i4 (.slice none 0 0) 0 [] (World.ownsRow_nil w _ et 1) str (by simp only[maxLen];omega) (by omega) (Yd _)
       obtain⟨g,hgn⟩:∃ g,v'.ownBlock=some g:=by
        rcases hown.2 with ⟨_,h0⟩|⟨g2,cap2,cur2,rfl,_⟩
        ·omega
        ·exact⟨g2,rfl⟩
       have hge:=(hown.lt g hgn).1
       rw[Yo,Nat.zero_add] at hown
       have hown2:w'.ownsRow B et (C.ti et).size v' (strAV str.data.toList).length (Lib.strCells str):=by
        rw[hs1,Q0g,hsl]
        exact⟨hown.1,hown.2.imp id λ⟨g2,cap2,cur2,h1,h2,h3⟩=>⟨g2,cap2,cur2,h1,Nat.le_trans hB h2,h3⟩⟩
       obtain⟨κ',r1,r2,r3⟩:=hI.fresh_tok (l':=strAV str.data.toList) hgr hgn hge hown2 (by omega) hones (by rw[Q8x];exact QcH κ str) (by rw[hs1];exact Q4B _)
       exact⟨v',κ',w',hr,r1,r2,r3⟩
      ·cases h
   ·rename_i k e' lx
    unfold appendS at h
    simp only[Slot.list?] at h
    cases hl:strAV str.data.toList with
    |nil=>
      have h0:str.size=0:=by rw[<-hsl,<-Q0g,hl];rfl
      rw[hl] at h
      simp only[] at h
      cases h
      refine⟨a,κ,w,?_,.refl _ _,hI,hx⟩
      obtain⟨⟨xa,n,c,rfl,hxs⟩,_⟩:=hx
      have hf:=Lib.run_firstCells_string (P:=P) w i.size str
      have hn:=hxs.2.1
      have hsc:Lib.strCells str=[]:=List.eq_nil_of_length_eq_zero (by rw[Lib.strCells_length];exact h0)
      rw[h0,hsc] at hf
      simp[Builtin.append_,run_underlying hK,run_underlying hU,sizeOf,typeInfo,i1,Builtin.lenOf,h0,hn,hf,storeCells]
    |cons c r=>
      rw[hl] at h
      simp only[] at h
      rw[<-hl] at h
      rw[hs1,Qcp] at h
      simp only[cond_true] at h
      cases hq2:okSz 1 lx with
      |false=>rw[hq2] at h;cases h
      |true=>
      rw[hq2] at h
      simp only[cond_true] at h
      obtain⟨hlsz,_⟩:=Q2P hq2
      split at h
      rotate_left
      ·cases h
      rename_i hc
      obtain⟨rfl,htk,hby,hmx⟩:=hc
      cases h
      rw[Q0g,hsl,hb1,Nat.mul_one] at hby
      have hpos:0<str.size:=by rw[<-hsl,<-Q0g,hl];simp
      obtain⟨⟨xa,n,c,rfl,hxs⟩,L,uu,htok,hLl,hLe⟩:=hx
      obtain⟨hxn,hxc,hxsp,szx,xvs,hxcl,hxh,hxo,hxv⟩:=hxs
      have hLk:=hI.tokn k L e' uu htok
      rw[htk] at hLk
      cases hLk
      have huu:=hLe rfl
      subst huu
      obtain⟨e2,v2,k1,k2⟩:=hI.toks k lx.length htk
      rw[htok] at k1
      cases k1
      obtain⟨xs,k2,k4,k5,k6,k7⟩:=k2 xa.block rfl
      rcases k2.2 with ⟨hbad,_⟩|⟨g',cap,cur,hv',hbg,hgg,hncap,hcapm,hcur,htake⟩
      ·cases hbad
      ·cases hv'
       simp only at k6 k7
       rw[hs1] at k2 hcur htake k4 k7
       have hxl:xvs.length=lx.length*1:=by rw[<-hxv.length,Z1 hlsz]
       have hxsl:xs.length=lx.length:=by simpa using k2.1
       have hxs2:xs=xvs:=by
        refine Q4P (by rw[hxl];exact k2.1) λj a b ha hb=>?_
        have h1:=k6 j a ha
        have h2:=hxh j b hb
        simp only[Nat.zero_add] at h2
        rw[h1] at h2
        exact Option.some.inj h2
       subst hxs2
       have hkl:k<s.toks.length:=(List.getElem?_eq_some_iff.1 htk).1
       have hnl:(lx++strAV str.data.toList).length=lx.length+str.size:=by rw[Ye,Q0g,hsl]
       have htoks':∀ i,(s.toks.set k (lx.length+(strAV str.data.toList).length))[i]? = if i=k then some (lx.length+str.size) else s.toks[i]? :=λi=>by
        rw[Q0g,hsl]
        by_cases hik:i=k
        ·subst hik;rw[List.getElem?_set_self hkl,if_pos rfl]
        ·rw[List.getElem?_set_ne (Ne.symm hik),if_neg hik]
       have hflat:∀ κ',VRl κ' (flat lx) xs->VRl κ' (flat (lx++strAV str.data.toList)) (xs++Lib.strCells str):=λκ' h1=>by
        rw[show flat (lx++strAV str.data.toList)=flat lx++flat (strAV str.data.toList) by simp[flat],Q8x]
        exact VRl.append.2 ⟨_,_,rfl,h1,QcH κ' str⟩
       have hszs:∀ v ∈ lx++strAV str.data.toList,v.cells.length=1:=λv hv=>(List.mem_append.1 hv).elim (hlsz v) (Q4B _ v)
       have hsz1:0<(C.ti e').size:=by omega
       by_cases hroom:lx.length+str.size<=c
       ·have hcs:cur.size=c:=by simpa using hcur
        have hr:=Lib.run_append_room_string (P:=P) w t u ty e' i hK hU i1 i3 g' lx.length c cur hgg str hroom (by omega)
        have ht':cur.toList.take lx.length=xs:=by simpa using htake
        rw[ht'] at hr
        generalize hcur':(xs++Lib.strCells str++cur.toList.drop (lx.length+str.size)).toArray=cur' at hr
        have hgr:w.grownBy (w.setRow g' cur') (some g'):=⟨rfl,rfl,rfl,by simp,λi hi hne=>setRow_other w g' i cur' (λe=>hne (by rw[e]))⟩
        have hown':(w.setRow g' cur').ownsRow B e' (C.ti e').size (.slice (some ⟨g',0,none⟩) (lx.length+str.size) c) (lx.length+str.size) (xs++Lib.strCells str):=by
         rw[hs1]
         refine⟨by rw[Ye,hxsl,Lib.strCells_length];omega,.inr ⟨g',c,cur',rfl,hbg,setRow_heap w g' cur _ e' (0,0) hgg,hroom,hcapm,?_,?_⟩⟩
         ·rw[<-hcur']
          simp only[List.size_toArray,Ye,List.length_drop,Array.length_toList,Lib.strCells_length,hxsl]
          omega
         ·rw[<-hcur',Nat.mul_one]
          have:(xs++Lib.strCells str).length=lx.length+str.size:=by rw[Ye,hxsl,Lib.strCells_length]
          exact List.take_left' this
        obtain⟨hI',hM⟩:=hI.tok_step (s':={ s with toks:=s.toks.set k (lx.length+(strAV str.data.toList).length) }) (Nat.le_of_lt hkl) hgr (.inr ⟨rfl,lx.length,_,htok,rfl⟩) hown' rfl hsz1 (k5.append hones)
         (λL0 e0 v0 h0=>by rw[htok] at h0;cases h0;exact⟨rfl,by omega⟩) (λj u hj=>by
           have hjl:j<xs.length:=by
            rcases Nat.lt_or_ge j xs.length with h'|h'
            ·exact h'
            ·rw[k7 j (by omega)] at hj;cases hj
           rw[List.getElem?_append_left hjl]
           have:=k6 j _ (List.getElem?_eq_getElem hjl)
           rw[hj] at this
           rw[List.getElem?_eq_getElem hjl,<-this]) htoks' rfl
        refine⟨.slice (some ⟨g',0,none⟩) (lx.length+str.size) c,_,_,hr,hM,hI',⟨⟨⟨g',0,none⟩,_,c,rfl,hnl,hroom,λ_=>rfl,_,xs++Lib.strCells str,hszs,λj u hj=>?_,k5.append hones,hflat _ (VRl.mono hM.le _ _ hxv)⟩,lx.length+str.size,_,by simp[Kn.setTok],Nat.le_of_eq hnl,λ_=>rfl⟩⟩
        simp only[Kn.setTok,if_true,Nat.zero_add]
        exact hj
       ·obtain⟨v',w',hr,hown',hgr⟩:=Q5s (P:=P) (w:=w) t u ty e' i hK hU i1 i2 i3 i4 ⟨g',0,none⟩ lx.length c xs hxsl (λj u hj=>by rw[Qw,Nat.zero_add];exact hI.im _ _ _ (k6 j u hj)) str (by omega) (by simp only[maxLen];omega) (by omega)
        obtain⟨gn,hgn⟩:∃ gn,v'.ownBlock=some gn:=by
         rcases hown'.2 with ⟨_,h0⟩|⟨g2,cap2,cur2,rfl,_⟩
         ·omega
         ·exact⟨g2,rfl⟩
        have hgn2:=(hown'.lt gn hgn).1
        have hown2:w'.ownsRow B e' (C.ti e').size v' (lx.length+str.size) (xs++Lib.strCells str):=by
         rw[hs1]
         exact⟨hown'.1,hown'.2.imp id λ⟨g2,cap2,cur2,h1,h2,h3⟩=>⟨g2,cap2,cur2,h1,Nat.le_trans hB h2,h3⟩⟩
        obtain⟨hI',hM⟩:=hI.tok_step (s':={ s with toks:=s.toks.set k (lx.length+(strAV str.data.toList).length) }) (Nat.le_of_lt hkl) hgr (.inl ⟨rfl,hgn2⟩) hown2 hgn hsz1 (k5.append hones)
         (λL0 e0 v0 h0=>by rw[htok] at h0;cases h0;exact⟨rfl,by omega⟩) (λj u hj=>by have:=hI.im_lt hj;omega) htoks' rfl
        rcases hown2.2 with ⟨_,h0⟩|⟨g2',cap2,cur2,rfl,hb2,hg2,hn2,_⟩
        ·omega
        ·simp only[Value.ownBlock,Option.some.injEq] at hgn
         subst hgn
         refine⟨_,_,_,hr,hM,hI',⟨⟨⟨g2',0,none⟩,_,cap2,rfl,hnl,hn2,λ_=>rfl,_,xs++Lib.strCells str,hszs,λj u hj=>?_,k5.append hones,hflat _ (VRl.mono hM.le _ _ hxv)⟩,lx.length+str.size,_,by simp[Kn.setTok],Nat.le_of_eq hnl,λ_=>rfl⟩⟩
         simp only[Kn.setTok,if_true,Nat.zero_add]
         exact hj
   ·cases h
end
end Go.Am
namespace Go.Am
open Go Go.RowKit
section
variable {P:Program} {C:Cfg} {κ κ' κ0:Kn} {B B' N:Nat} {s s':St} {w w' w0:World} {e:Env} {a:Act} {β:Nat->Option Nat} {δ:List Nat} {cl:CallFn} {F:Fence}
theorem Q8j{r:Res}{k:Slot->St->Res}{R:Out × St}(h:back (noPan r) k=some R):back r k=some R:=by
 unfold noPan at h
 split at h
 ·exact h
 ·cases h
theorem Q16(hF:GF F){o:Oper}{Q:Exit->Act->World->Prop}{R:Out × St}{k:Ent->Env->St->Res}{K:Act->World->Prop}(hnd:∀ c,o.op≠.defer c)
  (hK:∀ x e' s' a' w',OkX C κ0 w0 B N (put o.dst x e') s' a' w'->k x e' s'=some R->K a' w') {m:Sem Next} (hm:execOp a.eval o=m) (h:Does P C κ0 w0 B N o.dst a w m k R):o.wpIn F 0 P a w K Q:=by
 refine⟨Q0H hF,?_⟩
 rw[Oper.semAt_eq _ _ _ hnd,hm]
 obtain⟨v,w',x,e',s',hrun,hk,hok⟩:=h
 rcases hrun with hrun|⟨hrun,rfl⟩
 ·rw[hrun];exact hK x e' s' _ _ hok hk
 ·rw[hrun];exact hK x e' s' _ _ hok hk
theorem QgM(hT:∀ t,TyOK P C t)(hG:GlobOK C κ)(hI:Inv C κ B s w)(hB:B<=w.heap.size)(hf:FrameR κ B' w N e a β δ){o:Oper}{sl:Slot}(h:effM C e s o.op=some (sl,s')) :
  (∀ c,o.op≠.defer c)/\∃ v κ' w',((execOp a.eval o).run P w = .ok (.value v) w'\/((execOp a.eval o).run P w = .ok .skip w'/\v=undef))/\Mv κ κ' w w'/\Inv C κ' B s' w'/\SR κ' sl v:=by
 have hev:=λx=>Zv hf hG x
 have skip:∀ {m:Sem Unit},execOp a.eval o=(do m;pure .skip)->sl = .no->(∃ w',m.run P w = .ok () w'/\Mv κ κ w w'/\Inv C κ B s' w')->∃ v κ' w',((execOp a.eval o).run P w = .ok (.value v) w'\/((execOp a.eval o).run P w = .ok .skip w'/\v=undef))/\Mv κ κ' w w'/\Inv C κ' B s' w'/\SR κ' sl v:=by
  rintro m hm rfl ⟨w',h1,h2,h3⟩
  exact⟨undef,κ,w',.inr ⟨by rw[hm];simp only[Sem.run_bind,h1,Result.andThen_ok,Sem.run_pure],rfl⟩,h2,h3,rfl⟩
 have value:∀ {m:Sem Value},execOp a.eval o=(do pure (.value (<-m)))->(∃ z κ' w',m.run P w = .ok z w'/\Mv κ κ' w w'/\Inv C κ' B s' w'/\SR κ' sl z)->∃ v κ' w',((execOp a.eval o).run P w = .ok (.value v) w'\/((execOp a.eval o).run P w = .ok .skip w'/\v=undef))/\Mv κ κ' w w'/\Inv C κ' B s' w'/\SR κ' sl v:=by
  rintro m hm ⟨z,κ',w',h1,h2⟩
  exact⟨z,κ',w',.inl (by rw[hm];simp only[Sem.run_bind,h1,Result.andThen_ok,Sem.run_pure]),h2⟩
 unfold effM at h
 split at h
 ·rename_i t r ho
  refine⟨by rw[ho];simp,?_⟩
  cases hc:(isMap (C.ti t)&&hintOk (r.map (opnd C e))) with
  |false=>rw[hc] at h;cases h
  |true=>
    rw[hc] at h
    simp only[cond_true] at h
    obtain⟨κ',h1,h2,h3⟩:=QfF hI hB h
    simp only[Ya] at hc
    refine value (m:=Instr.makeMap t (r.map a.eval)) (by unfold execOp;rw[ho]) ⟨_,κ',_,?_,h1,h2,h3⟩
    cases r with
    |none=>simp[Instr.makeMap]
    |some x=>
      have hx:=hev x
      have hc2:=hc.2
      simp only[Option.map_some] at hc2
      unfold hintOk at hc2
      split at hc2
      ·rename_i hk;cases hk
      ·rename_i k n hk
       have hk:=Option.some.inj hk
       rw[hk] at hx
       simp only[SR,VR] at hx
       have hmap:=hc.1
       unfold isMap at hmap
       split at hmap
       ·rename_i kt et hkt
        have hK:=(hT t).kind
        rw[hkt] at hK;simp only[KOk] at hK
        simp[Instr.makeMap,run_underlying hK,hx,asInt,asIntOf]
       ·cases hmap
      ·cases hc2
 ·rename_i t m k x ho
  refine⟨by rw[ho];simp,?_⟩
  split at h
  ·rename_i kt et hkt
   obtain⟨h1,h2⟩:=Q9c hT hI hkt (hev m) (hev k) (hev x) h
   exact skip (by unfold execOp;rw[ho]) h1 h2
  ·cases h
 ·rename_i t m k x ho
  refine⟨by rw[ho];simp,?_⟩
  split at h
  ·rename_i kt et hkt
   obtain⟨h1,h2⟩:=Q9c hT hI hkt (hev m) (hev k) (hev x) h
   exact skip (by unfold execOp;rw[ho]) h1 h2
  ·cases h
 ·rename_i t m k ho
  refine⟨by rw[ho];simp,?_⟩
  split at h
  ·rename_i kt et hkt
   obtain⟨z,w',h1,h2,h3,h4⟩:=Qfo hT hI hkt (hev m) (hev k) h
   exact value (by unfold execOp;rw[ho]) ⟨z,κ,w',h1,h2,h3,h4⟩
  ·cases h
 ·rename_i t m k x ho
  refine⟨by rw[ho];simp,?_⟩
  obtain⟨h1,h2⟩:=Qd8 (t:=t) hI (hev m) (hev k) (hev x) h
  exact skip (by unfold execOp;rw[ho]) h1 h2
 ·rename_i ags ts ho
  refine⟨by rw[ho];simp,?_⟩
  split at h
  ·rename_i m k t u has hts
   split at h
   ·rename_i kt et hkt
    obtain⟨z,w',h1,h2,h3,h4⟩:=Qel (u:=u) (ty:=o.type) hT hI hkt (hev m) (hev k) h
    have e1:ags = #[m,k]:=Array.toList_inj.1 has
    have e2:ts = #[t,u]:=Array.toList_inj.1 hts
    subst e1;subst e2
    refine⟨z,κ,w',.inl ?_,h2,h3,h4⟩
    unfold execOp
    rw[ho]
    simp[resolve,invoke,builtin,h1]
   ·cases h
  ·cases h
 ·cases h
theorem Qci(h:Ok C κ0 w0 B N e s a w κ β δ)(hB:B<=w0.heap.size){f:FuncId}{o:Oper}(hd:∀ d,o.dst=some d->d<N){cs:List Slot}{vs:List Value}(hc:SRs κ cs vs)(ho:Ones vs){t:TypeId}{m:Sem Value}(hlen:vs.length=(C.ti t).size)
  (hr:m.run P w = .ok (.pointer (some ⟨w.heap.size,0,none⟩)) (w.alloc (.cells vs.toArray t))) {k:Ent->Env->St->Res} {R:Out × St} (hk:newS (dstMode C f o) t cs (dstOld e o) s (λv s=>k v e s)=some R) :
  Does P C κ0 w0 B N o.dst a w (do pure (.value (<-m))) k R:=by
 by_cases hm:dstMode C f o = .tl
 ·have hBw:B<=w.heap.size:=Nat.le_trans hB h.mv.size
  have hr':(do pure (.value (<-m)):Sem Next).run P w = .ok (.value (.pointer (some ⟨w.heap.size,0,none⟩))) (w.alloc (.cells vs.toArray t)):=by simp only[Sem.run_bind,hr,Result.andThen_ok,Sem.run_pure]
  rw[hm] at hk
  simp only[newS] at hk
  have hl:=hc.length
  have h0:0<(C.ti t).size:=by
   rcases cs with _|⟨c,cs⟩
   ·cases hk
   ·rw[<-hlen,<-hl];simp
  have hne:cs.isEmpty=false:=by
   rcases cs with _|⟨c,cs⟩
   ·cases hk
   ·rfl
  rw[hne] at hk
  simp only[cond_false] at hk
  obtain⟨hI',hM⟩:=h.inv.addArr (s':=s.addLocT (.var cs) t) (g:=w.heap.size) (kill:=none) (e:=t) (sz:=(C.ti t).size) (c:=1) (cells:=cs) (cs:=vs.toArray) (by
    have:=Q8B s (.var cs)
    exact this) rfl hBw (heap_alloc_new w _) (by simpa using hlen) rfl h0 (by decide) (by simp[hl]) (by rw[hl];simpa using hc) (by rw[hl];simpa using ho)
    (.inl ⟨World.grownBy_alloc w _ none,Yd _⟩) (λp hp=>by
      simp only[St.addLocT,List.mem_cons] at hp
      exact hp.symm.imp id λe=>⟨e,rfl⟩)
  refine⟨_,_,_,e,_,.inl hr',hk,h.step hM hI' _ hd ?_⟩
  simp only[PutR,SR,VR]
  exact⟨w.heap.size,by simp[Kn.addArr],rfl⟩
 ·exact Qip h hB hd hc ho hr hk hm
theorem Qie(hT:∀ t,TyOK P C t)(hF:GF F)(hcl:CallsOK P C cl)(hB:B<=w0.heap.size)(hG:GlobOK C κ0)(h:Ok C κ0 w0 B N e s a w κ β δ){f:FuncId}{o:Oper}(hd:∀ d,o.dst=some d->d<N){dr:Bool}{rt:Root}
  {Q:Exit->Act->World->Prop} {R:Out × St} (hP:Post P C κ0 w0 B N Q R) {k:Ent->Env->St->Res} {K:Act->World->Prop}
  (hK:∀ x e' s' a' w',OkX C κ0 w0 B N (put o.dst x e') s' a' w'->k x e' s'=some R->K a' w')
  (hk:effK C cl dr f o rt true e s k=some R):o.wpIn F 0 P a w K Q:=by
 have hGκ:=h.glob hG
 have hBw:B<=w.heap.size:=Nat.le_trans hB h.mv.size
 have hev:=λx=>Zv h.fr hGκ x
 unfold effK at hk
 split at hk
 ·rename_i g ags ts ho
  have hk':back (cal cl true (tgtV (opnd C e g) (ags.toList.map (opnd C e))) s) (λv s=>k (.s v) e s)=some R:=by
   cases dr with
   |false=>exact hk
   |true=>exact Q8j hk
  exact QgD hF hcl hB hG h hd ho hP (λv s' a' w' h1 h2=>hK (.s v) e s' a' w' h1 h2) hk'
 ·simp only[cond_true] at hk
  split at hk
  ·rename_i t ho
   cases hg:(C.ti t).isGood with
   |false=>rw[hg] at hk;cases hk
   |true=>
     rw[hg] at hk
     simp only[cond_true] at hk
     have hb:(C.ti t).k≠.bad:=λhk=>by simp[TI.isGood,hk] at hg
     obtain⟨i,z,h1,h2,h3,h4,h5,h6,h7,_⟩:=(hT t).info hb
     refine Q16 hF (by rw[ho];simp) hK (m:=do pure (.value (<-Instr.alloc t true (.tuple #[])))) (by unfold execOp;rw[ho]) (Qci h hB hd (SRs.vals (h6 κ)) h7 (t:=t) (by simpa using h5) ?_ hk)
     simp[Instr.alloc,zeroValue,typeInfo,h1,h4,newVar,newRow]
  ·rename_i t x ho
   cases hc:boxCells (C.ti t) (opnd C e x) with
   |none=>rw[hc] at hk;cases hk
   |some cs=>
     rw[hc] at hk
     simp only[bindL] at hk
     obtain⟨hb,hsz,hcs,hones⟩:=QdI hT (hev x) hc
     refine Q16 hF (by rw[ho];simp) hK (m:=do pure (.value (<-Instr.box t (a.eval x)))) (by unfold execOp;rw[ho]) (Qci h hB hd hcs hones (t:=t) hsz ?_ hk)
     simp[Instr.box,newVar,newRow]
  ·rename_i t x y ho
   cases hc:boxCells (C.ti t) (opnd C e y) with
   |none=>rw[hc] at hk;cases hk
   |some cs=>
     rw[hc] at hk
     simp only[bindL] at hk
     exact Q16 hF (by rw[ho];simp) hK (m:=do Instr.storeAt t (a.eval x) (a.eval y);pure .skip) (by unfold execOp;rw[ho]) (Qg8 hT hGκ h hd hc hk)
  ·rename_i t l c ho
   split at hk
   ·rename_i et hkt
    cases hloc:(dstMode C f o).isLoc with
    |true=>
      rw[hloc] at hk
      simp only[cond_true] at hk
      cases hm:makeV et (C.ti et) s (opnd C e l) (opnd C e c) with
      |none=>rw[hm] at hk;cases hk
      |some p=>
        obtain⟨sl,s2⟩:=p
        rw[hm] at hk
        obtain⟨z,κ',w',hr,hM,hI,hS⟩:=QfH hT h.inv hBw hkt (hev l) (hev c) hm
        exact Q16 hF (by rw[ho];simp) hK (m:=do pure (.value (<-Instr.makeSlice t (a.eval l) (a.eval c)))) (by unfold execOp;rw[ho]) (h.value hd hr hM hI hS hk)
    |false=>
    rw[hloc] at hk
    simp only[cond_false] at hk
    cases hm:makeS et (C.ti et) s (opnd C e l) (opnd C e c) with
    |none=>rw[hm] at hk;cases hk
    |some p=>
      obtain⟨sl,s2⟩:=p
      rw[hm] at hk
      obtain⟨z,κ',w',hr,hM,hI,hS⟩:=QfG hT h.inv hBw hkt (hev l) (hev c) hm
      exact Q16 hF (by rw[ho];simp) hK (m:=do pure (.value (<-Instr.makeSlice t (a.eval l) (a.eval c)))) (by unfold execOp;rw[ho]) (h.value hd hr hM hI hS hk)
   ·cases hk
  ·rename_i t n ps ho
   split at hk
   ·rename_i et hkt
    cases hb:(inOrder 0 ps.toList&&Nat.beq ps.toList.length n&&Nat.ble (n*(C.ti et).size) 16777216&&Nat.blt 0 (C.ti et).size) with
    |false=>rw[hb] at hk;cases hk
    |true=>
      rw[hb] at hk
      simp only[cond_true] at hk
      simp only[Ya] at hb
      obtain⟨⟨⟨b1,b2⟩,b3⟩,b4⟩:=hb
      have b4':(C.ti et).size≠0:=by
       intro h0
       rw[h0] at b4
       cases b4
      cases hm:bslV et (C.ti et) s (ps.toList.map λp=>opnd C e p.2) with
      |none=>rw[hm] at hk;cases hk
      |some p=>
        obtain⟨sl,s2⟩:=p
        rw[hm] at hk
        obtain⟨z,κ',w',hr,hM,hI,hS⟩:=QgC hT h.inv hBw hev hkt b4' b1 (Yf b2) (Nat.le_of_ble_eq_true b3) hm
        refine Q16 hF (by rw[ho];simp) hK (m:=execOp a.eval o) rfl ?_
        refine⟨z,w',.s sl,e,s2,.inl ?_,hk,h.step hM hI o.dst hd (x:=.s sl) (v:=z) hS⟩
        unfold execOp
        rw[ho]
        simp only[Sem.run_bind,hr,Result.andThen_ok,Sem.run_pure]
   ·cases hk
  ·rename_i x ho
   cases dr with
   |true=>cases hk
   |false=>
     simp only[cond_false] at hk
     have hx:=hev x
     unfold panK at hk
     split at hk
     ·rename_i t v hxv
      cases hk
      rw[hxv] at hx
      have hx':=hx
      simp only[SR,VR] at hx
      obtain⟨u,hu,hval⟩:=hx
      refine⟨Q0H hF,?_⟩
      rw[Oper.semAt_eq _ _ _ (by rw[ho];simp)]
      unfold execOp
      rw[ho]
      simp only[hval,Instr.panic,Sem.run_bind,run_goPanic,Result.andThen]
      exact hP.pan _ _ e a w κ β δ _ rfl h ⟨_,rfl,by rw[hval] at hx';exact hx'⟩
     ·cases hk
  ·rename_i ags ts ho
   split at hk
   ·rename_i x y t u has hts
    split at hk
    ·rename_i et hkt htu
     cases hloc:(dstMode C f o).isLoc with
     |true=>
       rw[hloc] at hk
       simp only[cond_true] at hk
       cases hm:appendV et (C.ti et) s (opnd C e x) (opnd C e y) with
       |none=>rw[hm] at hk;cases hk
       |some p=>
         obtain⟨sl,s2⟩:=p
         rw[hm] at hk
         have htu':=Yf htu
         subst htu'
         obtain⟨z,κ',w',hr,hM,hI,hS⟩:=Qd0 hT h.inv hBw (ty:=o.type) hkt (hev x) (hev y) hm
         have e1:ags = #[x,y]:=Array.toList_inj.1 has
         have e2:ts = #[t,t]:=Array.toList_inj.1 hts
         subst e1;subst e2
         refine Q16 hF (by rw[ho];simp) hK (m:=do let d <-resolve a.eval { callee:=.builtin .append,args:=#[x,y],argTypes:=#[t,t] } o.type;invoke d.target d.args) (by unfold execOp;rw[ho]) ?_
         refine⟨z,w',.s sl,e,s2,.inl ?_,hk,h.step hM hI o.dst hd (x:=.s sl) (v:=z) hS⟩
         simp[resolve,invoke,builtin,hr]
     |false=>
     rw[hloc] at hk
     simp only[cond_false] at hk
     cases hm:appendS et (C.ti et) s (opnd C e x) (opnd C e y) with
     |none=>rw[hm] at hk;cases hk
     |some p=>
       obtain⟨sl,s2⟩:=p
       rw[hm] at hk
       have htu':=Yf htu
       subst htu'
       obtain⟨z,κ',w',hr,hM,hI,hS⟩:=Qef hT h.inv hBw (ty:=o.type) hkt (hev x) (hev y) hm
       have e1:ags = #[x,y]:=Array.toList_inj.1 has
       have e2:ts = #[t,t]:=Array.toList_inj.1 hts
       subst e1;subst e2
       refine Q16 hF (by rw[ho];simp) hK (m:=do let d <-resolve a.eval { callee:=.builtin .append,args:=#[x,y],argTypes:=#[t,t] } o.type;invoke d.target d.args) (by unfold execOp;rw[ho]) ?_
       refine⟨z,w',.s sl,e,s2,.inl ?_,hk,h.step hM hI o.dst hd (x:=.s sl) (v:=z) hS⟩
       simp[resolve,invoke,builtin,hr]
    ·rename_i et hkt htu
     cases hm:appendX C et u s (opnd C e x) (opnd C e y) with
     |none=>rw[hm] at hk;cases hk
     |some p=>
       obtain⟨sl,s2⟩:=p
       rw[hm] at hk
       obtain⟨z,κ',w',hr,hM,hI,hS⟩:=Qd1 hT h.inv hBw (ty:=o.type) hkt (hev x) (hev y) hm
       have e1:ags = #[x,y]:=Array.toList_inj.1 has
       have e2:ts = #[t,u]:=Array.toList_inj.1 hts
       subst e1;subst e2
       refine Q16 hF (by rw[ho];simp) hK (m:=do let d <-resolve a.eval { callee:=.builtin .append,args:=#[x,y],argTypes:=#[t,u] } o.type;invoke d.target d.args) (by unfold execOp;rw[ho]) ?_
       refine⟨z,w',.s sl,e,s2,.inl ?_,hk,h.step hM hI o.dst hd (x:=.s sl) (v:=z) hS⟩
       simp[resolve,invoke,builtin,hr]
    ·cases hk
   ·cases hk
  ·cases hm:effM C e s o.op with
   |none=>rw[hm] at hk;cases hk
   |some p=>
     obtain⟨sl,s2⟩:=p
     rw[hm] at hk
     simp only[bind2] at hk
     obtain⟨hdef,v,κ',w',hrun,hM,hI,hS⟩:=QgM hT hGκ h.inv hBw h.fr (o:=o) hm
     refine Q16 hF hdef hK (m:=execOp a.eval o) rfl ?_
     exact⟨v,w',.s sl,e,s2,hrun,hk,h.step hM hI o.dst hd (x:=.s sl) (v:=v) hS⟩
theorem Q6d{f:FuncId}{o:Oper}(h:isPureO C f o=true):isPure C o.op=true:=by
 unfold isPureO at h
 simp only[Ya] at h
 exact h.1
theorem Q1p {all : List Oper} {o : Oper} {os : List Oper} {rts : List (Option Nat)} {dr r : Bool} {f : FuncId} {k : Env → St → Res} : opsK C cl dr r f all (o :: os) rts e s k = bindB (wants all e o.guard) fun w =>
   bif isPureO C f o then pureK C e w o.op (λv=>opsK C cl dr r f all os rts.tail (put o.dst v e) s k)
   else bif isRead o.op then bind1 (gd w (readS C r (rootOf dr rts) e s o.op)) (λv=>opsK C cl dr r f all os rts.tail (put o.dst (.s v) e) s k)
   else effK C cl dr f o (rootOf dr rts) w e s (λv e s=>opsK C cl dr r f all os rts.tail (put o.dst v e) s k):=rfl
theorem QfP(hT:∀ t,TyOK P C t)(hF:GF F)(hcl:CallsOK P C cl)(hB:B<=w0.heap.size)(hG:GlobOK C κ0){ops:Array Oper}{f:FuncId}{dr r:Bool}{Q:Exit->Act->World->Prop}{R:Out × St}(hP:Post P C κ0 w0 B N Q R){k:Env->St->Res}{K:Act->World->Prop}
  {o:Oper} {os:List Oper} {rts:List (Option Nat)} (hd:∀ d,o.dst=some d->d<N) (hok:OkX C κ0 w0 B N e s a w)
  (hK:∀ e' s' a' w',OkX C κ0 w0 B N e' s' a' w'->opsK C cl dr r f ops.toList os rts.tail e' s' k=some R->K a' w')
  (hk:opsK C cl dr r f ops.toList (o::os) rts e s k=some R) :
  if Region.wanted o (yielded ops a.tmps) then o.wpIn F 0 P a w K Q else (∀ f,o.about P w a.eval=some f->F.fn f)/\K (a.put o.dst undef) w:=by
 obtain⟨κ,β,δ,h⟩:=hok
 have hGκ:=h.glob hG
 rw[Q1p] at hk
 cases hw:wants ops.toList e o.guard with
 |none=>rw[hw] at hk;cases hk
 |some t=>
   rw[hw] at hk
   simp only[bindB] at hk
   rw[Qgm h.fr rfl hw]
   cases t with
   |false=>
     simp only[Bool.false_eq_true,if_false]
     refine⟨Q0H hF,?_⟩
     have no:PutR κ e β (.s .no) undef:=by simp only[PutR,SR]
     cases hp:isPureO C f o with
     |true=>
       rw[hp] at hk
       simp only[cond_true] at hk
       obtain⟨x,hx,hk2⟩:=QfR h.fr hk
       exact hK _ _ _ _ (h.step (.refl _ _) h.inv o.dst hd hx) hk2
     |false=>
       rw[hp] at hk
       simp only[cond_false] at hk
       cases hrd:isRead o.op with
       |true=>
         rw[hrd] at hk
         simp only[cond_true,gd,cond_false,bind1] at hk
         exact hK _ _ _ _ (h.step (.refl _ _) h.inv o.dst hd no) hk
       |false=>
         rw[hrd] at hk
         simp only[cond_false] at hk
         unfold effK at hk
         split at hk
         ·rename_i g ags ts _
          have hk':back (cal cl false (tgtV (opnd C e g) (ags.toList.map (opnd C e))) s) (λv s=>opsK C cl dr r f ops.toList os rts.tail (put o.dst (.s v) e) s k)=some R:=by
           cases dr with
           |false=>exact hk
           |true=>exact Q8j hk
          simp only[cal,cond_false,back] at hk'
          exact hK _ _ _ _ (h.step (.refl _ _) h.inv o.dst hd no) hk'
         ·simp only[cond_false] at hk
          exact hK _ _ _ _ (h.step (.refl _ _) h.inv o.dst hd no) hk
   |true=>
     simp only[if_true]
     cases hp:isPureO C f o with
     |true=>
       rw[hp] at hk
       simp only[cond_true] at hk
       obtain⟨v,κ',w',x,hrun,hM,hI,hx,hk2⟩:=Qhf hT hGκ h.fr h.inv o (Q6d hp) hk
       refine⟨Q0H hF,?_⟩
       rw[Oper.semAt_eq _ _ _ (by intro c hc;have hp:=Q6d hp;rw[hc] at hp;cases hp),hrun]
       exact hK _ _ _ _ (h.step hM hI o.dst hd hx) hk2
     |false=>
       rw[hp] at hk
       simp only[cond_false] at hk
       cases hrd:isRead o.op with
       |true=>
         rw[hrd] at hk
         simp only[cond_true,gd] at hk
         cases hs:readS C r (rootOf dr rts) e s o.op with
         |none=>rw[hs] at hk;cases hk
         |some sl=>
           rw[hs] at hk
           simp only[bind1] at hk
           unfold readS at hs
           split at hs
           ·rename_i t x ho
            obtain⟨z,hrun,hz⟩:=Qcd hT hGκ h.fr h.inv hs
            refine⟨Q0H hF,?_⟩
            rw[Oper.semAt_eq _ _ _ (by rw[ho];simp)]
            unfold execOp
            rw[ho]
            simp only[Sem.run_bind,hrun,Result.andThen_ok,Sem.run_pure]
            exact hK _ _ _ _ (h.step (.refl _ _) h.inv o.dst hd (x:=.s sl) (v:=z) hz) hk
           ·rename_i t x i ok ho
            split at hs
            ·rename_i kt et hkt
             obtain⟨z,hrun,hz⟩:=QeE hT h.inv hkt (Zv h.fr hGκ x) (Zv h.fr hGκ i) hs
             refine⟨Q0H hF,?_⟩
             rw[Oper.semAt_eq _ _ _ (by rw[ho];simp)]
             unfold execOp
             rw[ho]
             simp only[Sem.run_bind,hrun,Result.andThen_ok,Sem.run_pure]
             exact hK _ _ _ _ (h.step (.refl _ _) h.inv o.dst hd (x:=.s sl) (v:=z) hz) hk
            ·cases hs
           ·rename_i ags ts ho
            split at hs
            ·rename_i x t has hts
             cases hm:isMap (C.ti t) with
             |false=>rw[hm] at hs;cases hs
             |true=>
               rw[hm] at hs
               simp only[cond_true] at hs
               obtain⟨z,hrun,hz⟩:=QgZ (ty:=o.type) hT h.inv hm (Zv h.fr hGκ x) hs
               have e1:ags = #[x]:=Array.toList_inj.1 has
               have e2:ts = #[t]:=Array.toList_inj.1 hts
               subst e1;subst e2
               refine⟨Q0H hF,?_⟩
               rw[Oper.semAt_eq _ _ _ (by rw[ho];simp)]
               unfold execOp
               rw[ho]
               simp[resolve,invoke,builtin,hrun]
               exact hK _ _ _ _ (h.step (.refl _ _) h.inv o.dst hd (x:=.s sl) (v:=z) hz) hk
            ·cases hs
           ·cases hs
       |false=>
         rw[hrd] at hk
         simp only[cond_false] at hk
         exact Qie hT hF hcl hB hG h hd hP (λx e' s' a' w' h1 h2=>hK _ _ _ _ h1 h2) hk
theorem Qe0(hT:∀ t,TyOK P C t)(hF:GF F)(hcl:CallsOK P C cl)(hB:B<=w0.heap.size)(hG:GlobOK C κ0){ops:Array Oper}{f:FuncId}{dr r:Bool}{Q:Exit->Act->World->Prop}{R:Out × St}(hP:Post P C κ0 w0 B N Q R){k:Env->St->Res}
  (hQ:∀ e s a w,OkX C κ0 w0 B N e s a w->k e s=some R->Q .normal a w) :
  ∀ (L:List (Nat × Oper)) (rts:List (Option Nat)) (e:Env) (s:St) (a:Act) (w:World),(∀ p ∈ L,ops[p.1]? = some p.2)->(∀ p ∈ L,∀ d,p.2.dst=some d->d<N)->OkX C κ0 w0 B N e s a w->
    opsK C cl dr r f ops.toList (L.map (·.2)) rts e s k=some R->wpOpsIn F 0 P ops Q (L.map (·.1)) a w
 |[],_,_,_,_,_,_,_,hok,hk=>hQ _ _ _ _ hok hk
 |(i,o)::L,rts,e,s,a,w,hL,hd,hok,hk=>by
   have ho:=hL (i,o) Yc
   simp only[Yi,wpOpsIn]
   simp only at ho
   rw[ho]
   exact QfP hT hF hcl hB hG hP (hd (i,o) Yc) hok (λe' s' a' w' h1 h2=>Qe0 hT hF hcl hB hG hP hQ L rts.tail e' s' a' w' (λp hp=>hL p (Yb _ hp)) (λp hp=>hd p (Yb _ hp)) h1 h2) hk
end
end Go.Am
namespace Go.Am
open Go Go.RowKit
def agree(l:List Nat)(e e':Env):Prop:=∀ i ∈ l,e.get i=e'.get i
section
variable {C:Cfg} {e e':Env} {s s':St} {cl:CallFn}
theorem agree.mono{l m:List Nat}(h:agree m e e')(k:∀ i ∈ l,i ∈ m):agree l e e':=λi hi=>h i (k i hi)
theorem Q25{op:Op}(h:agree (tmpsOf op) e e'){x:Operand}(hx:x ∈ op.operands.toList):ent C e x=ent C e' x:=by
 cases x with
 |tmp t=>
   have:e.get t=e'.get t:=h t (List.mem_filterMap.2 ⟨.tmp t,hx,rfl⟩)
   simpa only[ent] using this
 |const v=>rfl
 |global g=>rfl
 |func f=>rfl
theorem Qq{op:Op}(h:agree (tmpsOf op) e e'){x:Operand}(hx:x ∈ op.operands.toList):opnd C e x=opnd C e' x:=by
 cases x with
 |tmp t=>
   have:e.get t=e'.get t:=h t (List.mem_filterMap.2 ⟨.tmp t,hx,rfl⟩)
   simp only[opnd,this]
 |const v=>rfl
 |global g=>rfl
 |func f=>rfl
theorem Q6h{op:Op}(h:agree (tmpsOf op) e e'){l:List Operand}(hl:∀ x ∈ l,x ∈ op.operands.toList):l.map (opnd C e)=l.map (opnd C e'):=
 List.map_congr_left λx hx=>Qq h (hl x hx)
theorem Q6p{op:Op}(h:agree (tmpsOf op) e e')(t:TI):∀ {l:List (Nat × Operand)},(∀ p ∈ l,p.2 ∈ op.operands.toList)->places C e t l=places C e' t l
 |[],_=>rfl
 |(i,x)::r,hl=>by
   simp only[places]
   rw[Q6p h t (l:=r) (λp hp=>hl p (Yb _ hp)),Qq h (hl (i,x) Yc)]
theorem Q3E{op:Op}(h:agree (tmpsOf op) e e'){x:Option Operand}(hx:∀ y,x=some y->y ∈ op.operands.toList):x.map (opnd C e)=x.map (opnd C e'):=by
 cases x with
 |none=>rfl
 |some y=>simp only[Option.map_some,Qq h (hx y rfl)]
theorem Qdm{op:Op}(h:agree (tmpsOf op) e e'):pureS C e op=pureS C e' op:=by
 have ho:=λx hx=>Qq (C:=C) h (x:=x) hx
 cases op<;>try rfl
 case pick c x y=>simp only[pureS,ho c (by simp[Op.operands]),ho x (by simp[Op.operands]),ho y (by simp[Op.operands])]
 case build t ps=>simp only[pureS,Q6p h (C.ti t) (l:=ps.toList) (λp hp=>by simp only[Op.operands,List.mem_map];exact⟨p,hp,rfl⟩)]
 case buildSlice t n ps=>
  have:(ps.toList.map λp=>opnd C e p.2)=ps.toList.map λp=>opnd C e' p.2:=List.map_congr_left λp hp=>ho p.2 (by simp only[Op.operands,List.mem_map];exact⟨p,hp,rfl⟩)
  simp only[pureS,this]
 case binOp op t x y z=>simp only[pureS,ho x (by simp[Op.operands]),ho y (by simp[Op.operands])]
 case unOp op t x=>simp only[pureS,ho x (by simp[Op.operands])]
 case convert a b x=>simp only[pureS,ho x (by simp[Op.operands])]
 case makeInterface t x=>simp only[pureS,ho x (by simp[Op.operands])]
 case makeFunc fn first cap=>
  cases fn<;>try rfl
  simp only[pureS,Q6h h (l:=cap.toList) (λx hx=>by simp only[Op.operands,Array.toList_append,List.mem_append];exact .inr hx)]
 case slice t x lo hi mx=>
  simp only[pureS,ho x (by simp[Op.operands]),Q3E h (x:=lo) (λy hy=>by subst hy;simp[Op.operands]),Q3E h (x:=hi) (λy hy=>by subst hy;simp[Op.operands]),Q3E h (x:=mx) (λy hy=>by subst hy;simp[Op.operands])]
 case field t x f=>simp only[pureS,ho x (by simp[Op.operands])]
 case indexAddr t x i=>simp only[pureS,ho x (by simp[Op.operands]),ho i (by simp[Op.operands])]
 case index t x i=>simp only[pureS,ho x (by simp[Op.operands]),ho i (by simp[Op.operands])]
 case extract x i=>simp only[pureS,ho x (by simp[Op.operands])]
 case call c=>
  obtain⟨cal,ags,ts⟩:=c
  have hm:∀ x ∈ ags.toList,x ∈ (Op.call { callee:=cal,args:=ags,argTypes:=ts }).operands.toList:=λx hx=>by
   simp only[Op.operands,Call.operands]
   cases cal<;>simp_all
  cases cal with
  |builtin b=>
    cases b<;>try rfl
    case len=>
     simp only[pureS]
     split
     ·rename_i x t hx _;rw[ho x (hm x (by rw[hx];simp))]
     ·rfl
    case max=>
     simp only[pureS]
     split
     ·rename_i x y hx;rw[ho x (hm x (by rw[hx];simp)),ho y (hm y (by rw[hx];simp))]
     ·rename_i x y z hx;rw[ho x (hm x (by rw[hx];simp)),ho y (hm y (by rw[hx];simp)),ho z (hm z (by rw[hx];simp))]
     ·rfl
    case min=>
     simp only[pureS]
     split
     ·rename_i x y hx;rw[ho x (hm x (by rw[hx];simp)),ho y (hm y (by rw[hx];simp))]
     ·rfl
  |invoke r n=>rfl
  |value g=>rfl
theorem Q7o{op:Op}(h:agree (tmpsOf op) e e')(w:Bool)(k:Ent->Res):pureK C e w op k=pureK C e' w op k:=by
 have hp:=Qdm (C:=C) h
 cases op<;>first
  |(simp only[pureK,hp];done)
  |skip
 case move x=>simp only[pureK,Qq h (x:=x) (by simp[Op.operands])]
 case assign x=>simp only[pureK,Qq h (x:=x) (by simp[Op.operands])]
 case nilCheck x=>simp only[pureK,Q25 h (x:=x) (by simp[Op.operands])]
 case fieldAddr t x f=>simp only[pureK,Q25 h (x:=x) (by simp[Op.operands])]
def Det{α:Type}(m:(α->Res)->Res):Prop:=(∀ k,m k=none)\/∃ x,∀ k,m k=k x
theorem Q63(r:Option Slot)(g:Slot->Ent):Det λk=>bind1 r λv=>k (g v):=by
 cases r with
 |none=>exact .inl λ_=>rfl
 |some v=>exact .inr ⟨g v,λ_=>rfl⟩
theorem QbL(a b:Bool)(x:Ent):Det λk=>chkP a b λ_=>k x:=by
 unfold chkP
 cases a || !b with
 |false=>exact .inl λ_=>rfl
 |true=>exact .inr ⟨x,λ_=>rfl⟩
theorem Det.congr{α:Type}{m m':(α->Res)->Res}(d:Det m')(h:∀ k,m k=m' k):Det m:=by
 rcases d with d|⟨x,d⟩
 ·exact .inl λk=>(h k).trans (d k)
 ·exact .inr ⟨x,λk=>(h k).trans (d k)⟩
theorem Qar(op:Op)(w:Bool):Det (pureK C e w op):=by
 cases op<;>try exact Q63 _ .s
 case move x=>exact .inr ⟨_,λ_=>rfl⟩
 case assign x=>exact .inr ⟨_,λ_=>rfl⟩
 case nilCheck x=>
  cases hx:ent C e x with
  |none=>exact .inl λk=>by simp only[pureK,hx]
  |s v=>exact (Q63 (gd w (nilCheckV v)) .s).congr λk=>by simp only[pureK,hx]
  |var c=>exact .inl λk=>by simp only[pureK,hx]
  |ptr g d o=>exact (QbL g w (.ptr (g&&w) d o)).congr λk=>by simp only[pureK,hx]
 case fieldAddr t x f=>
  cases hf:structField (C.ti t) f with
  |none=>exact .inl λk=>by simp only[pureK,hf]
  |some p=>
    obtain⟨off,ft⟩:=p
    cases hz:Nat.beq (C.ti ft).size 0 with
    |true=>exact .inl λk=>by simp only[pureK,hf,hz,cond_true]
    |false=>
      cases hx:ent C e x with
      |none=>exact .inl λk=>by simp only[pureK,hf,hz,cond_false,faK,hx]
      |s v=>exact (Q63 (gd w (faV off v)) .s).congr λk=>by simp only[pureK,hf,hz,cond_false,faK,hx]
      |var c=>
        cases ht:Operand.tmp? x with
        |none=>exact .inl λk=>by simp only[pureK,hf,hz,cond_false,faK,hx,ht]
        |some d=>exact .inr ⟨.ptr w d off,λk=>by simp only[pureK,hf,hz,cond_false,faK,hx,ht]⟩
      |ptr g d o=>exact (QbL g w (.ptr (g&&w) d (o+off))).congr λk=>by simp only[pureK,hf,hz,cond_false,faK,hx]
theorem Q8r{op:Op}(h:agree (tmpsOf op) e e'):effM C e s op=effM C e' s op:=by
 have ho:=λx hx=>Qq (C:=C) h (x:=x) hx
 cases op<;>try rfl
 case makeMap t r=>simp only[effM,Q3E h (x:=r) (λy hy=>by subst hy;simp[Op.operands])]
 case mapUpdate t m k x=>simp only[effM,ho m (by simp[Op.operands]),ho k (by simp[Op.operands]),ho x (by simp[Op.operands])]
 case insert t m k x=>simp only[effM,ho m (by simp[Op.operands]),ho k (by simp[Op.operands]),ho x (by simp[Op.operands])]
 case mapEntry t m k=>simp only[effM,ho m (by simp[Op.operands]),ho k (by simp[Op.operands])]
 case entryStore t m k x=>simp only[effM,ho m (by simp[Op.operands]),ho k (by simp[Op.operands]),ho x (by simp[Op.operands])]
 case call c=>
  obtain⟨cal,ags,ts⟩:=c
  have hm:∀ x ∈ ags.toList,x ∈ (Op.call { callee:=cal,args:=ags,argTypes:=ts }).operands.toList:=λx hx=>by
   simp only[Op.operands,Call.operands]
   cases cal<;>simp_all
  cases cal with
  |builtin b=>
    cases b<;>try rfl
    case delete=>
     simp only[effM]
     split
     ·rename_i x y _ _ hx _;rw[ho x (hm x (by rw[hx];simp)),ho y (hm y (by rw[hx];simp))]
     ·rfl
  |invoke r n=>rfl
  |value g=>rfl
theorem Q4z(n:Nat):(rootD n = .d n/\noRt (some n)=false)\/(rootD n = .nw/\noRt (some n)=true)\/(rootD n = .old/\noRt (some n)=true):=by
 have h:noRt (some n)=(Nat.beq n 100000 || Nat.beq n 100001):=rfl
 rw[h]
 unfold rootD
 generalize Nat.beq n 100000=x
 generalize Nat.beq n 100001=y
 cases x<;>cases y<;>simp
theorem QfC{t:TI}{r:Bool}{rt:Option Nat}{x:Operand}{ty:TypeId}(h:agree (tmpsOf (.load ty x)) e e')(hr:agree rt.toList e e'):ldS t r (rootOf true [rt]) (Operand.tmp? x) e s (ent C e x)=ldS t r (rootOf true [rt]) (Operand.tmp? x) e' s (ent C e' x):=by
 rw[Q25 h (x:=x) (by simp[Op.operands])]
 unfold ldS
 cases hok:rootOk (rootOf true [rt]) (Operand.tmp? x) (ent C e' x) with
 |false=>rfl
 |true=>
   simp only[cond_true]
   cases hx:ent C e' x with
   |none=>rfl
   |s v=>rfl
   |var c=>rfl
   |ptr g d o=>
     simp only[]
     rw[hx] at hok
     cases rt with
     |none=>simp[rootOf,rootOk] at hok
     |some n=>
       rcases Q4z n with ⟨hn,_⟩|⟨hn,_⟩|⟨hn,_⟩<;>simp only[rootOf,cond_true,hn,rootOk] at hok
       ·have:=Yf hok
        subst this
        rw[hr d (by simp)]
       ·cases hok
       ·cases hok
theorem Qkn{t:TI}{r:Bool}{rt:Option Nat}{x:Operand}(hef:(!r&&noRt rt)=false):ldS t r (rootOf true [rt]) (Operand.tmp? x) e s (ent C e x)=ldS t r (rootOf true [rt]) (Operand.tmp? x) e s' (ent C e x):=by
 unfold ldS
 cases hok:rootOk (rootOf true [rt]) (Operand.tmp? x) (ent C e x) with
 |false=>rfl
 |true=>
   simp only[cond_true]
   cases hx:ent C e x with
   |none=>rfl
   |s v=>
     rw[hx] at hok
     have hrt:noRt rt=true:=by
      cases rt with
      |none=>rfl
      |some n=>rcases Q4z n with ⟨hn,_⟩|⟨_,hn⟩|⟨_,hn⟩<;>first|exact hn|(simp only[rootOf,cond_true,hn,rootOk] at hok;cases hok)
     have hr:r=true:=by rw[hrt] at hef;simpa using hef
     subst hr
     simp only[ldV]
     cases v<;>try rfl
   |var c=>rfl
   |ptr g d o=>rfl
theorem Qdn{r:Bool}{rt:Option Nat}{op:Op}(h:agree (tmpsOf op) e e')(hr:agree rt.toList e e'):readS C r (rootOf true [rt]) e s op=readS C r (rootOf true [rt]) e' s op:=by
 cases op<;>try rfl
 case load t x=>exact QfC h hr
 case lookup t x i ok=>simp only[readS,Qq h (x:=x) (by simp[Op.operands]),Qq h (x:=i) (by simp[Op.operands])]
 case call c=>
  obtain⟨cal,ags,ts⟩:=c
  have hm:∀ x ∈ ags.toList,x ∈ (Op.call { callee:=cal,args:=ags,argTypes:=ts }).operands.toList:=λx hx=>by
   simp only[Op.operands,Call.operands]
   cases cal<;>simp_all
  cases cal with
  |builtin b=>
    cases b<;>try rfl
    case len=>
     simp only[readS]
     split
     ·rename_i x t hx _;rw[Qq h (hm x (by rw[hx];simp))]
     ·rfl
  |invoke r n=>rfl
  |value g=>rfl
def FrmK(l ws:List Nat)(ef:Bool)(e:Env)(s:St)(m:Env->St->(Ent->Env->St->Res)->Res):Prop:=
 (∀ e' s',agree l e e'->(ef=true->s'=s)->∀ k,m e' s' k=none)\/∃ (x:Ent) (u:List (Nat × Ent)) (g:St->St),(∀ p ∈ u,p.1 ∈ ws)/\(ef=false->∀ s',g s'=s')/\∀ e' s',agree l e e'->(ef=true->s'=s)->∀ k,m e' s' k=k x (u++e') (g s')
section
variable {l ws:List Nat} {ef:Bool} {m:Env->St->(Ent->Env->St->Res)->Res}
theorem FrmK.no(h:∀ e' s',agree l e e'->(ef=true->s'=s)->∀ k,m e' s' k=none):FrmK l ws ef e s m:=.inl h
theorem FrmK.val(x:Ent)(h:∀ e' s',agree l e e'->(ef=true->s'=s)->∀ k,m e' s' k=k x e' s'):FrmK l ws ef e s m:=
 .inr ⟨x,[],λs'=>s',by simp,λ_ _=>rfl,λe' s' h1 h2 k=>h e' s' h1 h2 k⟩
theorem FrmK.st(x:Ent)(s1:St)(he:ef=true)(h:∀ e',agree l e e'->∀ k,m e' s k=k x e' s1):FrmK l ws ef e s m:=
 .inr ⟨x,[],λ_=>s1,by simp,λh=>(by rw[he] at h;cases h),λe' s' h1 h2 k=>by rw[h2 he];exact h e' h1 k⟩
theorem FrmK.set(x:Ent)(d:Nat)(y:Ent)(hd:d ∈ ws)(h:∀ e' s',agree l e e'->(ef=true->s'=s)->∀ k,m e' s' k=k x ((d,y)::e') s'):FrmK l ws ef e s m:=
 .inr ⟨x,[(d,y)],λs'=>s',by simpa using hd,λ_ _=>rfl,λe' s' h1 h2 k=>h e' s' h1 h2 k⟩
end
theorem QdY{f:FuncId}{o:Oper}{l ws:List Nat}{t:TypeId}{cs:List Slot}{m:Env->St->(Ent->Env->St->Res)->Res}(hl:∀ d,o.dst=some d->d ∈ l)
  (hm:∀ e' s',agree l e e'->∀ k,m e' s' k=newS (dstMode C f o) t cs (dstOld e' o) s' (λv s=>k v e' s)):FrmK l ws (dstMode C f o).isLoc e s m:=by
 cases hmode:dstMode C f o with
 |tl=>
   cases hc:cs.isEmpty with
   |true=>exact .no λe' s' h _ k=>by rw[hm e' s' h k,hmode];simp only[newS,hc];rfl
   |false=>exact .st (.s (.val (.vp s.locs.length 0))) (s.addLocT (.var cs) t) rfl λe' h k=>by rw[hm e' s h k,hmode];simp only[newS,hc];rfl
 |loc=>exact .st (.s (.val (.vp s.locs.length 0))) (s.addLoc (.var cs)) rfl λe' h k=>by rw[hm e' s h k,hmode];rfl
 |con=>
   cases ha:avs cs with
   |none=>exact .no λe' s' h _ k=>by rw[hm e' s' h k,hmode];simp only[newS,ha];rfl
   |some v=>exact .val (.s (.val (.cp v))) λe' s' h _ k=>by rw[hm e' s' h k,hmode];simp only[newS,ha];rfl
 |var=>
   have hold:∀ e',agree l e e'->dstOld e' o=dstOld e o:=λe' h=>by
    unfold dstOld
    cases hd:o.dst with
    |none=>rfl
    |some d=>exact (h d (hl d hd)).symm
   cases ho:dstOld e o with
   |none=>exact .val (.var cs) λe' s' h _ k=>by rw[hm e' s' h k,hmode,hold e' h,ho];rfl
   |s v=>exact .no λe' s' h _ k=>by rw[hm e' s' h k,hmode,hold e' h,ho];rfl
   |var c=>exact .no λe' s' h _ k=>by rw[hm e' s' h k,hmode,hold e' h,ho];rfl
   |ptr g d off=>exact .no λe' s' h _ k=>by rw[hm e' s' h k,hmode,hold e' h,ho];rfl
theorem QgL{r:Bool}{f:FuncId}{rt:Option Nat}{all:List Oper}{o:Oper}{w:Bool}(hnp:isPureO C f o=false)(hnr:isRead o.op=false) :
  FrmK (rdO all o rt) (wrO o rt) (efO C r f o rt) e s (λe s k=>effK C cl true f o (rootOf true [rt]) w e s k):=by
 have h1:∀ e',agree (rdO all o rt) e e'->agree (tmpsOf o.op) e e':=λe' h=>h.mono λi hi=>Ym _ hi
 have h2:∀ e',agree (rdO all o rt) e e'->agree rt.toList e e':=λe' h=>h.mono λi hi=>Yq _ (Yq _ (Ym _ hi))
 have h3:∀ d,o.dst=some d->d ∈ rdO all o rt:=λd hd=>Yq _ (Yq _ (Yq _ (by rw[hd];simp)))
 obtain⟨dst,op,ty,after,ph,guard⟩:=o
 simp only at hnr h1 h2 h3
 have dflt:efO C r f ⟨dst,op,ty,after,ph,guard⟩ rt=true->(∀ e s k,effK C cl true f ⟨dst,op,ty,after,ph,guard⟩ (rootOf true [rt]) w e s k=bif w then bind2 (effM C e s op) (λv s=>k (.s v) e s) else k (.s .no) e s)->FrmK (rdO all ⟨dst,op,ty,after,ph,guard⟩ rt) (wrO ⟨dst,op,ty,after,ph,guard⟩ rt) (efO C r f ⟨dst,op,ty,after,ph,guard⟩ rt) e s (λe s k=>effK C cl true f ⟨dst,op,ty,after,ph,guard⟩ (rootOf true [rt]) w e s k):=λhef heq=>by
  cases w with
  |true=>
    cases hm:effM C e s op with
    |none=>exact .no λe' s' h hs' k=>by rw[heq e' s' k,hs' hef,<-Q8r (h1 e' h),hm];rfl
    |some p=>exact .st (.s p.1) p.2 hef λe' h k=>by rw[heq e' s k,<-Q8r (h1 e' h),hm];rfl
  |false=>exact .val (.s .no) λe' s' _ _ k=>heq e' s' k
 have hfalse:(∀ g ags ts,op≠.call { callee:=.value g,args:=ags,argTypes:=ts })->w=false->∀ e s k,effK C cl true f ⟨dst,op,ty,after,ph,guard⟩ (rootOf true [rt]) w e s k=k (.s .no) e s:=λhop hw e s k=>by
  subst hw
  unfold effK
  split
  ·rename_i g ags ts ho;exact absurd ho (hop g ags ts)
  ·rfl
 cases op<;>try first
  |(cases hnr;done)
  |exact dflt (by simp[efO,hnp]) (λ_ _ _=>rfl)
 case alloc t=>
  cases w with
  |false=>exact .val (.s .no) λe' s' _ _ k=>hfalse (by intros;simp) rfl e' s' k
  |true=>
    cases hg:(C.ti t).isGood with
    |false=>exact .no λe' s' _ _ k=>by simp only[effK,cond_true,hg,cond_false]
    |true=>exact QdY (e:=e) (s:=s) (t:=t) (cs:=(C.ti t).zero.map .val) h3 λe' s' _ k=>by simp only[effK,cond_true,hg]
 case box t x=>
  cases w with
  |false=>exact .val (.s .no) λe' s' _ _ k=>hfalse (by intros;simp) rfl e' s' k
  |true=>
    have hx:∀ e',agree (rdO all ⟨dst,.box t x,ty,after,ph,guard⟩ rt) e e'->opnd C e' x=opnd C e x:=λe' h=>(Qq (h1 e' h) (by simp[Op.operands])).symm
    cases hb:boxCells (C.ti t) (opnd C e x) with
    |none=>exact .no λe' s' h _ k=>by simp only[effK,cond_true,hx e' h,hb];rfl
    |some cs=>exact QdY (e:=e) (s:=s) (t:=t) (cs:=cs) h3 λe' s' h k=>by simp only[effK,cond_true,hx e' h,hb];rfl
 case store t x y=>
  cases w with
  |false=>exact .val (.s .no) λe' s' _ _ k=>hfalse (by intros;simp) rfl e' s' k
  |true=>
    have hy:∀ e',agree (rdO all ⟨dst,.store t x y,ty,after,ph,guard⟩ rt) e e'->opnd C e' y=opnd C e y:=λe' h=>(Qq (h1 e' h) (by simp[Op.operands])).symm
    have hx:∀ e',agree (rdO all ⟨dst,.store t x y,ty,after,ph,guard⟩ rt) e e'->ent C e' x=ent C e x:=λe' h=>(Q25 (h1 e' h) (by simp[Op.operands])).symm
    cases hb:boxCells (C.ti t) (opnd C e y) with
    |none=>exact .no λe' s' h _ k=>by simp only[effK,cond_true,hy e' h,hb];rfl
    |some cs=>
      have heq:∀ e' s',agree (rdO all ⟨dst,.store t x y,ty,after,ph,guard⟩ rt) e e'->∀ k,effK C cl true f ⟨dst,.store t x y,ty,after,ph,guard⟩ (rootOf true [rt]) true e' s' k=stS (rootOf true [rt]) (Operand.tmp? x) e' s' (ent C e x) cs (λe s=>k (.s .no) e s):=λe' s' h k=>by
       simp only[effK,cond_true,hy e' h,hx e' h,hb];rfl
      cases hok:rootOk (rootOf true [rt]) (Operand.tmp? x) (ent C e x) with
      |false=>exact .no λe' s' h _ k=>by rw[heq e' s' h k];simp only[stS,hok,cond_false]
      |true=>
        have heq2:∀ e' s',agree (rdO all ⟨dst,.store t x y,ty,after,ph,guard⟩ rt) e e'->∀ k,effK C cl true f ⟨dst,.store t x y,ty,after,ph,guard⟩ (rootOf true [rt]) true e' s' k=(match ent C e x with
         |.var l=>match Operand.tmp? x with
           |some d=>bindL (putAt l 0 cs) λl'=>k (.s .no) ((d,.var l')::e') s'
           |none=>none
         |.ptr w d off=>match e'.get d with
           |.var l=>bindL (bif w then putAt l off cs else none) λl'=>k (.s .no) ((d,.var l')::e') s'
           |_=>none
         |.s v=>bif nwOk (rootOf true [rt]) s' v then (bindS (stV s' v cs) λs=>k (.s .no) e' s) else none
         |.none=>none):=λe' s' h k=>by rw[heq e' s' h k];simp only[stS,hok,cond_true];rfl
        have free_:noRt rt=true->(∀ c,rootOk (rootOf true [rt]) (Operand.tmp? x) (.var c)=false)->(∀ g d o,rootOk (rootOf true [rt]) (Operand.tmp? x) (.ptr g d o)=false)->FrmK (rdO all ⟨dst,.store t x y,ty,after,ph,guard⟩ rt) (wrO ⟨dst,.store t x y,ty,after,ph,guard⟩ rt) (efO C r f ⟨dst,.store t x y,ty,after,ph,guard⟩ rt) e s (λe s k=>effK C cl true f ⟨dst,.store t x y,ty,after,ph,guard⟩ (rootOf true [rt]) true e s k):=by
         intro hrt hv hp
         have hef:efO C r f ⟨dst,.store t x y,ty,after,ph,guard⟩ rt=true:=hrt
         cases he:ent C e x with
         |none=>exact .no λe' s' h _ k=>by rw[heq2 e' s' h k,he]
         |var c=>rw[he,hv] at hok;cases hok
         |ptr g d off=>rw[he,hp] at hok;cases hok
         |s v=>
           cases hw:nwOk (rootOf true [rt]) s v with
           |false=>exact .no λe' s' h hs' k=>by rw[heq2 e' s' h k,he,hs' hef];simp only[hw,cond_false]
           |true=>
           cases hs:stV s v cs with
           |none=>exact .no λe' s' h hs' k=>by rw[heq2 e' s' h k,he,hs' hef];simp only[hw,cond_true,hs];rfl
           |some s1=>exact .st (.s .no) s1 hef λe' h k=>by rw[heq2 e' s h k,he];simp only[hw,cond_true,hs];rfl
        cases rt with
        |none=>exact free_ rfl (λ_=>rfl) (λ_ _ _=>rfl)
        |some n=>
          rcases Q4z n with ⟨hrn,_⟩|⟨hrn,hrt⟩|⟨hrn,hrt⟩
          rotate_left
          ·exact free_ hrt (λ_=>by simp only[rootOf,cond_true,hrn,rootOk]) (λ_ _ _=>by simp only[rootOf,cond_true,hrn,rootOk])
          ·exact free_ hrt (λ_=>by simp only[rootOf,cond_true,hrn,rootOk]) (λ_ _ _=>by simp only[rootOf,cond_true,hrn,rootOk])
          have hn:n ∈ wrO ⟨dst,.store t x y,ty,after,ph,guard⟩ (some n):=by simp[wrO,isStore]
          cases he:ent C e x with
          |none=>exact .no λe' s' h _ k=>by rw[heq2 e' s' h k,he]
          |s v=>rw[he] at hok;simp only[rootOf,cond_true,hrn,rootOk] at hok;cases hok
          |var c=>
            rw[he] at hok
            cases ht:Operand.tmp? x with
            |none=>exact .no λe' s' h _ k=>by rw[heq2 e' s' h k,he];simp only[ht]
            |some d=>
              rw[ht] at hok
              simp only[rootOf,cond_true,hrn,rootOk] at hok
              have:=Yf hok
              subst this
              cases hp:putAt c 0 cs with
              |none=>exact .no λe' s' h _ k=>by rw[heq2 e' s' h k,he];simp only[ht,hp];rfl
              |some l'=>exact .set (.s .no) d (.var l') hn λe' s' h _ k=>by rw[heq2 e' s' h k,he];simp only[ht,hp];rfl
          |ptr g d off=>
            rw[he] at hok
            simp only[rootOf,cond_true,hrn,rootOk] at hok
            have:=Yf hok
            subst this
            have hget:∀ e',agree (rdO all ⟨dst,.store t x y,ty,after,ph,guard⟩ (some d)) e e'->e'.get d=e.get d:=λe' h=>(h2 e' h d (by simp)).symm
            cases hd:e.get d with
            |var c=>
              cases hp:(bif g then putAt c off cs else none) with
              |none=>exact .no λe' s' h _ k=>by rw[heq2 e' s' h k,he];simp only[hget e' h,hd,hp];rfl
              |some l'=>exact .set (.s .no) d (.var l') hn λe' s' h _ k=>by rw[heq2 e' s' h k,he];simp only[hget e' h,hd,hp];rfl
            |none=>exact .no λe' s' h _ k=>by rw[heq2 e' s' h k,he];simp only[hget e' h,hd]
            |s v=>exact .no λe' s' h _ k=>by rw[heq2 e' s' h k,he];simp only[hget e' h,hd]
            |ptr g' d' off'=>exact .no λe' s' h _ k=>by rw[heq2 e' s' h k,he];simp only[hget e' h,hd]
 case makeSlice t x y=>
  cases w with
  |false=>exact .val (.s .no) λe' s' _ _ k=>hfalse (by intros;simp) rfl e' s' k
  |true=>
    have hx:∀ e',agree (rdO all ⟨dst,.makeSlice t x y,ty,after,ph,guard⟩ rt) e e'->opnd C e' x=opnd C e x:=λe' h=>(Qq (h1 e' h) (by simp[Op.operands])).symm
    have hy:∀ e',agree (rdO all ⟨dst,.makeSlice t x y,ty,after,ph,guard⟩ rt) e e'->opnd C e' y=opnd C e y:=λe' h=>(Qq (h1 e' h) (by simp[Op.operands])).symm
    cases hk:(C.ti t).k
    case slice et=>
     cases hloc:(dstMode C f ⟨dst,.makeSlice t x y,ty,after,ph,guard⟩).isLoc with
     |true=>
       cases hm:makeV et (C.ti et) s (opnd C e x) (opnd C e y) with
       |none=>exact .no λe' s' h hs' k=>by simp only[effK,cond_true,hk,hloc,hx e' h,hy e' h,hs' rfl,hm];rfl
       |some p=>exact .st (.s p.1) p.2 rfl λe' h k=>by simp only[effK,cond_true,hk,hloc,hx e' h,hy e' h,hm];rfl
     |false=>
     cases hm:makeS et (C.ti et) s (opnd C e x) (opnd C e y) with
     |none=>exact .no λe' s' h hs' k=>by simp only[effK,cond_true,cond_false,hk,hloc,hx e' h,hy e' h,hs' rfl,hm];rfl
     |some p=>exact .st (.s p.1) p.2 rfl λe' h k=>by simp only[effK,cond_true,cond_false,hk,hloc,hx e' h,hy e' h,hm];rfl
    all_goals exact .no λe' s' _ _ k=>by simp only[effK,cond_true,hk]
 case buildSlice t n ps=>
  cases w with
  |false=>exact .val (.s .no) λe' s' _ _ k=>hfalse (by intros;simp) rfl e' s' k
  |true=>
    have hef:efO C r f ⟨dst,.buildSlice t n ps,ty,after,ph,guard⟩ rt=true:=by simp[efO,hnp]
    have hx:∀ e',agree (rdO all ⟨dst,.buildSlice t n ps,ty,after,ph,guard⟩ rt) e e'->(ps.toList.map λp=>opnd C e' p.2)=(ps.toList.map λp=>opnd C e p.2):=λe' h=>
     List.map_congr_left λp hp=>(Qq (h1 e' h) (by simp[Op.operands];exact⟨p.1,Array.mem_toList_iff.1 hp⟩)).symm
    cases hk:(C.ti t).k
    case slice et=>
     cases hb:(inOrder 0 ps.toList&&Nat.beq ps.toList.length n&&Nat.ble (n*(C.ti et).size) 16777216&&Nat.blt 0 (C.ti et).size) with
     |false=>exact .no λe' s' _ _ k=>by simp only[effK,cond_true,hk,hb,cond_false]
     |true=>
       cases hm:bslV et (C.ti et) s (ps.toList.map λp=>opnd C e p.2) with
       |none=>exact .no λe' s' h hs' k=>by simp only[effK,cond_true,hk,hb,hx e' h,hs' hef,hm];rfl
       |some p=>exact .st (.s p.1) p.2 hef λe' h k=>by simp only[effK,cond_true,hk,hb,hx e' h,hm];rfl
    all_goals exact .no λe' s' _ _ k=>by simp only[effK,cond_true,hk]
 case call c=>
  obtain⟨cal',ags,ts⟩:=c
  have hm:∀ x ∈ ags.toList,x ∈ (Op.call { callee:=cal',args:=ags,argTypes:=ts }).operands.toList:=λx hx=>by
   simp only[Op.operands,Call.operands]
   cases cal'<;>simp_all
  have hef:efO C r f ⟨dst,.call { callee:=cal',args:=ags,argTypes:=ts },ty,after,ph,guard⟩ rt=true:=by simp[efO,hnp]
  cases cal' with
  |invoke rc nm=>exact dflt hef (λ_ _ _=>rfl)
  |value g=>
    have hg:∀ e',agree (rdO all ⟨dst,.call { callee:=.value g,args:=ags,argTypes:=ts },ty,after,ph,guard⟩ rt) e e'->opnd C e' g=opnd C e g:=λe' h=>(Qq (h1 e' h) (by simp[Op.operands,Call.operands])).symm
    have ha:∀ e',agree (rdO all ⟨dst,.call { callee:=.value g,args:=ags,argTypes:=ts },ty,after,ph,guard⟩ rt) e e'->ags.toList.map (opnd C e')=ags.toList.map (opnd C e):=λe' h=>(Q6h (h1 e' h) hm).symm
    cases hr:noPan (cal cl w (tgtV (opnd C e g) (ags.toList.map (opnd C e))) s) with
    |none=>exact .no λe' s' h hs' k=>by simp only[effK,cond_true,hg e' h,ha e' h,hs' hef,hr];rfl
    |some p=>
      obtain⟨v,s1⟩:=p
      cases v with
      |pan v=>
        unfold noPan at hr
        split at hr
        ·cases hr
        ·cases hr
      |ret v=>exact .st (.s v) s1 hef λe' h k=>by simp only[effK,cond_true,hg e' h,ha e' h,hr];rfl
  |builtin b=>
    cases b<;>try exact dflt hef (λ_ _ _=>rfl)
    case append=>
     cases w with
     |false=>exact .val (.s .no) λe' s' _ _ k=>hfalse (by intros;simp) rfl e' s' k
     |true=>
       have none_:(∀ e' s' k,effK C cl true f ⟨dst,.call { callee:=.builtin .append,args:=ags,argTypes:=ts },ty,after,ph,guard⟩ (rootOf true [rt]) true e' s' k=none)->FrmK (rdO all ⟨dst,.call { callee:=.builtin .append,args:=ags,argTypes:=ts },ty,after,ph,guard⟩ rt) (wrO ⟨dst,.call { callee:=.builtin .append,args:=ags,argTypes:=ts },ty,after,ph,guard⟩ rt) (efO C r f ⟨dst,.call { callee:=.builtin .append,args:=ags,argTypes:=ts },ty,after,ph,guard⟩ rt) e s (λe s k=>effK C cl true f ⟨dst,.call { callee:=.builtin .append,args:=ags,argTypes:=ts },ty,after,ph,guard⟩ (rootOf true [rt]) true e s k):=λh=>.no λe' s' _ _ k=>h e' s' k
       rcases has:ags.toList with _|⟨x,_|⟨y,_|⟨z,q⟩⟩⟩
       ·exact none_ λe' s' k=>by simp only[effK,cond_true,has]
       ·exact none_ λe' s' k=>by simp only[effK,cond_true,has]
       rotate_left
       ·exact none_ λe' s' k=>by simp only[effK,cond_true,has]
       rcases hts:ts.toList with _|⟨t,_|⟨u,_|⟨z,q⟩⟩⟩
       ·exact none_ λe' s' k=>by simp only[effK,cond_true,has,hts]
       ·exact none_ λe' s' k=>by simp only[effK,cond_true,has,hts]
       rotate_left
       ·exact none_ λe' s' k=>by simp only[effK,cond_true,has,hts]
       have hx:∀ e',agree (rdO all ⟨dst,.call { callee:=.builtin .append,args:=ags,argTypes:=ts },ty,after,ph,guard⟩ rt) e e'->opnd C e' x=opnd C e x:=λe' h=>(Qq (h1 e' h) (hm x (by rw[has];simp))).symm
       have hy:∀ e',agree (rdO all ⟨dst,.call { callee:=.builtin .append,args:=ags,argTypes:=ts },ty,after,ph,guard⟩ rt) e e'->opnd C e' y=opnd C e y:=λe' h=>(Qq (h1 e' h) (hm y (by rw[has];simp))).symm
       cases hk:(C.ti t).k
       case slice et=>
        cases hb:Nat.beq t u with
        |false=>
          cases ham:appendX C et u s (opnd C e x) (opnd C e y) with
          |none=>exact .no λe' s' h hs' k=>by simp only[effK,cond_true,has,hts,hk,hb,hx e' h,hy e' h,hs' hef,ham];rfl
          |some p=>exact .st (.s p.1) p.2 hef λe' h k=>by simp only[effK,cond_true,has,hts,hk,hb,hx e' h,hy e' h,ham];rfl
        |true=>
          cases hloc:(dstMode C f ⟨dst,.call { callee:=.builtin .append,args:=ags,argTypes:=ts },ty,after,ph,guard⟩).isLoc with
          |true=>
            cases ham:appendV et (C.ti et) s (opnd C e x) (opnd C e y) with
            |none=>exact .no λe' s' h hs' k=>by simp only[effK,cond_true,has,hts,hk,hb,hloc,hx e' h,hy e' h,hs' hef,ham];rfl
            |some p=>exact .st (.s p.1) p.2 hef λe' h k=>by simp only[effK,cond_true,has,hts,hk,hb,hloc,hx e' h,hy e' h,ham];rfl
          |false=>
          cases ham:appendS et (C.ti et) s (opnd C e x) (opnd C e y) with
          |none=>exact .no λe' s' h hs' k=>by simp only[effK,cond_true,cond_false,has,hts,hk,hb,hloc,hx e' h,hy e' h,hs' hef,ham];rfl
          |some p=>exact .st (.s p.1) p.2 hef λe' h k=>by simp only[effK,cond_true,cond_false,has,hts,hk,hb,hloc,hx e' h,hy e' h,ham];rfl
       all_goals exact none_ λe' s' k=>by simp only[effK,cond_true,has,hts,hk]
theorem Qhh{r:Bool}{f:FuncId}{rt:Option Nat}{o:Oper}(hef:efO C r f o rt=false):readS C r (rootOf true [rt]) e s o.op=readS C r (rootOf true [rt]) e s' o.op:=by
 unfold efO isPureO at hef
 cases hop:o.op<;>rw[hop] at hef<;>try rfl
 case load t x=>exact Qkn hef
 case lookup t x i ok=>simp[isPure] at hef
 case call c=>
  obtain⟨cal,ags,ts⟩:=c
  cases cal with
  |builtin b=>
    cases b<;>try rfl
    case len=>
     simp only[readS]
     split
     ·rename_i x t _ hts
      simp only[Bool.not_eq_eq_eq_not,Bool.not_false,isPure,hts] at hef
      have:isMap (C.ti t)=false:=by simp at hef;exact hef.1
      rw[this];rfl
     ·rfl
  |invoke r n=>rfl
  |value g=>rfl
end
end Go.Am
namespace Go.Am
open Go Go.RowKit
section
variable {C:Cfg} {e e':Env} {s s':St} {cl:CallFn} {r:Bool} {f:FuncId} {all:List Oper}
abbrev one(C:Cfg)(cl:CallFn)(r:Bool)(f:FuncId)(all:List Oper)(p:Oper × Option Nat)(e:Env)(s:St)(k:Env->St->Res):Res:=opsK C cl true r f all [p.1] [p.2] e s k
def FrmO(l ws:List Nat)(ef we:Bool)(e:Env)(s:St)(m:Env->St->(Env->St->Res)->Res):Prop:=
 (∀ e' s',agree l e e'->(ef=true->s'=s)->∀ k,m e' s' k=none)\/∃ (u:List (Nat × Ent)) (g:St->St),(∀ p ∈ u,p.1 ∈ ws)/\(we=false->∀ s',g s'=s')/\∀ e' s',agree l e e'->(ef=true->s'=s)->∀ k,m e' s' k=k (u++e') (g s')
theorem Q7y{g:Option (Nat × Bool)}(h:agree (gtmp all g) e e'):wants all e' g=wants all e g:=by
 cases g with
 |none=>rfl
 |some p=>
   obtain⟨j,want⟩:=p
   unfold wants gtmp at *
   cases hj:all[j]? with
   |none=>simp only[hj]
   |some o=>
     simp only[hj] at h |-
     cases hd:o.dst with
     |none=>rfl
     |some d=>
       simp only[]
       rw[h d (by rw[hd];simp)]
def ups(d:Option Tmp)(x:Ent):List (Nat × Ent):=match d with|some d=>[(d,x)] | none=>[]
theorem Q17(d:Option Tmp)(x:Ent)(e:Env):put d x e=ups d x++e:=by cases d<;>rfl
theorem Q2S{d:Option Tmp}{x:Ent}{ws:List Nat}(h:∀ i ∈ d.toList,i ∈ ws):∀ p ∈ ups d x,p.1 ∈ ws:=by
 cases d with
 |none=>simp[ups]
 |some d=>simpa [ups] using h d (by simp)
theorem QdH:∀ {l:List Slot} {m:List AV},avs l=some m->m.length=l.length
 |[],m,h=>by cases h;rfl
 |x::l,m,h=>by
   cases hx:x.av with
   |none=>simp[avs,hx] at h
   |some v=>
     cases hl:avs l with
     |none=>simp[avs,hx,hl] at h
     |some r=>
       simp only[avs,hx,hl] at h
       cases h
       simp[QdH hl]
theorem Qhg(hq:QuietOK C cl){F:FuncId}{xs:List Slot}(h:C.quiet F xs.length=true){w:Bool}{s1:St}{o:Out}(hr:noPan (cal cl w (tgtV (.val (.fn F [])) xs) s)=some (o,s1)):s1=s:=by
 cases w with
 |false=>simp only[cal,cond_false,noPan] at hr;cases hr;rfl
 |true=>
   cases ha:avs xs with
   |none=>simp only[cal,cond_true,tgtV,ha,noPan] at hr;cases hr
   |some m=>
     simp only[cal,cond_true,tgtV,ha,List.append_nil] at hr
     cases hc:cl (.f F) m s with
     |none=>rw[hc] at hr;cases hr
     |some p=>
       obtain⟨o1,s2⟩:=p
       have:=hq F _ h m s o1 s2 (QdH ha) hc
       rw[hc] at hr
       cases o1 with
       |ret v=>simp only[noPan] at hr;cases hr;exact this
       |pan v=>simp only[noPan] at hr;cases hr
theorem Q4S(hq:QuietOK C cl)(p:Oper × Option Nat):FrmO (rdO all p.1 p.2) (wrO p.1 p.2) (efO C r f p.1 p.2) (weO C r f p.1 p.2) e s (one C cl r f all p):=by
 obtain⟨o,rt⟩:=p
 have h1:∀ e',agree (rdO all o rt) e e'->agree (tmpsOf o.op) e e':=λe' h=>h.mono λi hi=>Ym _ hi
 have h2:∀ e',agree (rdO all o rt) e e'->agree rt.toList e e':=λe' h=>h.mono λi hi=>Yq _ (Yq _ (Ym _ hi))
 have h3:∀ e',agree (rdO all o rt) e e'->agree (gtmp all o.guard) e e':=λe' h=>h.mono λi hi=>Yq _ (Ym _ hi)
 have hk:∀ i ∈ o.dst.toList,i ∈ wrO o rt:=λi hi=>Ym _ hi
 have heq:∀ e' s' k,one C cl r f all (o,rt) e' s' k=bindB (wants all e' o.guard) λw=>
   bif isPureO C f o then pureK C e' w o.op (λv=>k (put o.dst v e') s')
   else bif isRead o.op then bind1 (gd w (readS C r (rootOf true [rt]) e' s' o.op)) (λv=>k (put o.dst (.s v) e') s')
   else effK C cl true f o (rootOf true [rt]) w e' s' (λv e s=>k (put o.dst v e) s):=λ_ _ _=>rfl
 cases hw:wants all e o.guard with
 |none=>exact .inl λe' s' h _ k=>by rw[heq,Q7y (h3 e' h),hw];rfl
 |some w=>
   have heq2:∀ e',agree (rdO all o rt) e e'->∀ s' k,one C cl r f all (o,rt) e' s' k=(
    bif isPureO C f o then pureK C e' w o.op (λv=>k (put o.dst v e') s')
    else bif isRead o.op then bind1 (gd w (readS C r (rootOf true [rt]) e' s' o.op)) (λv=>k (put o.dst (.s v) e') s')
    else effK C cl true f o (rootOf true [rt]) w e' s' (λv e s=>k (put o.dst v e) s)):=λe' h s' k=>by rw[heq,Q7y (h3 e' h),hw];rfl
   cases hp:isPureO C f o with
   |true=>
     rcases Qar (C:=C) (e:=e) o.op w with hd|⟨x,hd⟩
     ·exact .inl λe' s' h _ k=>by rw[heq2 e' h,hp,cond_true,<-Q7o (h1 e' h),hd]
     ·exact .inr ⟨ups o.dst x,λs=>s,Q2S hk,λ_ _=>rfl,λe' s' h _ k=>by rw[heq2 e' h,hp,cond_true,<-Q7o (h1 e' h),hd,Q17]⟩
   |false=>
     cases hr:isRead o.op with
     |true=>
       have hread:∀ e',agree (rdO all o rt) e e'->∀ s',(efO C r f o rt=true->s'=s)->readS C r (rootOf true [rt]) e' s' o.op=readS C r (rootOf true [rt]) e s o.op:=λe' h s' hs=>by
        rw[<-Qdn (s:=s') (h1 e' h) (h2 e' h)]
        cases hef:efO C r f o rt with
        |true=>rw[hs hef]
        |false=>exact Qhh hef
       cases hg:gd w (readS C r (rootOf true [rt]) e s o.op) with
       |none=>exact .inl λe' s' h hs k=>by rw[heq2 e' h,hp,cond_false,hr,cond_true,hread e' h s' hs,hg];rfl
       |some v=>exact .inr ⟨ups o.dst (.s v),λs=>s,Q2S hk,λ_ _=>rfl,λe' s' h hs k=>by rw[heq2 e' h,hp,cond_false,hr,cond_true,hread e' h s' hs,hg,<-Q17];rfl⟩
     |false=>
       cases hqt:isQuiet C o.op with
       |true=>
         obtain⟨dst,op,ty,after,ph,guard⟩:=o
         simp only at hqt hr h1 h2 h3 hk heq heq2 hp hw
         unfold isQuiet at hqt
         split at hqt
         ·rename_i F ags ts
          have hef:efO C r f ⟨dst,.call { callee:=.value (.func F),args:=ags,argTypes:=ts },ty,after,ph,guard⟩ rt=true:=by simp[efO,hp]
          have ha:∀ e',agree (rdO all ⟨dst,.call { callee:=.value (.func F),args:=ags,argTypes:=ts },ty,after,ph,guard⟩ rt) e e'->ags.toList.map (opnd C e')=ags.toList.map (opnd C e):=λe' h=>(Q6h (h1 e' h) (λx hx=>by simp_all [Op.operands,Call.operands])).symm
          cases hc:noPan (cal cl w (tgtV (.val (.fn F [])) (ags.toList.map (opnd C e))) s) with
          |none=>exact .inl λe' s' h hs k=>by rw[heq2 e' h,hp,cond_false,hr,cond_false];simp only[effK,cond_true,opnd,ha e' h,hs hef,hc];rfl
          |some q=>
            obtain⟨v,s1⟩:=q
            have hs1:s1=s:=Qhg hq (by simpa using hqt) hc
            subst hs1
            cases v with
            |pan v=>
              unfold noPan at hc
              split at hc
              ·cases hc
              ·cases hc
            |ret v=>exact .inr ⟨ups dst (.s v),λs=>s,Q2S hk,λ_ _=>rfl,λe' s' h hs k=>by rw[heq2 e' h,hp,cond_false,hr,cond_false,hs hef];simp only[effK,cond_true,opnd,ha e' h,hc,<-Q17];rfl⟩
         ·cases hqt
       |false=>
       rcases QgL (C:=C) (cl:=cl) (e:=e) (s:=s) (r:=r) (f:=f) (rt:=rt) (all:=all) (o:=o) (w:=w) hp hr with hd|⟨x,u,g,k1,k2,hd⟩
       ·exact .inl λe' s' h hs k=>by rw[heq2 e' h,hp,cond_false,hr,cond_false];exact hd e' s' h hs _
       ·refine .inr ⟨ups o.dst x++u,g,λp hp=>(List.mem_append.1 hp).elim (Q2S hk p) (k1 p),λh=>k2 (by simpa [weO,hr,hqt] using h),λe' s' h hs k=>?_⟩
        rw[heq2 e' h,hp,cond_false,hr,cond_false]
        refine (hd e' s' h hs _).trans ?_
        rw[Q17,Yr]
theorem ZO{u:List (Nat × Ent)}{i:Nat}(h:∀ p ∈ u,p.1≠i)(e:Env):Env.get (u++e) i=e.get i:=by
 induction u with
 |nil=>rfl
 |cons p u ih=>
   obtain⟨d,x⟩:=p
   rw[Yk,Env.get_cons,if_neg (h (d,x) Yc)]
   exact ih λp hp=>h p (Yb _ hp)
theorem Q4v{u:List (Nat × Ent)}{i:Nat}(h:∃ p ∈ u,p.1=i)(e e':Env):Env.get (u++e) i=Env.get (u++e') i:=by
 induction u with
 |nil=>obtain⟨p,hp,_⟩:=h;simp at hp
 |cons p u ih=>
   obtain⟨d,x⟩:=p
   rw[Yk,Yk,Env.get_cons,Env.get_cons]
   by_cases hd:d=i
   ·rw[if_pos hd,if_pos hd]
   ·rw[if_neg hd,if_neg hd]
    refine ih ?_
    obtain⟨q,hq,hqi⟩:=h
    rcases List.mem_cons.1 hq with rfl|hq
    ·exact absurd hqi hd
    ·exact⟨q,hq,hqi⟩
def Same(e e':Env):Prop:=∀ i,e.get i=e'.get i
theorem Same.app{u:List (Nat × Ent)}(h:Same e e'):Same (u++e) (u++e'):=λi=>by
 by_cases hi:∃ p ∈ u,p.1=i
 ·exact Q4v hi _ _
 ·have hn:∀ p ∈ u,p.1≠i:=λp hp e=>hi ⟨p,hp,e⟩
  rw[ZO hn,ZO hn,h i]
theorem QbD{u v:List (Nat × Ent)}(h:∀ p ∈ u,∀ q ∈ v,p.1≠q.1)(e:Env):Same (u++(v++e)) (v++(u++e)):=λi=>by
 by_cases hi:∃ p ∈ u,p.1=i
 ·have hv:∀ q ∈ v,q.1≠i:=λq hq e=>by obtain⟨p,hp,hpi⟩:=hi;exact h p hp q hq (hpi.trans e.symm)
  rw[ZO hv]
  exact Q4v hi _ _
 ·have hn:∀ p ∈ u,p.1≠i:=λp hp e=>hi ⟨p,hp,e⟩
  rw[ZO hn]
  by_cases hj:∃ p ∈ v,p.1=i
  ·exact Q4v hj _ _
  ·have hm:∀ p ∈ v,p.1≠i:=λp hp e=>hj ⟨p,hp,e⟩
   rw[ZO hm,ZO hm,ZO hn]
def Resp(k:Env->St->Res):Prop:=∀ e e' s,Same e e'->k e s=k e' s
theorem Q47{a b:List Nat}(h:disj a b=true):∀ i ∈ a,∀ j ∈ b,i≠j:=λi hi j hj e=>by
 simp only[disj,List.all_eq_true] at h
 have:=h i hi j hj
 subst e
 simp at this
theorem Qfn{a b:List Nat}(h:disj a b=true):disj b a=true:=by
 simp only[disj,List.all_eq_true]
 intro i hi j hj
 have:=Q47 h j hj i hi
 cases hb:Nat.beq i j with
 |false=>rfl
 |true=>exact absurd (Yf hb).symm this
theorem Q23{l ws:List Nat}{u:List (Nat × Ent)}(hu:∀ p ∈ u,p.1 ∈ ws)(h:disj ws l=true)(e:Env):agree l e (u++e):=λi hi=>by
 rw[ZO λp hp=>Q47 h p.1 (hu p hp) i hi]
theorem Q6y{s s1:St}{v:Slot}{cs:List Slot}(h:stV s v cs=some s1):∃ loc off l l',v = .val (.vp loc off)/\s.locs[loc]? = some (.var l)/\putAt l off cs=some l'/\s1={ s with locs:=s.locs.set loc (.var l') }:=by
 unfold stV at h
 split at h
 ·rename_i loc off
  split at h
  ·rename_i l hl
   split at h
   ·rename_i l' hp;cases h;exact⟨loc,off,l,l',rfl,hl,hp,rfl⟩
   ·cases h
  ·cases h
 ·cases h
theorem Qe3{s:St}{loc off:Nat}{l l':List Slot}{cs:List Slot}(h1:s.locs[loc]? = some (.var l))(h2:putAt l off cs=some l'):stV s (.val (.vp loc off)) cs=some { s with locs:=s.locs.set loc (.var l') }:=by
 simp only[stV,h1,h2]
theorem Qg7{s:St}{v:Slot}{cs:List Slot}(h:stV s v cs=none){s':St}(hs:∀ loc off,v = .val (.vp loc off)->s'.locs[loc]? = s.locs[loc]?):stV s' v cs=none:=by
 cases v with
 |val a=>
   cases a<;>try rfl
   rename_i loc off
   have:=hs loc off rfl
   simp only[stV] at h |-
   rw[this]
   cases hl:s.locs[loc]? with
   |none=>rfl
   |some o=>
     rw[hl] at h
     cases o<;>try rfl
     rename_i l
     simp only[] at h |-
     cases hp:putAt l off cs with
     |none=>rfl
     |some l'=>rw[hp] at h;cases h
 |_=>rfl
theorem QfO{x:Oper × Option Nat}{n:Nat}(h:isMk n x=true):∃ t a y,x.1.op = .store t a y/\∀ (e:Env) (s:St) (k:Env->St->Res),one C cl r f all x e s k =
  bindL (boxCells (C.ti t) (opnd C e y)) λcs=>stS (rootD n) (Operand.tmp? a) e s (ent C e a) cs λe s=>k (put x.1.dst (.s .no) e) s:=by
 obtain⟨⟨dst,op,ty,after,ph,guard⟩,rt⟩:=x
 simp only[isMk,Ya] at h
 obtain⟨h1,h2,h3⟩:=h
 cases guard with
 |some g=>cases h2
 |none=>
   cases rt with
   |none=>cases h3
   |some m=>
     have:=Yf h3
     subst this
     cases op<;>try (cases h1;done)
     rename_i t a y
     exact⟨t,a,y,rfl,λe s k=>rfl⟩
theorem Qhk:rootD 100000 = .nw:=rfl
theorem QfS:rootD 100001 = .old:=rfl
def mkO(rt:Root)(x:Ent)(s:St)(cs:List Slot):Option St:=
 match x with
 |.s v=>bif nwOk rt s v then stV s v cs else none
 |_=>none
theorem Qg6{rt:Root}(h:rt = .nw\/rt = .old)(x:Option Nat)(e:Env)(s:St)(a:Ent)(cs:List Slot)(k:Env->St->Res):stS rt x e s a cs k=bindS (mkO rt a s cs) λs=>k e s:=by
 rcases h with rfl|rfl<;>cases a<;>first|rfl|(rename_i v;simp only[stS,rootOk,cond_true,mkO];generalize nwOk _ s v=q;cases q<;>rfl)
theorem Qh5(a b:Ent)(cs ds:List Slot)(s:St):((mkO .nw a s cs).bind λs=>mkO .old b s ds)=(mkO .old b s ds).bind λs=>mkO .nw a s cs:=by
 have none1:∀ (o:Option St),(o.bind λ_=>(none:Option St))=none:=λo=>by cases o<;>rfl
 cases a with
 |none=>simp[mkO]
 |var c=>simp[mkO]
 |ptr g d o=>simp[mkO]
 |s v=>cases b with
   |none=>simp[mkO]
   |var c=>simp[mkO]
   |ptr g d o=>simp[mkO]
   |s w=>
     have len:∀ {s s1:St} {v:Slot} {cs:List Slot},stV s v cs=some s1->s1.locs.length=s.locs.length:=λh=>by
      obtain⟨i,o,l,l',_,_,_,rfl⟩:=Q6y h
      simp
     have nwl:∀ {s s1:St} (rt:Root) (v:Slot),s1.locs.length=s.locs.length->nwOk rt s1 v=nwOk rt s v:=λrt v h=>by unfold nwOk;rw[h]
     simp only[mkO]
     cases h1:nwOk .nw s v with
     |false=>
       simp only[cond_false,Option.bind_none]
       symm
       cases h2:nwOk .old s w with
       |false=>rfl
       |true=>
         simp only[cond_true]
         cases h3:stV s w ds with
         |none=>rfl
         |some s2=>simp only[Option.bind_some,nwl .nw v (len h3),h1,cond_false]
     |true=>
       simp only[cond_true]
       cases h2:nwOk .old s w with
       |false=>
         simp only[cond_false,Option.bind_none]
         cases h3:stV s v cs with
         |none=>rfl
         |some s2=>simp only[Option.bind_some,nwl .old w (len h3),h2,cond_false]
       |true=>
         simp only[cond_true]
         have hne:∀ i o j q,v = .val (.vp i o)->w = .val (.vp j q)->i≠j:=λi o j q hv hv' hij=>by
          subst hv hv' hij
          simp only[nwOk] at h1 h2
          have h1:=Yf h1
          rw[<-h1] at h2
          have:=Nat.le_of_ble_eq_true h2
          omega
         cases h3:stV s v cs with
         |none=>
           cases h4:stV s w ds with
           |none=>rfl
           |some s2=>
             simp only[Option.bind_some,Option.bind_none,nwl .nw v (len h4),h1,cond_true]
             obtain⟨j,q,m,m',rfl,b1,b2,rfl⟩:=Q6y h4
             exact (Qg7 h3 (λi o hv=>by simp only[];rw[List.getElem?_set_ne (λe=>hne i o j q hv rfl e.symm)])).symm
         |some s1=>
           cases h4:stV s w ds with
           |none=>
             simp only[Option.bind_some,Option.bind_none,nwl .old w (len h3),h2,cond_true]
             obtain⟨i,o,l,l',rfl,a1,a2,rfl⟩:=Q6y h3
             exact Qg7 h4 (λj q hw=>by simp only[];rw[List.getElem?_set_ne (λe=>hne i o j q rfl hw e)])
           |some s2=>
             simp only[Option.bind_some,nwl .old w (len h3),h2,nwl .nw v (len h4),h1,cond_true]
             obtain⟨i,o,l,l',rfl,a1,a2,rfl⟩:=Q6y h3
             obtain⟨j,q,m,m',rfl,b1,b2,rfl⟩:=Q6y h4
             have hij:=hne i o j q rfl rfl
             rw[Qe3 (s:={ s with locs:=s.locs.set i (.var l') }) (l:=m) (by simp only[];rw[List.getElem?_set_ne hij];exact b1) b2,Qe3 (s:={ s with locs:=s.locs.set j (.var m') }) (l:=l) (by simp only[];rw[List.getElem?_set_ne (λe=>hij e.symm)];exact a1) a2]
             simp only[]
             rw[List.set_comm _ _ hij]
theorem Q8Z{x y:Oper × Option Nat}(hn:isMk 100000 y=true)(ho:isMk 100001 x=true)(c1:disj (wrO y.1 y.2) (rdO all x.1 x.2)=true)(c2:disj (wrO x.1 x.2) (rdO all y.1 y.2)=true)(c3:disj (wrO y.1 y.2) (wrO x.1 x.2)=true){k:Env->St->Res}(hk:Resp k)(e:Env)(s:St) :
  one C cl r f all y e s (λe s=>one C cl r f all x e s k)=one C cl r f all x e s (λe s=>one C cl r f all y e s k):=by
 obtain⟨t,a,b,hop,hy⟩:=QfO (C:=C) (cl:=cl) (r:=r) (f:=f) (all:=all) hn
 obtain⟨t',a',b',hop',hx⟩:=QfO (C:=C) (cl:=cl) (r:=r) (f:=f) (all:=all) ho
 have hwy:∀ p ∈ ups y.1.dst (.s .no),p.1 ∈ wrO y.1 y.2:=Q2S λi hi=>Ym _ hi
 have hwx:∀ p ∈ ups x.1.dst (.s .no),p.1 ∈ wrO x.1 x.2:=Q2S λi hi=>Ym _ hi
 have gy:agree (tmpsOf y.1.op) e (put x.1.dst (.s .no) e):=by rw[Q17];exact (Q23 hwx c2 e).mono λi hi=>Ym _ hi
 have gx:agree (tmpsOf x.1.op) e (put y.1.dst (.s .no) e):=by rw[Q17];exact (Q23 hwy c1 e).mono λi hi=>Ym _ hi
 rw[hop] at gy
 rw[hop'] at gx
 have e1:opnd C (put y.1.dst (.s .no) e) b'=opnd C e b':=(Qq gx (by simp[Op.operands])).symm
 have e2:opnd C (put x.1.dst (.s .no) e) b=opnd C e b:=(Qq gy (by simp[Op.operands])).symm
 have f1:ent C (put y.1.dst (.s .no) e) a'=ent C e a':=(Q25 gx (by simp[Op.operands])).symm
 have f2:ent C (put x.1.dst (.s .no) e) a=ent C e a:=(Q25 gy (by simp[Op.operands])).symm
 have r1:=Qhk
 have r2:=QfS
 rw[hy,hx]
 simp only[hx,hy,r1,r2,Qg6 (.inl rfl),Qg6 (.inr rfl),e1,e2,f1,f2]
 have hend:∀ s,k (put x.1.dst (.s .no) (put y.1.dst (.s .no) e)) s=k (put y.1.dst (.s .no) (put x.1.dst (.s .no) e)) s:=λs=>by
  rw[Q17,Q17,Q17,Q17]
  exact hk _ _ _ (QbD (λp hp q hq e=>Q47 c3 q.1 (hwy q hq) p.1 (hwx p hp) e.symm) e)
 simp only[hend]
 generalize (λs=>k (put y.1.dst (.s .no) (put x.1.dst (.s .no) e)) s)=K
 have bS:∀ (o:Option St) (g:St->Option St),(bindS o λs=>bindS (g s) K)=bindS (o.bind g) K:=λo g=>by cases o<;>rfl
 have nS:∀ (o:Option St),(bindS o λ_=>(none:Res))=none:=λo=>by cases o<;>rfl
 cases boxCells (C.ti t) (opnd C e b) with
 |none=>cases boxCells (C.ti t') (opnd C e b') with
   |none=>rfl
   |some ds=>simp only[bindL,nS]
 |some cs=>cases boxCells (C.ti t') (opnd C e b') with
   |none=>simp only[bindL,nS]
   |some ds=>simp only[bindL,bS,Qh5]
theorem swap(hq:QuietOK C cl){x y:Oper × Option Nat}(hc:comm C r f all y x=true){k:Env->St->Res}(hk:Resp k)(e:Env)(s:St) :
  one C cl r f all y e s (λe s=>one C cl r f all x e s k)=one C cl r f all x e s (λe s=>one C cl r f all y e s k):=by
 simp only[comm,Ya] at hc
 obtain⟨c1,c2,c3,c45⟩:=hc
 rcases Bool.or_eq_true_iff.1 c45 with hap|c45
 ·rcases Bool.or_eq_true_iff.1 hap with h|h<;>simp only[Ya] at h
  ·exact Q8Z h.1 h.2 c1 c2 c3 hk e s
  ·exact (Q8Z h.2 h.1 c2 c1 (Qfn c3) hk e s).symm
 obtain⟨c4,c5⟩:=Bool.and_eq_true_iff.1 c45
 have refl:∀ l,agree l e e:=λl i _=>rfl
 rcases Q4S hq (C:=C) (cl:=cl) (r:=r) (f:=f) (all:=all) (e:=e) (s:=s) y with hy|⟨uy,gy,y1,y2,hy⟩
 ·rw[hy e s (refl _) (λ_=>rfl)]
  rcases Q4S hq (C:=C) (cl:=cl) (r:=r) (f:=f) (all:=all) (e:=e) (s:=s) x with hx|⟨ux,gx,x1,x2,hx⟩
  ·rw[hx e s (refl _) (λ_=>rfl)]
  ·rw[hx e s (refl _) (λ_=>rfl)]
   refine (hy _ _ (Q23 x1 c2 e) (λh=>?_) _).symm
   exact x2 (by rw[h] at c5;simpa using c5) s
 ·rw[hy e s (refl _) (λ_=>rfl)]
  have hgy:efO C r f x.1 x.2=true->gy s=s:=λh=>y2 (by rw[h] at c4;simpa using c4) s
  rcases Q4S hq (C:=C) (cl:=cl) (r:=r) (f:=f) (all:=all) (e:=e) (s:=s) x with hx|⟨ux,gx,x1,x2,hx⟩
  ·rw[hx e s (refl _) (λ_=>rfl)]
   exact hx _ _ (Q23 y1 c1 e) hgy _
  ·have hgx:efO C r f y.1 y.2=true->gx s=s:=λh=>x2 (by rw[h] at c5;simpa using c5) s
   rw[hx e s (refl _) (λ_=>rfl),hx _ _ (Q23 y1 c1 e) hgy,hy _ _ (Q23 x1 c2 e) hgx]
   have hst:gx (gy s)=gy (gx s):=by
    cases hef:weO C r f x.1 x.2 with
    |false=>rw[x2 hef,x2 hef]
    |true=>
      have hef':efO C r f y.1 y.2=false:=by rw[hef] at c5;simpa using c5
      have hwe:weO C r f y.1 y.2=false:=by simp[weO,hef']
      rw[y2 hwe,y2 hwe]
   rw[hst]
   exact hk _ _ _ (QbD (λp hp q hq e=>Q47 c3 q.1 (y1 q hq) p.1 (x1 p hp) e.symm) e)
theorem Qhc(hq:QuietOK C cl){x:Oper × Option Nat}{k:Env->St->Res}(hk:Resp k):Resp λe s=>one C cl r f all x e s k:=λe e' s h=>by
 rcases Q4S hq (C:=C) (cl:=cl) (r:=r) (f:=f) (all:=all) (e:=e) (s:=s) x with hx|⟨ux,gx,x1,x2,hx⟩
 ·simp only[hx e s (λi _=>rfl) (λ_=>rfl),hx e' s (λi _=>h i) (λ_=>rfl)]
 ·simp only[hx e s (λi _=>rfl) (λ_=>rfl),hx e' s (λi _=>h i) (λ_=>rfl)]
  exact hk _ _ _ h.app
def runK(C:Cfg)(cl:CallFn)(r:Bool)(f:FuncId)(all:List Oper):List (Nat × (Oper × Option Nat))->Env->St->(Env->St->Res)->Res
 |[],e,s,k=>k e s
 |p::L,e,s,k=>one C cl r f all p.2 e s λe s=>runK C cl r f all L e s k
theorem Qav(hq:QuietOK C cl){k:Env->St->Res}(hk:Resp k):∀ L,Resp λe s=>runK C cl r f all L e s k
 |[]=>hk
 |p::L=>Qhc hq (x:=p.2) (Qav hq hk L)
theorem front(hq:QuietOK C cl){k:Env->St->Res}(hk:Resp k){x:Nat × (Oper × Option Nat)}{L:List (Nat × (Oper × Option Nat))}:∀ {A:List (Nat × (Oper × Option Nat))},(∀ y ∈ A,comm C r f all y.2 x.2=true)->∀ e s,runK C cl r f all (A++x::L) e s k=runK C cl r f all (x::(A++L)) e s k
 |[],_,_,_=>rfl
 |y::A,h,e,s=>by
   have ih:=front hq hk (x:=x) (L:=L) (A:=A) (λz hz=>h z (Yb _ hz))
   show one C cl r f all y.2 e s (λe s=>runK C cl r f all (A++x::L) e s k)=_
   rw[show (λe s=>runK C cl r f all (A++x::L) e s k)=λe s=>runK C cl r f all (x::(A++L)) e s k from funext λe=>funext λs=>ih e s]
   exact swap hq (h y Yc) (Qav hq hk (A++L)) e s
theorem Qap:∀ (n:Nat) (os:List Oper) (rts:List (Option Nat)) (e:Env) (s:St) (k:Env->St->Res),opsK C cl true r f all os rts e s k=runK C cl r f all (mkL n os rts) e s k
 |_,[],_,_,_,_=>rfl
 |n,o::os,rts,e,s,k=>by
   have ih:(λe s=>opsK C cl true r f all os rts.tail e s k)=λe s=>runK C cl r f all (mkL (n+1) os rts.tail) e s k:=funext λe=>funext λs=>Qap (n+1) os rts.tail e s k
   show _=one C cl r f all (o,rts.headD none) e s (λe s=>runK C cl r f all (mkL (n+1) os rts.tail) e s k)
   rw[<-ih]
   have hroot:rootOf true rts=rootOf true [rts.headD none]:=by
    cases rts with
    |nil=>rfl
    |cons x r=>cases x<;>rfl
   rw[Q1p,hroot]
   rfl
theorem Qcx(hq:QuietOK C cl):∀ (L:List (Nat × (Oper × Option Nat))) (e:Env) (s:St),(∀ k,runK C cl r f all L e s k=none)\/∃ e1 s1,∀ k,runK C cl r f all L e s k=k e1 s1
 |[],e,s=>.inr ⟨e,s,λ_=>rfl⟩
 |p::L,e,s=>by
   rcases Q4S hq (C:=C) (cl:=cl) (r:=r) (f:=f) (all:=all) (e:=e) (s:=s) p.2 with h|⟨u,g,_,_,h⟩
   ·exact .inl λk=>h e s (λ_ _=>rfl) (λ_=>rfl) _
   ·rcases Qcx hq L (u++e) (g s) with h2|⟨e1,s1,h2⟩
    ·exact .inl λk=>(h e s (λ_ _=>rfl) (λ_=>rfl) _).trans (h2 k)
    ·exact .inr ⟨e1,s1,λk=>(h e s (λ_ _=>rfl) (λ_=>rfl) _).trans (h2 k)⟩
end
end Go.Am
namespace Go.Am
open Go Go.RowKit
inductive Dep (all:List Oper):Nat->Nat->Prop where
 |one {i:Nat} {o:Oper} {ed:Edge} (h:all[i]? = some o) (he:ed ∈ o.after.toList) (hb:bindsAll ed=true):Dep all i ed.on
 |more {i:Nat} {o:Oper} {ed:Edge} {j:Nat} (h:all[i]? = some o) (he:ed ∈ o.after.toList) (hb:bindsAll ed=true) (k:Dep all ed.on j):Dep all i j
theorem Dep.first{all:List Oper}{i j:Nat}(h:Dep all i j):∃ o ed,all[i]? = some o/\ed ∈ o.after.toList/\bindsAll ed=true/\(ed.on=j\/Dep all ed.on j):=by
 cases h with
 |one h he hb=>exact⟨_,_,h,he,hb,.inl rfl⟩
 |more h he hb k=>exact⟨_,_,h,he,hb,.inr k⟩
def PairR(C:Cfg)(r:Bool)(f:FuncId)(all:List Oper)(p q:Nat × (Oper × Option Nat)):Prop:=p.1<q.1/\(Dep all q.1 p.1\/comm C r f all p.2 q.2=true)
theorem Q8E{l:List Nat}{i j:Nat}(h:j ∈ addNew l i):j ∈ l\/j=i:=by
 unfold addNew at h
 cases hb:l.any (Nat.beq i) with
 |true=>rw[hb] at h;exact .inl h
 |false=>rw[hb] at h;exact (List.mem_cons.1 h).symm
theorem Q8D:∀ {m l:List Nat} {j:Nat},j ∈ addAll l m->j ∈ l\/j ∈ m
 |[],_,_,h=>.inl h
 |i::m,l,j,h=>by
   rcases Q8D (m:=m) (l:=addNew l i) h with h|h
   ·rcases Q8E h with h|h
    ·exact .inl h
    ·exact .inr (by rw[h];exact Yc)
   ·exact .inr (Yb _ h)
theorem QbC(all:List Oper):∀ (os:List Oper) (acc:List (List Nat)) (pre:List Oper),pre++os=all->acc.length=pre.length->(∀ i j,j ∈ acc.getD i []->Dep all i j)->∀ i j,j ∈ (ancsGo acc os).getD i []->Dep all i j
 |[],acc,_,_,_,h=>h
 |o::os,acc,pre,hp,hl,h=>by
   refine QbC all os _ (pre++[o]) (by simpa using hp) (by simp[hl]) λi j hj=>?_
   rw[List.getD_eq_getElem?_getD] at hj
   by_cases hi:i<acc.length
   ·rw[List.getElem?_append_left hi] at hj
    exact h i j (by rw[List.getD_eq_getElem?_getD];exact hj)
   ·rw[List.getElem?_append_right (by omega)] at hj
    have hi0:i=pre.length:=by
     cases hq:i - acc.length with
     |zero=>omega
     |succ n=>rw[hq] at hj;simp at hj
    subst hi0
    rw[hl,Nat.sub_self] at hj
    simp only[List.getElem?_cons_zero,Option.getD_some] at hj
    have ho:all[pre.length]? = some o:=by rw[<-hp];simp
    have key:∀ (es:List Edge) (l:List Nat),(∀ e ∈ es,e ∈ o.after.toList/\bindsAll e=true)->(∀ x ∈ l,Dep all pre.length x)->∀ x ∈ es.foldl (λl e=>addAll (addNew l e.on) (acc.getD e.on [])) l,Dep all pre.length x:=by
     intro es
     induction es with
     |nil=>intro l _ hl x hx;exact hl x hx
     |cons e es ih=>
       intro l he hl x hx
       refine ih _ (λe' h'=>he e' (Yb _ h')) (λy hy=>?_) x hx
       obtain⟨k1,k2⟩:=he e Yc
       rcases Q8D hy with hy|hy
       ·rcases Q8E hy with hy|hy
        ·exact hl y hy
        ·subst hy;exact .one ho k1 k2
       ·exact .more ho k1 k2 (h e.on y hy)
    exact key _ [] (λe he=>by simpa using he) (by simp) j hj
theorem Q4R:∀ {n:Nat} {os:List Oper} {rts:List (Option Nat)} {p:Nat × (Oper × Option Nat)},p ∈ mkL n os rts->n<=p.1/\os[p.1 - n]? = some p.2.1
 |_,[],_,p,h=>by simp[mkL] at h
 |n,o::os,rts,p,h=>by
   simp only[mkL,List.mem_cons] at h
   rcases h with rfl|h
   ·exact⟨Yd _,by simp⟩
   ·obtain⟨h1,h2⟩:=Q4R h
    refine⟨by omega,?_⟩
    have:p.1 - n=(p.1 - (n+1))+1:=by omega
    rw[this,List.getElem?_cons_succ]
    exact h2
theorem QdW:∀ {n:Nat} {os:List Oper} {rts:List (Option Nat)} {i:Nat},i<os.length->∃ p ∈ mkL n os rts,p.1=n+i
 |_,[],_,i,h=>by simp at h
 |n,o::os,rts,0,_=>⟨_,Yc,rfl⟩
 |n,o::os,rts,i+1,h=>by
   obtain⟨p,hp,he⟩:=QdW (n:=n+1) (rts:=rts.tail) (i:=i) (by simpa using h)
   exact⟨p,Yb _ hp,by omega⟩
theorem QdX:∀ {n:Nat} {os:List Oper} {rts:List (Option Nat)},(mkL n os rts).length=os.length
 |_,[],_=>rfl
 |n,o::os,rts=>by simp[mkL,QdX]
def rkM(rk:List Nat)(md:Region.Mode)(i:Nat):Nat:=match md with
 |.gc=>rkOf rk i
 |_=>i
theorem Q5Y{a b:Nat}(h:Nat.blt a b=true):a<b:=Nat.le_of_ble_eq_true h
theorem Qd7{rk:List Nat}{n i:Nat}{e:Edge}{md:Region.Mode}(h:edgeOK rk n i e=true)(hb:Region.binds md e=true):e.on<n/\rkM rk md e.on<rkM rk md i:=by
 unfold edgeOK at h
 simp only[Ya] at h
 obtain⟨h1,h2⟩:=h
 refine⟨Q5Y h1,?_⟩
 unfold Region.binds at hb
 split at h2
 ·rename_i hg
  rw[hg] at hb
  cases md<;>first|exact Q5Y h2|cases hb
 ·rename_i hg
  rw[hg] at hb
  cases md<;>first|exact Q5Y h2|cases hb
 ·simp only[Ya] at h2
  cases md<;>first|exact Q5Y h2.1|exact Q5Y h2.2
theorem Q64{C:Cfg}{r:Bool}{f:FuncId}{all:List Oper}{rk:List Nat}{nn:Nat}{A:List (List Nat)}(hA:∀ i j,j ∈ A.getD i []->Dep all i j):∀ {n:Nat} {os:List Oper} {rts:List (Option Nat)},drawGo C r f all rk nn A (mkL n os rts)=true->
  (mkL n os rts).Pairwise (PairR C r f all)/\∀ p ∈ mkL n os rts,∀ e ∈ p.2.1.after.toList,edgeOK rk nn p.1 e=true
 |_,[],_,_=>⟨.nil,by simp[mkL]⟩
 |n,o::os,rts,h=>by
   simp only[mkL,drawGo,Ya,List.all_eq_true] at h
   obtain⟨h1,h2,h3⟩:=h
   obtain⟨k1,k2⟩:=Q64 hA h3
   refine⟨List.pairwise_cons.2 ⟨λq hq=>⟨(Q4R hq).1,by
    have h4:=h2 q hq
    rw[Bool.or_eq_true] at h4
    rcases h4 with h4|h4
    ·obtain⟨x,hx,hxe⟩:=List.any_eq_true.1 h4
     have:=Yf hxe
     subst this
     exact .inl (hA _ _ hx)
    ·exact .inr h4⟩,k1⟩,λp hp e he=>?_⟩
   simp only[mkL,List.mem_cons] at hp
   rcases hp with rfl|hp
   ·exact h1 e he
   ·exact k2 p hp e he
theorem least{α:Type}(g:α->Nat):∀ (x:α) (l:List α),∃ p ∈ x::l,∀ q ∈ x::l,g p<=g q
 |x,[]=>⟨x,by simp,λq hq=>by simp at hq;subst hq;exact Yd _⟩
 |x,y::l=>by
   obtain⟨p,hp,h⟩:=least g y l
   rcases Nat.le_total (g x) (g p) with hle|hle
   ·exact⟨x,by simp,λq hq=>by
     rcases List.mem_cons.1 hq with rfl|hq
     ·exact Yd _
     ·exact Nat.le_trans hle (h q hq)⟩
   ·exact⟨p,Yb _ hp,λq hq=>by
     rcases List.mem_cons.1 hq with rfl|hq
     ·exact hle
     ·exact h q hq⟩
section
variable {P:Program} {C:Cfg} {κ κ' κ0:Kn} {B B' N:Nat} {s s':St} {w w' w0:World} {e:Env} {a:Act} {β:Nat->Option Nat} {δ:List Nat} {cl:CallFn} {F:Fence}
theorem FrameR.same{e':Env}(h:FrameR κ B w N e a β δ)(hs:Same e e'):FrameR κ B w N e' a β δ:=
 ⟨h.size,λi=>by rw[<-hs i];exact h.ent i,λi g d off hi=>by rw[<-hs d];exact h.ptr i g d off (by rw[hs i];exact hi),h.priv,h.inj,h.defers,h.dpriv,h.dnodup⟩
theorem OkX.same{e':Env}(h:OkX C κ0 w0 B N e s a w)(hs:Same e e'):OkX C κ0 w0 B N e' s a w:=by
 obtain⟨κ,β,δ,h⟩:=h
 exact⟨κ,β,δ,h.mv,h.inv,h.fr.same hs⟩
theorem Qi5(hT:∀ t,TyOK P C t)(hF:GF F)(hcl:CallsOK P C cl)(hB:B<=w0.heap.size)(hG:GlobOK C κ0){ops:Array Oper}{f:FuncId}{r:Bool}{md:Region.Mode}{rk:List Nat}{Q:Exit->Act->World->Prop}{k:Env->St->Res}(hk:Resp k){v:Slot}{s1:St}
  (hQ:∀ e s a w,OkX C κ0 w0 B N e s a w->k e s=some (.ret v,s1)->Q .normal a w) :
  ∀ (fuel:Nat) (listed:Array Bool) (L:List (Nat × (Oper × Option Nat))) (e:Env) (s:St) (a:Act) (w:World),
    L.length<=fuel->(∀ i,listed.getD i true=false↔∃ p ∈ L,p.1=i)->L.Pairwise (PairR C r f ops.toList)->(∀ p ∈ L,ops[p.1]? = some p.2.1)->(∀ p ∈ L,∀ d,p.2.1.dst=some d->d<N)->
    (∀ p ∈ L,∀ e ∈ p.2.1.after.toList,edgeOK rk ops.size p.1 e=true)->listed.size=ops.size->(∀ i o ed,ops[i]? = some o->ed ∈ o.after.toList->bindsAll ed=true->listed.getD ed.on true=false->listed.getD i true=false)->OkX C κ0 w0 B N e s a w->runK C cl r f ops.toList L e s k=some (.ret v,s1)->wpAnyIn F 0 P md ops Q fuel listed a w:=by
 intro fuel
 induction fuel with
 |zero=>
   intro listed L e s a w hlen hL _ _ _ _ _ _ hok hr
   have:L=[]:=List.length_eq_zero_iff.1 (by omega)
   subst this
   refine⟨?_,hQ _ _ _ _ hok hr⟩
   rw[List.eq_nil_iff_forall_not_mem]
   intro i hi
   obtain⟨p,hp,_⟩:=(hL i).1 (mem_ready.1 hi).1
   simp at hp
 |succ fuel ih=>
   intro listed L e s a w hlen hL hpw hops hd haft hsz hup hok hr
   refine⟨λhnil=>?_,λi hi=>?_⟩
   ·cases L with
    |nil=>exact hQ _ _ _ _ hok hr
    |cons p0 L=>
      exfalso
      obtain⟨p,hpL,hmin⟩:=least (λq:Nat × (Oper × Option Nat)=>rkM rk md q.1) p0 L
      have hp1:listed.getD p.1 true=false:=(hL p.1).2 ⟨p,hpL,rfl⟩
      have:p.1 ∈ Region.ready md ops listed:=by
       refine mem_ready.2 ⟨hp1,p.2.1,hops p hpL,λed hed hbd=>?_⟩
       obtain⟨hes,hlt⟩:=Qd7 (haft p hpL ed (Array.mem_toList_iff.2 hed)) hbd
       have hne:listed.getD ed.on true≠false:=λh=>by
        obtain⟨q,hq,hqe⟩:=(hL ed.on).1 h
        have:=hmin q hq
        simp only[hqe] at this
        omega
       have hes':ed.on<listed.size:=by omega
       have e1:listed.getD ed.on true=listed[ed.on]:=by simp[Array.getD,hes']
       have e2:listed.getD ed.on false=listed[ed.on]:=by simp[Array.getD,hes']
       rw[e2,<-e1]
       simpa using hne
      rw[hnil] at this
      cases this
   ·obtain⟨hi1,o,ho,hdep⟩:=mem_ready.1 hi
    obtain⟨p,hpL,hpi⟩:=(hL i).1 hi1
    subst hpi
    have hop:=hops p hpL
    rw[ho] at hop
    cases hop
    obtain⟨A,D,rfl⟩:=List.append_of_mem hpL
    have his:p.1<listed.size:=by
     rcases Nat.lt_or_ge p.1 listed.size with h|h
     ·exact h
     ·rw[Yl,Array.getElem?_eq_none h] at hi1;cases hi1
    have hpw2:=hpw
    rw[List.pairwise_append] at hpw2
    obtain⟨pA,pD,pAD⟩:=hpw2
    have hcomm:∀ y ∈ A,comm C r f ops.toList y.2 p.2=true:=λy hy=>by
     rcases (pAD y hy p Yc).2 with hdp|hc
     ·exfalso
      have hbind:∀ ed:Edge,bindsAll ed=true->Region.binds md ed=true:=λed h2=>by
       unfold Region.binds
       unfold bindsAll at h2
       cases hg:ed.ground<;>rw[hg] at h2<;>first|rfl|cases h2
      have up:∀ i j,Dep ops.toList i j->listed.getD j true=false->listed.getD i true=false:=by
       intro i j hij
       induction hij with
       |one h he hb=>exact λhj=>hup _ _ _ (by simpa using h) he hb hj
       |more h he hb _ ih=>exact λhj=>hup _ _ _ (by simpa using h) he hb (ih hj)
      have hf:=(hL y.1).2 ⟨y,Ym _ hy,rfl⟩
      obtain⟨ed,hed,hb,hz⟩:∃ ed ∈ p.2.1.after.toList,bindsAll ed=true/\listed.getD ed.on true=false:=by
       have ho':ops.toList[p.1]? = some p.2.1:=by simpa using ho
       obtain⟨o2,ed,h,he,hb,hj⟩:=hdp.first
       rw[ho'] at h
       cases h
       refine⟨ed,he,hb,?_⟩
       rcases hj with hj|hj
       ·rw[hj];exact hf
       ·exact up _ _ hj hf
      have hl:=hdep ed (Array.mem_toList_iff.1 hed) (hbind ed hb)
      have hys:ed.on<listed.size:=by
       rcases Nat.lt_or_ge ed.on listed.size with h|h
       ·exact h
       ·rw[Yl,Array.getElem?_eq_none h] at hz;cases hz
      have e1:listed.getD ed.on true=listed[ed.on]:=by simp[Array.getD,hys]
      have e2:listed.getD ed.on false=listed[ed.on]:=by simp[Array.getD,hys]
      rw[e1] at hz
      rw[e2,hz] at hl
      cases hl
     ·exact hc
    rw[front hcl.quiet hk hcomm] at hr
    unfold wpOpIn
    rw[ho]
    have hmem:∀ q,q ∈ A++D->q ∈ A++p::D:=λq hq=>(List.mem_append.1 hq).elim (λh=>Ym _ h) (λh=>Yq _ (Yb _ h))
    refine QfP (R:=(.ret v,s1)) (rts:=[p.2.2]) (os:=[]) hT hF hcl hB hG ⟨λv' s' e' a' w' κ' β' δ' chain h=>by cases h⟩ (hd p hpL) hok (λe' s' a' w' hok' hr'=>?_) hr
    refine ih (listed.setIfInBounds p.1 true) (A++D) e' s' a' w' (by simp at hlen |-;omega) (λj=>?_) ?_ (λq hq=>hops q (hmem q hq)) (λq hq=>hd q (hmem q hq)) (λq hq=>haft q (hmem q hq)) (by simpa using hsz) (λi o' ed hi' hed hb hz=>?_) hok' hr'
    ·by_cases hj:j=p.1
     ·subst hj
      constructor
      ·intro h;simp[Array.getD,his] at h
      ·rintro⟨q,hq,hqi⟩
       exfalso
       rcases List.mem_append.1 hq with hq|hq
       ·have:=(pAD q hq p Yc).1;omega
       ·have:=((List.pairwise_cons.1 pD).1 q hq).1;omega
     ·have e1:(listed.setIfInBounds p.1 true).getD j true=listed.getD j true:=by
       simp only[Yl,Array.getElem?_setIfInBounds_ne (Ne.symm hj)]
      rw[e1,hL j]
      constructor
      ·rintro⟨q,hq,hqi⟩
       refine⟨q,?_,hqi⟩
       rcases List.mem_append.1 hq with hq|hq
       ·exact Ym _ hq
       ·rcases List.mem_cons.1 hq with rfl|hq
        ·exact absurd hqi.symm hj
        ·exact Yq _ hq
      ·rintro⟨q,hq,hqi⟩
       exact⟨q,hmem q hq,hqi⟩
    ·exact List.pairwise_append.2 ⟨pA,(List.pairwise_cons.1 pD).2,λy hy z hz=>pAD y hy z (Yb _ hz)⟩
    ·have hne:ed.on≠p.1:=λe=>by rw[e] at hz;simp[Array.getD,his] at hz
     have hz':listed.getD ed.on true=false:=by
      simp only[Yl,Array.getElem?_setIfInBounds_ne (Ne.symm hne)] at hz |-
      exact hz
     have hold:=hup i o' ed hi' hed hb hz'
     by_cases hip:i=p.1
     ·exfalso
      subst hip
      rw[ho] at hi'
      cases hi'
      have hbd:Region.binds md ed=true:=by
       unfold Region.binds
       unfold bindsAll at hb
       cases hg:ed.ground<;>rw[hg] at hb<;>first|rfl|cases hb
      have hl:=hdep ed (Array.mem_toList_iff.1 hed) hbd
      have hys:ed.on<listed.size:=by
       rcases Nat.lt_or_ge ed.on listed.size with h|h
       ·exact h
       ·rw[Yl,Array.getElem?_eq_none h] at hz';cases hz'
      have e1:listed.getD ed.on true=listed[ed.on]:=by simp[Array.getD,hys]
      have e2:listed.getD ed.on false=listed[ed.on]:=by simp[Array.getD,hys]
      rw[e1] at hz'
      rw[e2,hz'] at hl
      cases hl
     ·simp only[Yl,Array.getElem?_setIfInBounds_ne (Ne.symm hip)] at hold |-
      exact hold
theorem QgK(hT:∀ t,TyOK P C t)(hF:GF F)(hcl:CallsOK P C cl)(hB:B<=w0.heap.size)(hG:GlobOK C κ0){ops:Array Oper}{f:FuncId}{id:Nat}{r:Bool}{rts:List (Option Nat)}{Q:Exit->Act->World->Prop}{R:Out × St}{k:Env->St->Res}
  {rk:List Nat} (hchk:drawOK C r f ops.toList rk (mkL 0 ops.toList rts)=true) (hd:∀ o ∈ ops.toList,∀ d,o.dst=some d->d<N)
  (hQ:∀ e s a w,OkX C κ0 w0 B N e s a w->k e s=some R->Q .normal a w) (hok:OkX C κ0 w0 B N e s a w)
  (h:opsK C cl true r f ops.toList ops.toList rts e s k=some R):(Code.region id ops true).wpIn F 0 P Q a w:=by
 rw[Qap 0] at h
 rcases Qcx hcl.quiet (C:=C) (cl:=cl) (r:=r) (f:=f) (all:=ops.toList) (mkL 0 ops.toList rts) e s with hn|⟨e1,s1,hdet⟩
 ·rw[hn] at h;cases h
 ·rw[hdet] at h
  let k1:Env->St->Res:=λe' s'=>by
   classical
   exact if Same e1 e'/\s'=s1 then some (.ret .und,s1) else none
  have hk1:Resp k1:=λe e' s hs=>by
   have:(Same e1 e/\s=s1)↔(Same e1 e'/\s=s1):=⟨λ⟨a,b⟩=>⟨λi=>(a i).trans (hs i),b⟩,λ⟨a,b⟩=>⟨λi=>(a i).trans (hs i).symm,b⟩⟩
   simp only[k1]
   by_cases hc:Same e1 e/\s=s1
   ·rw[if_pos hc,if_pos (this.1 hc)]
   ·rw[if_neg hc,if_neg (λx=>hc (this.2 x))]
  have hrun:runK C cl r f ops.toList (mkL 0 ops.toList rts) e s k1=some (.ret .und,s1):=by
   rw[hdet]
   simp only[k1]
   rw[if_pos ⟨λ_=>rfl,rfl⟩]
  obtain⟨hpw,haft⟩:=Q64 (QbC ops.toList ops.toList [] [] rfl rfl (by simp)) hchk
  have hok':OkX C κ0 w0 B N e s a { w with drawn:=w.drawn+1 }:=by
   obtain⟨κ,β,δ,hok⟩:=hok
   exact⟨κ,β,δ,hok.turn (Mv.drew κ w) hok.inv.drew⟩
  have hany:∀ md,wpAnyIn F 0 P md ops Q ops.size (Array.replicate ops.size false) a { w with drawn:=w.drawn+1 }:=λmd=>
   Qi5 hT hF hcl hB hG hk1 (v:=.und) (s1:=s1) (λe' s' a' w' hok' hk'=>by
    simp only[k1] at hk'
    split at hk'
    ·rename_i hs
     refine hQ e1 s1 a' w' ?_ h
     rw[<-hs.2]
     exact hok'.same λi=>(hs.1 i).symm
    ·cases hk') ops.size _ (mkL 0 ops.toList rts) e s a _ (by rw[QdX];simp) (λi=>by
     constructor
     ·intro hi
      have hlt:i<ops.size:=by
       rcases Nat.lt_or_ge i ops.size with h|h
       ·exact h
       ·rw[Yl,Array.getElem?_eq_none (by simpa using h)] at hi;cases hi
      obtain⟨p,hp,he⟩:=QdW (n:=0) (os:=ops.toList) (rts:=rts) (i:=i) (by simpa using hlt)
      exact⟨p,hp,by omega⟩
     ·rintro⟨p,hp,rfl⟩
      obtain⟨_,h2⟩:=Q4R hp
      have hlt:p.1<ops.size:=by
       have:=(List.getElem?_eq_some_iff.1 h2).1
       simpa using this
      simp[Array.getD,hlt]) hpw (λp hp=>by
     obtain⟨_,h2⟩:=Q4R hp
     simpa using h2) (λp hp=>hd _ (by
     obtain⟨_,h2⟩:=Q4R hp
     exact List.mem_of_getElem? h2)) (rk:=rk) (by simpa using haft) (by simp) (λi o' ed hi' _ _ _=>by
     have hlt:i<ops.size:=(Array.getElem?_eq_some_iff.1 hi').1
     simp[Array.getD,hlt]) hok' hrun
  refine wpIn_region_draw λt=>?_
  unfold Region.schedule
  split
  ·exact wpAnyIn_sound _ _ _ _ _ (hany .any)
  ·exact wpAnyIn_sound _ _ _ _ _ (hany _)
end
end Go.Am
namespace Go.Am
open Go Go.RowKit
def exitOf:AExit->Exit
 |.normal=>.normal
 |.exit id=>.exit id
 |.ret=>.ret
section
variable {P:Program} {C:Cfg} {κ κ' κ0:Kn} {B B' N:Nat} {s s':St} {w w' w0:World} {e:Env} {a:Act} {β:Nat->Option Nat} {δ:List Nat} {cl:CallFn} {F:Fence}
theorem Qah(ks:List Nat)(e:Env)(i:Nat):(keepE ks e).get i=keepS (e.get i)\/(keepE ks e).get i = .none:=by
 unfold keepE
 induction ks with
 |nil=>exact .inr rfl
 |cons k ks ih=>
   rw[Yi,Env.get_cons]
   by_cases h:k=i
   ·subst h;rw[if_pos rfl];exact .inl rfl
   ·rw[if_neg h];exact ih
theorem QeP(ks:List Nat)(e:Env)(i:Nat):(stripE ks e).get i=stripS (e.get i)\/(stripE ks e).get i = .none:=by
 unfold stripE
 induction ks with
 |nil=>exact .inr rfl
 |cons k ks ih=>
   rw[Yi,Env.get_cons]
   by_cases h:k=i
   ·subst h;rw[if_pos rfl];exact .inl rfl
   ·rw[if_neg h];exact ih
theorem OkX.keep(ks:List Nat)(h:OkX C κ0 w0 B N e s a w):OkX C κ0 w0 B N (keepE ks e) s a w:=by
 obtain⟨κ,β,δ,h⟩:=h
 refine⟨κ,β,δ,h.mv,h.inv,h.fr.size,λi=>?_,λi g d off hi=>?_,h.fr.priv,h.fr.inj,h.fr.defers,h.fr.dpriv,h.fr.dnodup⟩
 ·rcases Qah ks e i with hg|hg
  ·rw[hg]
   have:=h.fr.ent i
   cases hx:e.get i<;>rw[hx] at this<;>first|exact this|trivial
  ·rw[hg];trivial
 ·rcases Qah ks e i with hg|hg
  ·rw[hg] at hi
   cases hx:e.get i<;>rw[hx] at hi<;>cases hi
  ·rw[hg] at hi;cases hi
theorem Qei{c:Slot}{x y:Res}{R:Out × St}(h:condS c x y=some R):∃ t,c = .val (.bool t)/\(if t then x else y)=some R:=by
 unfold condS Slot.bool? at h
 split at h
 ·rename_i t ht
  split at ht
  ·cases ht
   exact⟨t,rfl,by cases t<;>exact h⟩
  ·cases ht
 ·cases h
theorem Post.then{Q:Exit->Act->World->Prop}{R:Out × St}(h:Post P C κ0 w0 B N Q R)(K:Act->World->Prop):Post P C κ0 w0 B N (Exit.then K Q) R:=⟨h.pan⟩
theorem Post.block{Q:Exit->Act->World->Prop}{R:Out × St}(h:Post P C κ0 w0 B N Q R)(id:Nat):Post P C κ0 w0 B N (Exit.inBlock id Q) R:=⟨h.pan⟩
theorem QcA{loc:Nat}{st:LSt}{p:Option AExit}(h:setLoop loc st p s=some s'):∃ st0 p0 f env ps x y,s.locs[loc]? = some (.loop st0 p0 f env ps x y)/\s'={ s with locs:=s.locs.set loc (.loop st p f env ps x y) }:=by
 unfold setLoop at h
 split at h
 ·rename_i hl;cases h;exact⟨_,_,_,_,_,_,_,hl,rfl⟩
 ·cases h
theorem Ok.deferred(h:Ok C κ0 w0 B N e s a w κ β δ):Ok C κ0 w0 B N e s { a with defers:=mark w.heap.size::a.defers } (w.alloc (.deferred (some []))) κ β (w.heap.size::δ):=by
 have hg:=World.grownBy_alloc w (.deferred (some [])) none
 have hm:=Mv.grown κ hg
 have hf:=h.fr.move hm
 have hnw:¬ Wr κ w.heap.size:=λhw=>by have:=(h.inv.wr_lt hw).2;omega
 have hlt:∀ r ∈ δ,r<w.heap.size:=λr hr=>(Array.getElem?_eq_some_iff.1 (h.fr.dpriv r hr).2.1).1
 refine⟨h.mv.trans hm,h.inv.grown hg,hf.size,hf.ent,hf.ptr,hf.priv,hf.inj,by simp[hf.defers],λr hr=>?_,List.nodup_cons.2 ⟨λhr=>?_,hf.dnodup⟩⟩
 ·rcases List.mem_cons.1 hr with rfl|hr
  ·refine⟨h.mv.size,heap_alloc_new w _,hnw,λo=>?_,λi hi=>?_⟩
   ·cases ho:κ.im w.heap.size o with
    |none=>rfl
    |some v=>have:=h.inv.im_lt ho;omega
   ·have:=(h.fr.priv i _ hi).2.1
    omega
  ·exact hf.dpriv r hr
 ·have:=hlt _ hr
  omega
theorem Q1C(w:World)(l:Nat)(o:Go.Obj):w.grownBy (w.putObj l o) (some l):=
 ⟨rfl,rfl,rfl,by simp,λk _ hne=>World.putObj_heap_other (λe=>hne (by rw[e]))⟩
theorem LStR.ne_busy{st:LSt}{x:LoopState}(h:LStR st x)(hb:st≠.busy):x≠.busy:=by
 cases st with
 |busy=>exact absurd rfl hb
 |ready=>simp only[LStR] at h;subst h;simp
 |done=>simp only[LStR] at h;subst h;simp
 |exhausted=>simp only[LStR] at h;subst h;simp
theorem Q18{b:Frame}{k:List Item}{cs:List Frame}{c:Code}:step P (lone (b.atR a (.code (.scope c)::k)) cs w) = .next (lone (b.atR a (.code c :: .inScope c::k)) cs w):=
 step_lone_go (by cases h:b.roundOf<;>simp[stepG,stepG.exec,Frame.atR,h])
theorem Qbb{b:Frame}{k:List Item}{cs:List Frame}{c:Code}:step P (lone (b.atR a (.inScope c::k)) cs w) = .next (lone (b.atR a k) cs w):=
 step_lone_go (by cases h:b.roundOf<;>simp[stepG,stepG.exec,Frame.atR,h])
def noGoto(Q:Exit->Act->World->Prop):Exit->Act->World->Prop
 |.goto _,_,_=>False
 |e,a,w=>Q e a w
theorem Qf3{n:Nat}{Q:Exit->Act->World->Prop}{c:Code}(h:c.wpIn F n P (noGoto Q) a w):(Code.scope c).wpIn F n P Q a w:=by
 intro b k cs hro hb hr
 have h0:(lone (b.atR a (.code (.scope c)::k)) cs w).fenced P F:=fenced_calm hb hr rfl
 obtain⟨e,a₁,w₁,hq,harr⟩:=h b (.inScope c::k) cs hro hb hr
 cases e with
 |normal=>exact⟨.normal,a₁,w₁,hq,.head h0 Q18 (StepsIn.trans harr (.one (fenced_calm hb hr rfl) Qbb))⟩
 |exit id=>
   have hx:exitTo id (.inScope c::k)=exitTo id k:=by simp[exitTo]
   exact⟨.exit id,a₁,w₁,hq,λk' hk=>.head h0 Q18 (harr.1 k' (by rw[hx];exact hk)),
    λhr' hk=>let ⟨k₁,h1,h2⟩:=harr.2 hr' (by rw[hx];exact hk);⟨k₁,h1,.head h0 Q18 h2⟩⟩
 |goto l=>exact hq.elim
 |ret=>exact⟨_,a₁,w₁,hq,.of_steps (.one h0 Q18) harr⟩
 |panic ch=>exact⟨_,a₁,w₁,hq,.of_steps (.one h0 Q18) harr⟩
 |outgrown=>exact⟨_,a₁,w₁,hq,.of_steps (.one h0 Q18) harr⟩
theorem Q7F(hT:∀ t,TyOK P C t)(hcl:CallsOK P C cl)(hB:B<=w0.heap.size)(hG:GlobOK C κ0){m:Nat}{g rd:Bool}{f:FuncId}(hF:GF F)(hrd:rd=false->F=Fence.wide) :
  ∀ (c:Code),okCode C f N c=true->∀ {Q:Exit->Act->World->Prop} {R:Out × St} {k:K} {e:Env} {s:St} {a:Act} {w:World},Post P C κ0 w0 B N Q R->
    (∀ x e s a w,OkX C κ0 w0 B N e s a w->k x e s=some R->Q (exitOf x) a w)->OkX C κ0 w0 B N e s a w->exec C cl m g rd f c e s k=some R->c.wpIn F 0 P Q a w:=by
 intro c
 induction c with
 |skip=>intro _ Q R k e s a w hP hQ hok h;exact wpIn_skip (hQ .normal _ _ _ _ hok h)
 |label l=>intro _ Q R k e s a w hP hQ hok h;exact wpIn_label (hQ .normal _ _ _ _ hok h)
 |exit id=>intro _ Q R k e s a w hP hQ hok h;exact wpIn_exit (hQ (.exit id) _ _ _ _ hok h)
 |ret=>intro _ Q R k e s a w hP hQ hok h;exact wpIn_ret (hQ .ret _ _ _ _ hok h)
 |goto l=>intro hc;cases hc
 |scope b ih=>
   intro hc Q R k e s a w hP hQ hok h
   exact Qf3 (ih hc (Q:=noGoto Q) ⟨hP.pan⟩ (λx e s a w h1 h2=>by
    have:=hQ x e s a w h1 h2
    cases x<;>exact this) hok h)
 |region id ops draw=>
   intro hc Q R k e s a w hP hQ hok h
   simp only[okCode,Ya,List.all_eq_true] at hc
   obtain⟨hd,hdr⟩:=hc
   have hd':∀ o ∈ ops.toList,∀ d,o.dst=some d->d<N:=λo ho d hod=>by
    have:=hd o ho
    rw[hod] at this
    exact Nat.le_of_ble_eq_true this
   simp only[exec] at h
   obtain⟨e,s,hok,h⟩:=QbS hT _ hok h
   cases draw with
   |true=>
     simp only[Bool.not_true,Bool.false_or] at hdr
     exact QgK hT hF hcl hB hG hdr hd' (λe s a w h1 h2=>hQ .normal e s a w h1 h2) hok h
   |false=>
     refine wpIn_region ?_
     have hlen:ops.toList.length=ops.size:=by simp
     have hpairs:=λp hp=>Q4R (n:=0) (os:=ops.toList) (rts:=[]) (p:=p) hp
     have hL:((mkL 0 ops.toList []).map λp=>(p.1,p.2.1)).map (·.1)=List.range ops.size:=by
      rw[List.map_map,<-hlen,List.range_eq_range']
      generalize ops.toList=os
      have:∀ n (os:List Oper) (rts:List (Option Nat)),(mkL n os rts).map ((λx:Nat × Oper=>x.1) ∘ λp=>(p.1,p.2.1))=List.range' n os.length:=by
       intro n os
       induction os generalizing n with
       |nil=>intro rts;rfl
       |cons o os ih=>intro rts;simp[mkL,List.range'_succ,ih]
      exact this 0 os []
     have hL2:((mkL 0 ops.toList []).map λp=>(p.1,p.2.1)).map (·.2)=ops.toList:=by
      rw[List.map_map]
      have:∀ n (os:List Oper) (rts:List (Option Nat)),(mkL n os rts).map ((λx:Nat × Oper=>x.2) ∘ λp=>(p.1,p.2.1))=os:=by
       intro n os
       induction os generalizing n with
       |nil=>intro rts;rfl
       |cons o os ih=>intro rts;simp[mkL,ih]
      exact this 0 _ []
     rw[<-hL]
     refine Qe0 hT hF hcl hB hG hP (k:=λe s=>k .normal e s) (λe s a w h1 h2=>hQ .normal e s a w h1 h2) _ _ e s a w (λp hp=>?_) (λp hp d hd2=>?_) hok (by rw[hL2];exact h)
     ·obtain⟨q,hq,rfl⟩:=List.mem_map.1 hp
      simpa using (hpairs q hq).2
     ·obtain⟨q,hq,rfl⟩:=List.mem_map.1 hp
      exact hd' _ (List.mem_of_getElem? (hpairs q hq).2) d hd2
 |seq x y ihx ihy=>
   intro hc Q R k e s a w hP hQ hok h
   simp only[okCode,Ya] at hc
   refine wpIn_seq (ihx hc.1 (hP.then _) (λx e s a w hok h=>?_) hok h)
   cases x with
   |normal=>
     simp only[] at h
     unfold cutK at h
     split at h
     ·unfold cutN at h
      cases g with
      |false=>cases h
      |true=>exact ihy hc.2 hP hQ (hok.keep _) h
     ·exact ihy hc.2 hP hQ hok h
   |exit id=>exact hQ (.exit id) _ _ _ _ hok h
   |ret=>exact hQ .ret _ _ _ _ hok h
 |cond c x y ihx ihy=>
   intro hc Q R k e s a w hP hQ hok h
   simp only[okCode,Ya] at hc
   obtain⟨t,ht,h⟩:=Qei h
   have hv:a.eval c = .bool t:=by
    obtain⟨κ,β,δ,ho⟩:=hok
    have:=Zv ho.fr (ho.glob hG) c
    rw[ht] at this
    exact this
   refine wpIn_cond hv ?_
   cases t with
   |true=>exact ihx hc.1 hP hQ hok h
   |false=>exact ihy hc.2 hP hQ hok h
 |block id b ih=>
   intro hc Q R k e s a w hP hQ hok h
   refine wpIn_block (ih hc (hP.block id) (λx e s a w hok h=>?_) hok h)
   cases x with
   |normal=>exact hQ .normal _ _ _ _ hok h
   |ret=>exact hQ .ret _ _ _ _ hok h
   |exit j=>
     simp only[] at h
     show Exit.inBlock id Q (.exit j) a w
     unfold Exit.inBlock
     cases hj:Nat.beq j id with
     |true=>
       rw[hj] at h
       have:=Yf hj
       simp only[this,if_true]
       exact hQ .normal _ _ _ _ hok h
     |false=>
       rw[hj] at h
       have:j≠id:=λe=>by subst e;simp at hj
       simp only[this,if_false]
       exact hQ (.exit j) _ _ _ _ hok h
 |loop b ih=>
   intro hc Q R k e s a w hP hQ hok h
   refine wpIn_loop_rounds m ?_
   unfold exec loopK at h
   have aux:∀ (n:Nat) (e:Env) (s:St) (a:Act) (w:World),OkX C κ0 w0 B N e s a w->loopN (λe s k=>exec C cl m g rd f b e s k) (C.keep f (regionOf b)) n e s k=some R->Code.roundsIn F 0 P b Q n a w:=by
    intro n
    induction n with
    |zero=>intro e s a w _ h;cases h
    |succ n ihn=>
      intro e s a w hok h
      rw[roundsIn_succ]
      refine ih hc (hP.then _) (λx e s a w hok h=>?_) hok h
      cases x with
      |normal=>exact ihn _ _ _ _ (hok.keep _) h
      |exit id=>exact hQ (.exit id) _ _ _ _ hok h
      |ret=>exact hQ .ret _ _ _ _ hok h
   exact aux m _ s a w (hok.keep _) h
 |rangeFunc fv ps x y ihx ihy=>
   intro hc Q R k e s a w hP hQ hok h
   simp only[okCode,Ya,List.all_eq_true] at hc
   simp only[exec] at h
   cases rd with
   |true=>cases h
   |false=>
     simp only[cond_false] at h
     have hFw:=hrd rfl
     subst hFw
     unfold tgtV at h
     simp only[avs] at h
     split at h
     ·rename_i g0 l ht
      split at ht
      ·rename_i f0 caps hgv
       cases ht
       cases hext:(C.ext g0).isSome with
       |true=>rw[hext] at h;cases h
       |false=>
         rw[hext] at h
         simp only[cond_false,Yo] at h
         obtain⟨κ,β,δ,ho⟩:=hok
         have hGκ:=ho.glob hG
         have hfv:=Zv ho.fr hGκ fv
         rw[hgv] at hfv
         simp only[SR,VR] at hfv
         obtain⟨cs,hcs,hval⟩:=hfv
         have hdisj:=Q5W h
         have hex:∃ r,cl (.f g0) (.yld s.locs.length::caps) (s.addLoc (.loop .ready none f (stripE (C.keep f (regionOf x)) e) ps.toList x y))=some r:=by
          rcases hdisj with ⟨v,s2,h1,_⟩|⟨v,s2,h1,_⟩<;>exact⟨_,h1⟩
         obtain⟨r,hr⟩:=hex
         have ho1:=ho.deferred
         have hsz1:(w.alloc (.deferred (some []))).heap.size=w.heap.size+1:=by simp
         refine wpIn_rangeFunc λfn _=>?_
         have hBw1:B<=(w.alloc (.deferred (some []))).heap.size:=by have:=Nat.le_trans hB ho.mv.size;rw[hsz1];omega
         have hrec:ObjR C (κ.addLoc s.locs.length (w.alloc (.deferred (some []))).heap.size) (.loop { state:=.ready,pending:=none,fn:=fn,tmps:=a.tmps,params:=ps,assign:=x,body:=y,defers:=w.heap.size }) (.loop .ready none f (stripE (C.keep f (regionOf x)) e) ps.toList x y):=by
          refine⟨_,rfl,rfl,rfl,rfl,rfl,rfl,⟨N,ho.fr.size,hc.2.1,hc.2.2,λp hp=>Nat.le_of_ble_eq_true (hc.1 p hp)⟩,λi=>?_⟩
          ·have hle:LE κ (κ.addLoc s.locs.length (w.alloc (.deferred (some []))).heap.size):=ho.inv.addLoc_le _
           rcases QeP (C.keep f (regionOf x)) e i with hg|hg
           ·rw[hg]
            have:=ho.fr.ent i
            cases hx:e.get i with
            |s v=>rw[hx] at this;exact SR.mono hle this
            |none=>trivial
            |var c=>trivial
            |ptr g d off=>trivial
           ·rw[hg];trivial
         obtain⟨hI2,hM2⟩:=ho1.inv.addLoc hBw1 hrec
         have ho2:=ho1.turn hM2 hI2
         have hargs:VRl (κ.addLoc s.locs.length (w.alloc (.deferred (some []))).heap.size) (.yld s.locs.length::caps) (.func (.yield (w.heap.size+1)) #[] #[]::cs):=
          ⟨_,_,rfl,⟨w.heap.size+1,by simp[Kn.addLoc],rfl⟩,VRl.mono hM2.le _ _ hcs⟩
         have hcall:=hcl.f g0 _ _ r.1 r.2 hr _ B _ _ hI2 (ho2.glob hG) (Nat.le_trans hBw1 hM2.size) hargs
         have hent:=hcl.enter g0 _ _ _ hr hext
         refine⟨w.heap.size+1,[mark w.heap.size],_,{ target:=.fn (.func g0) cs.toArray,args:=#[.func (.yield (w.heap.size+1)) #[] #[]] },((w.alloc (.deferred (some []))).alloc (.loop { state:=.ready,pending:=none,fn:=fn,tmps:=a.tmps,params:=ps,assign:=x,body:=y,defers:=w.heap.size })),g0,(.func (.yield (w.heap.size+1)) #[] #[]::cs).toArray,((w.alloc (.deferred (some []))).alloc (.loop { state:=.ready,pending:=none,fn:=fn,tmps:=a.tmps,params:=ps,assign:=x,body:=y,defers:=w.heap.size })),run_enterLoop_outer fn a.tmps ps x y,?_,λ_ _=>trivial,?_,λh=>(by cases h),?_⟩
         ·show (Deferred.ofValue (a.eval fv) ((#[.const (.func (.yield (w.heap.size+1)) #[] #[])]:Array Operand).map a.eval)).run P _=_
          rw[hval]
          simp[Deferred.ofValue,Act.eval]
         ·have:=hent (.func (.yield (w.heap.size+1)) #[] #[]::cs).toArray ((w.alloc (.deferred (some []))).alloc (.loop { state:=.ready,pending:=none,fn:=fn,tmps:=a.tmps,params:=ps,assign:=x,body:=y,defers:=w.heap.size }))
          simpa [invoke] using this
         ·have hin:CallsIn Fence.wide 0 P g0 (.func (.yield (w.heap.size+1)) #[] #[]::cs).toArray ((w.alloc (.deferred (some []))).alloc (.loop { state:=.ready,pending:=none,fn:=fn,tmps:=a.tmps,params:=ps,assign:=x,body:=y,defers:=w.heap.size })) (CPost C (κ.addLoc s.locs.length (w.alloc (.deferred (some []))).heap.size) B ((w.alloc (.deferred (some []))).alloc (.loop { state:=.ready,pending:=none,fn:=fn,tmps:=a.tmps,params:=ps,assign:=x,body:=y,defers:=w.heap.size })) r.1 r.2):=by
           rcases hcall with ⟨v,w',hrun,_⟩|⟨_,hin⟩
           ·rw[hent] at hrun;cases hrun
           ·exact hin
          refine hin.mono λen w3 hp=>?_
          obtain⟨κ3,hM3,hI3,hout⟩:=hp
          have ho3:=ho2.turn hM3 hI3
          rcases hdisj with ⟨v,s2,h1,h2⟩|⟨v,s2,h1,rfl⟩
          ·rw[hr] at h1
           cases h1
           cases en with
           |returned u=>
             unfold endK endX at h2
             split at h2
             ·rename_i st pend f' env' ps' x' y' hloc
              have hbusy:st≠.busy:=λe=>by subst e;cases h2
              have h3:bindS (setLoop s.locs.length .exhausted pend s2) (λs=>pendK pend k e s)=some R:=by
               cases st<;>first|exact absurd rfl hbusy|exact h2
              have hs4:setLoop s.locs.length .exhausted pend s2=some { s2 with locs:=s2.locs.set s.locs.length (.loop .exhausted pend f' env' ps' x' y') }:=by
               unfold setLoop;rw[hloc]
              rw[hs4] at h3
              simp only[bindS] at h3
              obtain⟨b,o,hb1,hb2,hb3,hb4⟩:=hI3.locs _ _ hloc
              have hbl:b=w.heap.size+1:=by
               have:=hM3.le.loc s.locs.length (w.heap.size+1) (by simp[Kn.addLoc])
               rw[hb1] at this
               exact Option.some.inj this
              subst hbl
              obtain⟨L,rfl,q1,q2,q3⟩:=hb4
              have hlt:=(Array.getElem?_eq_some_iff.1 hb3).1
              have hend:=run_endLoop (P:=P) hb3 (q1.ne_busy hbusy)
              obtain⟨hI4,hM4⟩:=hI3.setLoc (w':=w3.putObj (w.heap.size+1) (.loop { L with state:=.exhausted })) hb1 (hI3.lv _ _ hloc (by simp)) (x:=.loop .exhausted pend f' env' ps' x' y') ⟨{ L with state:=.exhausted },rfl,rfl,q2,q3⟩ (World.putObj_heap_same hlt) (Q1C _ _ _) (λcs t z e=>by rw[hb3] at e;cases e)
              have ho4:OkX C κ0 w0 B N e { s2 with locs:=s2.locs.set s.locs.length (.loop .exhausted pend f' env' ps' x' y') } { a with defers:=[mark w.heap.size]++a.defers } (w3.putObj (w.heap.size+1) (.loop { L with state:=.exhausted })):=⟨_,_,_,ho3.turn hM4 hI4⟩
              refine⟨L.pending,_,hend,?_⟩
              cases pend with
              |none=>
                simp only[PendR] at q2
                rw[q2] at ho4 |-
                exact hQ .normal _ _ _ _ ho4 h3
              |some xx=>
                cases xx with
                |normal=>exact q2.elim
                |ret=>
                  simp only[PendR] at q2
                  rw[q2] at ho4 |-
                  exact wpIn_ret (hQ .ret _ _ _ _ ho4 h3)
                |exit id=>
                  simp only[PendR] at q2
                  rw[q2] at ho4 |-
                  exact wpIn_exit (hQ (.exit id) _ _ _ _ ho4 h3)
             ·cases h2
           |panicked c=>exact hout.elim
           |outgrown=>exact hout.elim
          ·rw[hr] at h1
           cases h1
           cases en with
           |returned u=>exact hout.elim
           |panicked c=>exact hP.pan _ _ _ _ _ _ _ _ _ rfl ho3 hout
           |outgrown=>exact hout.elim
      ·cases ht
      ·cases ht
     ·cases h
 |refuse=>intro _ Q R k e s a w hP hQ hok h;cases h
end
end Go.Am
namespace Go.Am
open Go Go.RowKit
structure CodeOK (P:Program) (C:Cfg):Prop where
 ty:∀ t,TyOK P C t
 code : ∀ f fn, C.code f = some fn → P.funcs[f]? = some fn ∧ (fn.name == "runtime.NumGoroutine") = false ∧ ∀ b, fn.body = some b → okCode C f fn.ntmps b = true
 ext:∀ f g l s v s',C.ext f=some g->g l s=some (v,s')->∀ κ B w vs,Inv C κ B s w->GlobOK C κ->B<=w.heap.size->VRl κ l vs->Called P f vs.toArray w (CPost C κ B w (.ret v) s')
 quiet:∀ n,QuietOK C (call C n)
section
variable {P:Program} {C:Cfg} {κ κ' κ0:Kn} {B B' N:Nat} {s s':St} {w w' w0:World} {e:Env} {a:Act} {β:Nat->Option Nat} {δ:List Nat} {cl:CallFn} {F:Fence}
theorem Qd2{t:TypeId}{v z:Value}(h:(Instr.loadAt t v).run P w = .ok z w):(do loadVar t (<-asAddr v):Sem Value).run P w = .ok z w:=by
 unfold Instr.loadAt Instr.sureAddr at h
 split at h
 ·simpa [asAddr] using h
 ·simp[Sem.run_bind,Result.andThen] at h
def resG(tmps:Array Value):ResultVar->Sem Value
 |.tmp t=>pure (tmps.getD t undef)
 |.cell x t=>do loadVar t (<-asAddr (tmps.getD x undef))
theorem QeK(fn:Func)(tmps:Array Value):results fn tmps=(do
  let vs <-fn.results.mapM (resG tmps)
  pure (if h:vs.size=1 then vs[0] else .tuple vs)):=by
 unfold results
 congr 2
theorem Q8U(hT:∀ t,TyOK P C t)(hG:GlobOK C κ)(hf:FrameR κ B' w N e a β δ)(hI:Inv C κ B s w)(r:ResultVar){sl:Slot}(h:resVar C e s r=some sl) :
  ∃ z,(resG a.tmps r).run P w = .ok z w/\SR κ sl z:=by
 cases r with
 |tmp t=>
   simp only[resVar] at h
   cases h
   exact⟨_,rfl,Ent.slot_SR (hf.ent t)⟩
 |cell x t=>
   simp only[resVar] at h
   have h':ldS (C.ti t) false .free (Operand.tmp? (.tmp x)) e s (ent C e (.tmp x))=some sl:=h
   obtain⟨z,h1,h2⟩:=Qcd hT hG hf hI h'
   exact⟨z,Qd2 h1,h2⟩
theorem Q7p(hT:∀ t,TyOK P C t)(hG:GlobOK C κ)(hf:FrameR κ B' w N e a β δ)(hI:Inv C κ B s w):∀ (rs:List ResultVar) {l:List AV},avsO (rs.map (resVar C e s))=some l->
  ∃ vs,(rs.mapM (resG a.tmps)).run P w = .ok vs w/\VRl κ l vs
 |[],l,h=>by
   simp only[Yn,avsO] at h
   cases h
   exact⟨[],by simp,rfl⟩
 |r::rs,l,h=>by
   simp only[Yi,avsO] at h
   split at h
   ·rename_i sl hsl
    split at h
    ·rename_i x hx
     split at h
     ·rename_i l' hl'
      cases h
      obtain⟨z,h1,h2⟩:=Q8U hT hG hf hI r hsl
      obtain⟨vs,h3,h4⟩:=Q7p hT hG hf hI rs hl'
      refine⟨z::vs,?_,z,vs,rfl,h2.av hx,h4⟩
      simp only[List.mapM_cons,Sem.run_bind,h1,Result.andThen_ok,h3,Sem.run_pure]
     ·cases h
    ·cases h
   ·cases h
theorem Qhi(hT:∀ t,TyOK P C t)(hG:GlobOK C κ)(hf:FrameR κ B' w N e a β δ)(hI:Inv C κ B s w){fn:Func}{sl:Slot}(h:resS C e s fn.results.toList=some sl):∃ z,(results fn a.tmps).run P w = .ok z w/\SR κ sl z:=by
 rw[QeK]
 simp only[Array.mapM_eq_mapM_toList]
 generalize fn.results.toList=rs at h
 unfold resS at h
 split at h
 ·rename_i r
  obtain⟨z,h1,h2⟩:=Q8U hT hG hf hI r h
  refine⟨z,?_,h2⟩
  simp only[List.mapM_cons,List.mapM_nil,Sem.run_bind,Sem.run_map,h1,Result.andThen_ok,Sem.run_pure]
  simp
 ·rename_i hne
  unfold tupS at h
  split at h
  ·rename_i l hl
   cases h
   obtain⟨vs,h1,h2⟩:=Q7p hT hG hf hI rs hl
   refine⟨.tuple vs.toArray,?_,?_⟩
   ·simp only[Sem.run_bind,Sem.run_map,h1,Result.andThen_ok,Sem.run_pure]
    have hlen:vs.length=rs.length:=by
     rw[<-h2.length]
     have:∀ (os:List (Option Slot)) (l:List AV),avsO os=some l->l.length=os.length:=by
      intro os
      induction os with
      |nil=>intro l h;simp only[avsO] at h;cases h;rfl
      |cons o os ih=>
        intro l h
        simp only[avsO] at h
        split at h
        ·split at h
         ·split at h
          ·rename_i hl';cases h;simp[ih _ hl']
          ·cases h
         ·cases h
        ·cases h
     simpa using this _ _ hl
    have hn1:vs.length≠1:=by
     rw[hlen]
     intro h1
     obtain⟨r,hr⟩:=List.length_eq_one_iff.1 h1
     exact hne r hr
    simp[hn1]
   ·simp only[SR,VR]
    exact⟨vs,h2,rfl⟩
  ·cases h
theorem Ok.undefer{r:Nat}{δ:List Nat}(h:Ok C κ0 w0 B N e s a w κ β (r::δ)):Ok C κ0 w0 B N e s { a with defers:=δ.map mark } (w.putObj r (.deferred none)) κ β δ:=by
 obtain⟨h1,h2,h3,h4,h5⟩:=h.fr.dpriv r Yc
 have hlt:=(Array.getElem?_eq_some_iff.1 h2).1
 have hg:=Q1C w r (.deferred none)
 have hoth:∀ b,b≠r->(w.putObj r (.deferred none)).heap[b]? = w.heap[b]? :=λb hb=>World.putObj_heap_other hb
 have hnd:=List.nodup_cons.1 h.fr.dnodup
 refine⟨⟨h.mv.le,h.mv.os,h.mv.tape,h.mv.output,by simpa using h.mv.size,λb hb hw=>?_,h.mv.newW,h.mv.newim⟩,⟨λb o v k=>?_,λl x hx=>?_,h.inv.locn,λk L hk=>?_,h.inv.tokn,h.inv.locinj,h.inv.tokinj,h.inv.loctok,h.inv.locim,h.inv.lv,λl e' sz c hc=>?_,h.inv.bls,h.inv.tabs.mono (λ_ v k=>⟨v,k⟩) λb _ _ hv=>hoth b (λe=>by subst e;obtain⟨v,hv⟩:=hv;rw[h4 0] at hv;cases hv)⟩,⟨h.fr.size,λi=>?_,h.fr.ptr,λi b hb=>?_,h.fr.inj,rfl,λx hx=>?_,hnd.2⟩⟩
 ·rw[hoth b (by omega)];exact h.mv.frame b hb hw
 ·have:b≠r:=λe=>by subst e;rw[h4 o] at k;cases k
  exact hg.cell (h.inv.im b o v k) (λe=>this (by cases e;rfl))
 ·obtain⟨b,o,k1,k2,k3,k4⟩:=h.inv.locs l x hx
  by_cases hd:x = .dead
  ·subst hd
   exact Q2K k1 k2 k3 (by simp)
  have:b≠r:=λe=>by subst e;exact h3 (.inl ⟨l,k1,h.inv.lv l x hx hd⟩)
  exact⟨b,o,k1,k2,by rw[hoth b this];exact k3,k4⟩
 ·obtain⟨e,v,k1,k2⟩:=h.inv.toks k L hk
  refine⟨e,v,k1,λg k3=>?_⟩
  obtain⟨xs,k2,k4⟩:=k2 g k3
  refine⟨xs,k2.kept hg (.inr λe'=>?_),k4⟩
  exact h3 (.inr ⟨k,L,e,v,k1,e'⟩)
 ·obtain⟨k1,k2,k3,k4,k5⟩:=h.inv.caps l e' sz c hc
  refine⟨k1,k2,k3,k4,λgl b hb=>?_⟩
  obtain⟨cs,k6,k7⟩:=k5 gl b hb
  exact⟨cs,by rw[hoth b (λe=>by subst e;exact h3 (.inl ⟨l,hb,gl⟩))];exact k6,k7⟩
 ·have:=h.fr.ent i
  cases hx:e.get i with
  |none=>trivial
  |s v=>rw[hx] at this;exact this
  |ptr g d off=>rw[hx] at this;exact this
  |var cs=>
    rw[hx] at this
    obtain⟨b,cs',t,k1,k2,k3,k4⟩:=this
    have:b≠r:=λe=>by subst e;exact h5 i k1
    exact⟨b,cs',t,k1,k2,by rw[hoth b this];exact k3,k4⟩
 ·obtain⟨k1,k2,k3⟩:=h.fr.priv i b hb
  exact⟨k1,by simpa using k2,k3⟩
 ·obtain⟨k1,k2,k3⟩:=h.fr.dpriv x (Yb _ hx)
  have:x≠r:=λe=>by subst e;exact hnd.1 hx
  exact⟨k1,by rw[hoth x this];exact k2,k3⟩
theorem Q5i{fn:Func}{R:Ending->World->Prop}{u:FrameMode}(hu:u≠.run){tmps:Array Value}(fin:∀ a w,Ok C κ0 w0 B N e s a w κ β []->a.tmps=tmps->LeavesIn Fence.wide 0 P fn tmps R [] u w) :
  ∀ (δ:List Nat) (a:Act) (w:World),Ok C κ0 w0 B N e s a w κ β δ->a.tmps=tmps->LeavesInM Fence.wide 0 P fn tmps R (δ.map mark) u w
 |[],a,w,h,ht=>fin a w h ht
 |r::δ,a,w,h,ht=>by
   obtain⟨h1,h2,_⟩:=h.fr.dpriv r Yc
   exact⟨hu,.inl ⟨r,_,rfl,run_takeDeferred h2,Q5i hu fin δ _ _ h.undefer ht⟩⟩
theorem Q7B:∀ (n:Nat) (l:List AV) (i:Nat),(argE n l).get i=if n<=i then (match l[i - n]? with|some v=>.s (.val v)|none=>.none) else .none
 |n,[],i=>by simp[argE,Env.get]
 |n,v::l,i=>by
   rw[argE,Env.get_cons,Q7B (n+1) l i]
   by_cases h:n=i
   ·subst h;simp
   ·rw[if_neg h]
    by_cases h2:n<=i
    ·rw[if_pos h2,if_pos (by omega)]
     have:i - n=(i - (n+1))+1:=by omega
     rw[this,List.getElem?_cons_succ]
    ·rw[if_neg h2,if_neg (by omega)]
theorem Qhq(hI:Inv C κ B s w){l:List AV}{vs:List Value}(hv:VRl κ l vs){N:Nat}(hN:l.length<=N):Ok C κ w B N (argE 0 l) s { tmps:=vs.toArray++Array.replicate (N - vs.toArray.size) undef,defers:=[] } w κ (λ_=>none) []:=by
 have hlen:=hv.length
 refine⟨.refl _ _,hI,⟨by simp;omega,λi=>?_,λi g d off hi=>?_,λi b hb=>(by cases hb),λi j b hb=>(by cases hb),rfl,by simp,.nil⟩⟩
 ·rw[Q7B]
  simp only[Nat.zero_le,if_true,Nat.sub_zero]
  cases hl:l[i]? with
  |none=>trivial
  |some v=>
    obtain⟨u,hu,hr⟩:=hv.get hl
    have hi:i<vs.length:=(List.getElem?_eq_some_iff.1 hu).1
    show VR κ v _
    rw[Yl,Array.getElem?_append_left (by simpa using hi)]
    simp only[List.getElem?_toArray,hu,Option.getD_some]
    exact hr
 ·rw[Q7B] at hi
  simp only[Nat.zero_le,if_true,Nat.sub_zero] at hi
  cases hl:l[i]?<;>rw[hl] at hi<;>cases hi
end
end Go.Am
namespace Go.Am
open Go Go.RowKit
section
variable {P:Program} {C:Cfg} {κ κ' κ0:Kn} {B B' N:Nat} {s s':St} {w w' w0:World} {e:Env} {a:Act} {β:Nat->Option Nat} {δ:List Nat} {cl:CallFn} {F:Fence}
theorem Q4I {f : FuncId} {fn : Func} (hf : P.funcs[f]? = some fn) (hn : (fn.name == "runtime.NumGoroutine") = false) {b : Code} (hb : fn.body = some b) (args : Array Value) (w : World) : (callFunc f args).run P w = .ok (.enter f args) w := by
 have hn' : ¬ fn.name = "runtime.NumGoroutine" := by simpa using hn
 unfold callFunc
 simp[hf,hn',hb]
theorem Qih(hOK:CodeOK P C)(hcl:CallsOK P C cl){m:Nat}{g:Bool}{f:FuncId}{fn:Func}(hc:C.code f=some fn){b:Code}(hb:fn.body=some b){l:List AV}{o:Out}(hlen:l.length<=fn.ntmps)
  (h:exec C cl m g false f b (argE 0 l) s (outK C fn.results.toList)=some (o,s')) (hI:Inv C κ B s w) (hG:GlobOK C κ) (hB:B<=w.heap.size) {vs:List Value} (hv:VRl κ l vs) :
  CallsIn Fence.wide 0 P f vs.toArray w (CPost C κ B w o s'):=by
 obtain⟨hf,hn,hok⟩:=hOK.code f fn hc
 refine callsIn_of_wp_marks hf hb trivial ?_
 have h0:OkX C κ w B fn.ntmps (argE 0 l) s { tmps:=vs.toArray++Array.replicate (fn.ntmps - vs.toArray.size) undef,defers:=[] } w:=⟨_,_,_,Qhq hI hv hlen⟩
 have ret:∀ x e s1 a w1,OkX C κ w B fn.ntmps e s1 a w1->bind1 (resS C e s1 fn.results.toList) (λv=>some (.ret v,s1))=some (o,s')->LeavesInM Fence.wide 0 P fn a.tmps (CPost C κ B w o s') a.defers .returning w1\/x=AExit.exit 0:=by
  intro x e s1 a w1 ⟨κ1,β1,δ1,h1⟩ hr
  refine .inl ?_
  cases hres:resS C e s1 fn.results.toList with
  |none=>rw[hres] at hr;cases hr
  |some sl=>
    rw[hres] at hr
    simp only[bind1,Option.some.injEq,Prod.mk.injEq] at hr
    obtain⟨rfl,rfl⟩:=hr
    rw[h1.fr.defers]
    refine Q5i (by simp) (λa2 w2 h2 ht=>?_) δ1 a w1 h1 rfl
    obtain⟨z,hz1,hz2⟩:=Qhi hOK.ty (h2.glob hG) h2.fr h2.inv hres
    rw[ht] at hz1
    exact⟨z,hz1,κ1,h2.mv,h2.inv,hz2⟩
 refine Q7F (κ0:=κ) (w0:=w) hOK.ty hcl hB hG (.inl rfl) (λ_=>rfl) b (hok b hb) (Q:=bodyPostM Fence.wide 0 P fn (CPost C κ B w o s')) (R:=(o,s')) ⟨λv s1 e a w1 κ1 β1 δ1 chain hR h1 hch=>?_⟩ (λx e s1 a w1 hok1 hr=>?_) h0 h
 ·cases hR
  show LeavesInM Fence.wide 0 P fn a.tmps _ a.defers (.panicking chain) w1
  rw[h1.fr.defers]
  refine Q5i (by simp) (λa2 w2 h2 ht=>?_) δ1 a w1 h1 rfl
  exact⟨κ1,h2.mv,h2.inv,hch⟩
 ·cases x with
  |normal=>exact (ret .normal e s1 a w1 hok1 hr).resolve_right (by simp)
  |ret=>exact (ret .ret e s1 a w1 hok1 hr).resolve_right (by simp)
  |exit id=>cases hr
theorem Qaw:∀ {ps:List Nat} {args:List AV} {e e1:Env} {vs:List Value} {tmps:Array Value},setPs ps args e=some e1->VRl κ args vs->(∀ i,EntR0 κ (e.get i) (tmps.getD i undef))->(∀ p ∈ ps,p<tmps.size)->
  (∀ i,EntR0 κ (e1.get i) (((ps.zip vs).foldl (λtmps (x:Nat × Value)=>tmps.setIfInBounds x.1 x.2) tmps).getD i undef))/\((ps.zip vs).foldl (λtmps (x:Nat × Value)=>tmps.setIfInBounds x.1 x.2) tmps).size=tmps.size/\ps.length=vs.length
 |[],[],e,e1,vs,tmps,h,hv,he,_=>by
   simp only[setPs] at h
   cases h
   simp only[VRl] at hv
   subst hv
   exact⟨he,rfl,rfl⟩
 |[],_::_,_,_,_,_,h,_,_,_=>by simp[setPs] at h
 |_::_,[],_,_,_,_,h,_,_,_=>by simp[setPs] at h
 |p::ps,x::args,e,e1,vs,tmps,h,hv,he,hp=>by
   simp only[setPs] at h
   simp only[VRl] at hv
   obtain⟨u,us,rfl,hu,hus⟩:=hv
   have hlt:=hp p Yc
   obtain⟨h1,h2,h3⟩:=Qaw (tmps:=tmps.setIfInBounds p u) h hus (λi=>by
    rw[Env.get_cons]
    by_cases hi:p=i
    ·subst hi
     rw[if_pos rfl]
     show VR κ x _
     simpa [Yl,hlt] using hu
    ·rw[if_neg hi]
     have:=he i
     simp only[Yl,Array.getElem?_setIfInBounds_ne hi] at this |-
     exact this) (λq hq=>by simpa using hp q (Yb _ hq))
   simp only[List.zip_cons_cons,List.foldl_cons,Yg]
   exact⟨h1,by simpa using h2,by omega⟩
theorem EntR0.ent:∀ {x:Ent} {v:Value} {i:Nat},EntR0 κ x v->EntR κ w (λ_=>none) i x v
 |.none,_,_,_=>trivial
 |.s _,_,_,h=>h
 |.var _,_,_,h=>h.elim
 |.ptr _ _ _,_,_,h=>h.elim
theorem QfT(hOK:CodeOK P C)(hcl:CallsOK P C cl){m:Nat}{g:Bool}{loc:Nat}{f:FuncId}{e e1:Env}{ps:List Nat}{asg body:Code}(hloc:s.locs[loc]? = some (.loop .ready none f e ps asg body)){l:List AV}(hps:setPs ps l e=some e1){o:Out}
  (h:noPan (exec C cl m g true f asg e1 s (λx e s=>match x with
    |.normal=>bindS (beginL loc s) (λs=>exec C cl m g true f body e s (roundK loc))
    |_=>none))=some (o,s')) (hI:Inv C κ B s w) (hG:GlobOK C κ) (hB:B<=w.heap.size) {vs:List Value} (hv:VRl κ l vs) {b:Nat} (hb:κ.loc loc=some b) :
  ∃ fn t x y,(Instr.yield b vs.toArray).run P w = .ok (.round b fn t x y) w/\RoundIn Fence.wide 0 P b fn t x y w (CPost C κ B w o s'):=by
 obtain ⟨v, hret, h⟩ : ∃ v, o = .ret v ∧ exec C cl m g true f asg e1 s (fun x e s => match x with
    |.normal=>bindS (beginL loc s) (λs=>exec C cl m g true f body e s (roundK loc))
    |_=>none)=some (o,s'):=by
  unfold noPan at h
  split at h
  ·rename_i v s2 hx;cases h;exact⟨v,rfl,hx⟩
  ·cases h
 obtain⟨b',ob,hb1,hb2,hb3,hb4⟩:=hI.locs loc _ hloc
 rw[hb] at hb1
 cases hb1
 obtain⟨L,rfl,q1,q2,q3,q4,q5,⟨N,q6,q7,q8,q9⟩,q10⟩:=hb4
 subst q3 q4 q5
 obtain⟨r1,r2,r3⟩:=Qaw hps hv q10 (λp hp=>by rw[q6];exact q9 p hp)
 have hsz:vs.toArray.size=L.params.size:=by simp[<-r3]
 refine⟨_,_,_,_,run_yield hb3 hsz,?_⟩
 have hfold:(L.params.zip vs.toArray).foldl (λtmps (x:Tmp × Value)=>tmps.setIfInBounds x.1 x.2) L.tmps=(L.params.toList.zip vs).foldl (λtmps (x:Nat × Value)=>tmps.setIfInBounds x.1 x.2) L.tmps:=by
  rw[<-Array.foldl_toList]
  simp
 refine roundIn_of_wpIn trivial ?_
 have h0:OkX C κ w B N e1 s { tmps:=(L.params.zip vs.toArray).foldl (λtmps (x:Tmp × Value)=>tmps.setIfInBounds x.1 x.2) L.tmps,defers:=[] } w:=by
  refine⟨κ,λ_=>none,[],.refl _ _,hI,⟨by rw[hfold,r2,q6],λi=>?_,λi g d off hi=>?_,λi b hb=>(by cases hb),λi j b hb=>(by cases hb),rfl,by simp,.nil⟩⟩
  ·rw[hfold];exact (r1 i).ent
  ·have:=r1 i
   rw[hi] at this
   exact this.elim
 have fin:∀ (st:LSt) (p:Option AExit) (jump:Option Code) (vb:Bool),LStR st (if jump.isNone then .ready else .done)->PendR p jump->vb=jump.isNone->∀ e s1 a w1,OkX C κ w B N e s1 a w1->bindS (setLoop loc st p s1) (λs=>some (.ret (.val (.bool vb)),s))=some (o,s')->
   ∃ v w',(Instr.endRound b jump).run P w1 = .ok v w'/\CPost C κ B w o s' (.returned v) w':=by
  intro st p jump vb hst hp hvb e s1 a w1 ⟨κ1,β1,δ1,h1⟩ hr
  cases hsl:setLoop loc st p s1 with
  |none=>rw[hsl] at hr;cases hr
  |some s2=>
    rw[hsl] at hr
    simp only[bindS,Option.some.injEq,Prod.mk.injEq] at hr
    obtain⟨rfl,rfl⟩:=hr
    obtain⟨st0,p0,f0,env0,ps0,x0,y0,hl0,rfl⟩:=QcA hsl
    obtain⟨b2,o2,k1,k2,k3,k4⟩:=h1.inv.locs loc _ hl0
    have:=h1.mv.le.loc loc b hb
    rw[k1] at this
    cases this
    obtain⟨L2,rfl,p1,p2,p3⟩:=k4
    have hlt:=(Array.getElem?_eq_some_iff.1 k3).1
    have hend:=run_endRound (P:=P) jump k3
    obtain⟨hI4,hM4⟩:=h1.inv.setLoc (w':=w1.putObj b (.loop { L2 with state:=if jump.isNone then .ready else .done,pending:=jump })) k1 (h1.inv.lv loc _ hl0 (by simp)) (x:=.loop st p f0 env0 ps0 x0 y0) ⟨{ L2 with state:=if jump.isNone then .ready else .done,pending:=jump },rfl,hst,hp,p3⟩ (World.putObj_heap_same hlt) (Q1C _ _ _) (λcs t z e=>by rw[k3] at e;cases e)
    exact⟨_,_,hend,κ1,h1.mv.trans hM4,hI4,by subst hvb;simp only[OutR,SR,VR]⟩
 refine Q7F (κ0:=κ) (w0:=w) hOK.ty hcl hB hG (.inr ⟨b,rfl⟩) (λh=>by cases h) L.assign q7 (R:=(o,s')) ⟨λv s1 e a w1 κ1 β1 δ1 chain hR=>by rw[hret] at hR;cases hR⟩ (λx e s1 a w1 hok1 hr=>?_) h0 h
 cases x with
 |exit id=>cases hr
 |ret=>cases hr
 |normal=>
   simp only[] at hr
   cases hbg:beginL loc s1 with
   |none=>rw[hbg] at hr;cases hr
   |some s2=>
     rw[hbg] at hr
     simp only[bindS] at hr
     unfold beginL at hbg
     split at hbg
     ·rename_i p0 f0 env0 ps0 x0 y0 hl0
      cases hbg
      obtain⟨κ1,β1,δ1,h1⟩:=hok1
      obtain⟨b2,o2,k1,k2,k3,k4⟩:=h1.inv.locs loc _ hl0
      have:=h1.mv.le.loc loc b hb
      rw[k1] at this
      cases this
      obtain⟨L2,rfl,p1,p2,p3⟩:=k4
      have hlt:=(Array.getElem?_eq_some_iff.1 k3).1
      have hbeg:=run_beginRound (P:=P) k3 p1
      obtain⟨hI4,hM4⟩:=h1.inv.setLoc (w':=w1.putObj b (.loop { L2 with state:=.busy })) k1 (h1.inv.lv loc _ hl0 (by simp)) (x:=.loop .busy p0 f0 env0 ps0 x0 y0) ⟨{ L2 with state:=.busy },rfl,rfl,p2,p3⟩ (World.putObj_heap_same hlt) (Q1C _ _ _) (λcs t z e=>by rw[k3] at e;cases e)
      refine⟨_,hbeg,?_⟩
      refine Q7F (κ0:=κ) (w0:=w) hOK.ty hcl hB hG (.inr ⟨b,rfl⟩) (λh=>by cases h) L.body q8 (Q:=roundPost P b (CPost C κ B w o s')) (R:=(o,s')) ⟨λv s1 e a w1 κ1 β1 δ1 chain hR=>by rw[hret] at hR;cases hR⟩ (λx e s3 a w3 hok3 hr=>?_) ⟨κ1,β1,δ1,h1.turn hM4 hI4⟩ hr
      cases x with
      |normal=>exact fin .ready none none true rfl rfl rfl _ _ _ _ hok3 hr
      |ret=>exact fin .done (some .ret) (some .ret) false rfl rfl rfl _ _ _ _ hok3 hr
      |exit id=>exact fin .done (some (.exit id)) (some (.exit id)) false rfl rfl rfl _ _ _ _ hok3 hr
     ·cases hbg
theorem Q5Z(hOK:CodeOK P C):∀ n,CallsOK P C (call C n)
 |0=>⟨λf l s r h=>by simp[call] at h,λf l s o s' h=>by simp[call] at h,λloc l s o s' h=>by simp[call] at h,hOK.quiet 0⟩
 |n+1=>by
   have ih:=Q5Z hOK n
   have code:∀ f l s r,(C.ext f).isSome=false->call C (n+1) (.f f) l s=some r->∃ fn b,C.code f=some fn/\fn.body=some b/\l.length<=fn.ntmps/\exec C (call C n) n (gate n) false f b (argE 0 l) s (outK C fn.results.toList)=some r:=by
    intro f l s r hx h
    simp only[call] at h
    cases hext:C.ext f with
    |some g=>rw[hext] at hx;cases hx
    |none=>
      rw[hext] at h
      simp only[] at h
      split at h
      ·rename_i fn hc
       split at h
       ·rename_i b hb
        cases hle:Nat.ble l.length fn.ntmps with
        |false=>rw[hle] at h;cases h
        |true=>rw[hle] at h;exact⟨fn,b,hc,hb,Nat.le_of_ble_eq_true hle,h⟩
       ·cases h
      ·cases h
   refine⟨λf l s r h hx args w=>?_,λf l s o s' h κ B w vs hI hG hB hv=>?_,λloc l s o s' h κ B w vs b hI hG hB hv hb=>?_,hOK.quiet (n+1)⟩
   ·obtain⟨fn,b,hc,hb,_,_⟩:=code f l s r hx h
    obtain⟨hf,hn,_⟩:=hOK.code f fn hc
    exact Q4I hf hn hb args w
   ·cases hx:(C.ext f).isSome with
    |false=>
      obtain⟨fn,b,hc,hb,hlen,he⟩:=code f l s _ hx h
      obtain⟨hf,hn,_⟩:=hOK.code f fn hc
      exact .inr ⟨Q4I hf hn hb _ w,Qih hOK ih hc hb hlen he hI hG hB hv⟩
    |true=>
      obtain⟨g,hg⟩:=Option.isSome_iff_exists.1 hx
      simp only[call,hg] at h
      split at h
      ·rename_i v s' hv'
       cases h
       exact hOK.ext f g l s v s' hg hv' κ B w vs hI hG hB hv
      ·cases h
   ·simp only[call] at h
    split at h
    ·rename_i f e ps asg body hloc
     split at h
     ·rename_i e1 hps
      exact QfT hOK ih hloc hps h hI hG hB hv hb
     ·cases h
    ·cases h
end
end Go.Am
namespace Go.Am
open Go Go.RowKit
def zb:AV->Value->Bool
 |.bool a,.bool b=>a == b
 |.int k a,.int j b=>decide (k=j)&&a == b
 |.str s,.string x=>decide (x.data.toList=s)
 |.nils,.slice none 0 0=>true
 |.nilp,.pointer none=>true
 |.nilf,.nilFunc=>true
 |.nilm,.map none=>true
 |.nili,.nilIface=>true
 |_,_=>false
def zbs:List AV->List Value->Bool
 |[],[]=>true
 |a::l,v::vs=>zb a v&&zbs l vs
 |_,_=>false
def fsB:List (Nat × TypeId)->List Field->Bool
 |[],[]=>true
 |(o,t)::r,f::fs=>Nat.beq f.offset o&&(Nat.beq f.type t&&fsB r fs)
 |_,_=>false
def tkB(P:Program)(t:TypeId)(k:TK):Bool:=
 match k,P.underlying t with
 |.bad,_=>true
 |.bool,some .bool=>true
 |.int k,some (.int j)=>decide (k=j)
 |.str,some .string=>true
 |.ptr,some (.pointer _)=>true
 |.slice e,some (.slice e')=>Nat.beq e e'&&(P.info? e).isSome
 |.struct fs,some (.struct fields)=>fsB fs fields.toList&&fields.toList.all λf=>(P.info? f.type).isSome
 |.array n e,some (.array m e')=>Nat.beq n m&&Nat.beq e e'
 |.map k e,some (.map k' e')=>Nat.beq k k'&&Nat.beq e e'
 |.func,some (.func _ _ _)=>true
 |.iface,some (.interface _)=>true
 |_,_=>false
def infoB(P:Program)(t:TypeId)(ti:TI):Bool:=
 match P.info? t with
 |some i=>Nat.beq i.size ti.size&&(Nat.beq i.bytes ti.bytes&&(match i.zero with
   |some z=>zbs ti.zero z.cells.toList&&(Nat.beq z.cells.size ti.size&&(match z with
     |.agg _=>ti.isAgg
     |z=>!ti.isAgg&&(z.oneCell'&&Nat.beq ti.size 1)))
   |none=>false))
 |none=>false
def flatB(P:Program)(ti:TypeId->TI)(t:TypeId):Bool:=
 bif (ti t).flat.isEmpty then true else !(P.eqGuardType P.depth t)&&(!(P.stoodInHeld t)&&(match P.underlying t with
  | some (.struct fields) => fields.toList.all (fun f => !(f.name == "_")) && (decide (fields.toList.map (·.offset) = List.range (ti t).flat.length) && decide (fields.toList.map (fun f => (ti f.type).k) = (ti t).flat))
  |_=>false))
def tyB(P:Program)(ti:TypeId->TI)(t:TypeId):Bool:=
 match (ti t).k with
 |.bad=>Nat.beq (ti t).size 0&&(ti t).flat.isEmpty
 |k=>tkB P t k&&(infoB P t (ti t)&&flatB P ti t)
section
variable {P:Program} {C:Cfg} {κ:Kn}
theorem QiC{a:AV}{v:Value}(h:zb a v=true):VR κ a v/\v.oneCell'=true:=by
 unfold zb at h
 split at h
 ·simp only[beq_iff_eq] at h;subst h;exact⟨by simp only[VR],rfl⟩
 ·simp only[Ya,decide_eq_true_eq,beq_iff_eq] at h
  obtain⟨rfl,rfl⟩:=h
  exact⟨by simp only[VR],rfl⟩
 ·simp only[decide_eq_true_eq] at h
  exact⟨by simp only[VR];exact⟨_,h,rfl⟩,rfl⟩
 ·exact⟨by simp only[VR],rfl⟩
 ·exact⟨by simp only[VR],rfl⟩
 ·exact⟨by simp only[VR],rfl⟩
 ·exact⟨by simp only[VR],rfl⟩
 ·exact⟨by simp only[VR],rfl⟩
 ·cases h
theorem Q89:∀ {l:List AV} {vs:List Value},zbs l vs=true->VRl κ l vs/\Ones vs
 |[],[],_=>⟨rfl,by intro u hu;simp at hu⟩
 |[],_::_,h=>by cases h
 |_::_,[],h=>by cases h
 |a::l,v::vs,h=>by
   simp only[zbs,Ya] at h
   obtain⟨h1,h2⟩:=QiC (κ:=κ) h.1
   obtain⟨h3,h4⟩:=Q89 h.2
   exact⟨⟨v,vs,rfl,h1,h3⟩,λu hu=>(List.mem_cons.1 hu).elim (λe=>by subst e;exact h2) (h4 u)⟩
theorem QbU:∀ {fs:List (Nat × TypeId)} {l:List Field},fsB fs l=true->l.map (λf=>(f.offset,f.type))=fs
 |[],[],_=>rfl
 |[],_::_,h=>by cases h
 |_::_,[],h=>by simp[fsB] at h
 |(o,t)::r,f::l,h=>by
   simp only[fsB,Ya] at h
   simp[QbU h.2.2,Yf h.1,Yf h.2.1]
theorem Qhu{t:TypeId}{k:TK}(h:tkB P t k=true):KOk P t k/\(∀ e,k = .slice e->(P.info? e).isSome=true)/\(∀ fields:Array Field,P.underlying t=some (.struct fields)->k≠.bad->∀ f ∈ fields.toList,(P.info? f.type).isSome=true):=by
 unfold tkB at h
 split at h
 ·exact⟨trivial,by simp,λ_ _ h=>absurd rfl h⟩
 ·rename_i hu;exact⟨hu,by simp,λfields hf=>by rw[hu] at hf;cases hf⟩
 ·rename_i k j hu
  simp only[decide_eq_true_eq] at h
  subst h
  exact⟨hu,by simp,λfields hf=>by rw[hu] at hf;cases hf⟩
 ·rename_i hu;exact⟨hu,by simp,λfields hf=>by rw[hu] at hf;cases hf⟩
 ·rename_i e hu;exact⟨⟨e,hu⟩,by simp,λfields hf=>by rw[hu] at hf;cases hf⟩
 ·rename_i e e' hu
  simp only[Ya] at h
  have:=Yf h.1
  subst this
  exact⟨hu,λx hx=>by cases hx;exact h.2,λfields hf=>by rw[hu] at hf;cases hf⟩
 ·rename_i fs fields hu
  simp only[Ya,List.all_eq_true] at h
  exact⟨⟨fields,hu,QbU h.1⟩,by simp,λfields' hf _=>by rw[hu] at hf;cases hf;exact h.2⟩
 ·rename_i n e m e' hu
  simp only[Ya] at h
  have h1:=Yf h.1
  have h2:=Yf h.2
  subst h1;subst h2
  exact⟨hu,by simp,λfields hf=>by rw[hu] at hf;cases hf⟩
 ·rename_i k e k' e' hu
  simp only[Ya] at h
  have h1:=Yf h.1
  have h2:=Yf h.2
  subst h1;subst h2
  exact⟨hu,by simp,λfields hf=>by rw[hu] at hf;cases hf⟩
 ·rename_i a b c hu;exact⟨⟨a,b,c,hu⟩,by simp,λfields hf=>by rw[hu] at hf;cases hf⟩
 ·rename_i m hu;exact⟨⟨m,hu⟩,by simp,λfields hf=>by rw[hu] at hf;cases hf⟩
 ·cases h
theorem QcL{t:TypeId}(h:tyB P C.ti t=true):TyOK P C t:=by
 unfold tyB at h
 split at h
 ·rename_i hk
  simp only[Ya] at h
  have h1:=Yf h.1
  refine⟨λ_=>h1,by rw[hk];trivial,λe he=>(by rw[hk] at he;cases he),λ_ _ hne=>absurd hk hne,λhne=>absurd hk hne,λhne=>?_⟩
  exact absurd (List.isEmpty_iff.1 h.2) hne
 ·rename_i hk
  simp only[Ya] at h
  obtain⟨h1,h2,h3⟩:=h
  obtain⟨t1,t2,t3⟩:=Qhu h1
  refine⟨λhb=>absurd hb (by simpa using hk),t1,t2,t3,λ_=>?_,λhne=>?_⟩
  ·unfold infoB at h2
   split at h2
   ·rename_i i hi
    simp only[Ya] at h2
    obtain⟨g1,g2,g3⟩:=h2
    split at g3
    ·rename_i z hz
     simp only[Ya] at g3
     obtain⟨z1,z2,z3⟩:=g3
     refine⟨i,z,hi,Yf g1,Yf g2,hz,Yf z2,λκ=>(Q89 z1).1,(Q89 (κ:=⟨λ_ _=>none,λ_=>none,λ_=>none,λ_=>false,λ_=>none⟩) z1).2,λha=>?_,λha=>?_⟩
     ·split at z3
      ·exact⟨_,rfl⟩
      ·rw[ha] at z3;cases z3
     ·split at z3
      ·rw[ha] at z3;cases z3
      ·simp only[Ya] at z3
       exact⟨z3.2.1,Yf z3.2.2⟩
    ·cases g3
   ·cases h2
  ·unfold flatB at h3
   cases he:(C.ti t).flat.isEmpty with
   |true=>exact absurd (List.isEmpty_iff.1 he) hne
   |false=>
     rw[he] at h3
     simp only[cond_false,Ya,Bool.not_eq_true'] at h3
     obtain⟨f1,f2,f3⟩:=h3
     split at f3
     ·rename_i fields hu
      simp only[Ya,List.all_eq_true,decide_eq_true_eq] at f3
      exact⟨f1,f2,fields,hu,λf hf=>by have:=f3.1 f hf;simpa using this,f3.2.1,f3.2.2⟩
     ·cases f3
def allTo(p:Nat->Bool):Nat->Bool
 |0=>true
 |n+1=>p n&&allTo p n
theorem Q8g{p:Nat->Bool}:∀ {n:Nat},allTo p n=true->∀ i,i<n->p i=true
 |0,_,i,h=>by omega
 |n+1,h,i,hi=>by
   simp only[allTo,Ya] at h
   by_cases he:i=n
   ·subst he;exact h.1
   ·exact Q8g h.2 i (by omega)
def okFn (C : Cfg) (f : FuncId) (fn : Func) : Bool := !(fn.name == "runtime.NumGoroutine") && (match fn.body with | some b => okCode C f fn.ntmps b | none => true)
def FnOK(P:Program)(C:Cfg)(p:Nat × Func):Prop:=P.funcs[p.1]? = some p.2/\okFn C p.1 p.2=true
def AllP{α:Type}(Q:α->Prop):List α->Prop
 |[]=>True
 |p::l=>Q p/\AllP Q l
theorem AllP.mem{α:Type}{Q:α->Prop}:∀ {l:List α},AllP Q l->∀ p ∈ l,Q p
 |[],_,p,h=>by cases h
 |x::l,h,p,hp=>by
   rcases List.mem_cons.1 hp with rfl|hp
   ·exact h.1
   ·exact AllP.mem h.2 p hp
theorem Q68{f:Nat}{c:Func}:∀ {l:List (Nat × Func)},findCode f l=some c->(f,c) ∈ l
 |[],h=>by cases h
 |(g,d)::r,h=>by
   unfold findCode at h
   cases hb:Nat.beq f g with
   |true=>
     rw[hb] at h
     cases h
     rw[Yf hb]
     exact Yc
   |false=>
     rw[hb] at h
     exact Yb _ (Q68 h)
theorem Qic {l : List (Nat × Func)} (hc : C.code = fun f => findCode f l) (h : AllP (FnOK P C) l) : ∀ f fn, C.code f = some fn → P.funcs[f]? = some fn ∧ (fn.name == "runtime.NumGoroutine") = false ∧ ∀ b, fn.body = some b → okCode C f fn.ntmps b = true := by
 intro f fn hf
 rw[hc] at hf
 obtain⟨h1,h2⟩:=h.mem _ (Q68 hf)
 simp only[okFn,Ya,Bool.not_eq_true'] at h2
 refine⟨h1,h2.1,λb hb=>?_⟩
 have h3:=h2.2
 rw[hb] at h3
 exact h3
theorem Qhz{n:Nat}(h:allTo (tyB P C.ti) n=true)(hr:∀ t,n<=t->C.ti t={})(t:TypeId):TyOK P C t:=by
 by_cases ht:t<n
 ·exact QcL (Q8g h t ht)
 ·refine QcL ?_
  unfold tyB
  rw[hr t (Nat.le_of_not_lt ht)]
  rfl
end
end Go.Am
namespace Go.Am
open Go Go.RowKit
section
variable {H:Type} {enc:TypeId × Value->H} {P:Program} {C:Cfg}
def conv(ti:TypeId->TI):Nat->TypeId->DataW H->Option (List AV)
 |0,_,_=>none
 |n+1,t,d=>match (ti t).k,d with
   |.bool,.lit (.bool b)=>some [.bool b]
   |.int k,.lit (.int j x)=>if j=k/\(Lit.int k x).wf=true then some [.int k x] else none
   |.str,.lit (.string s)=>if s.length<=maxLen then some [.str s] else none
   |.slice _,.nil=>some [.nils]
   |.slice e,.slice elems _=>if elems.length<=maxLen then (elems.mapM λd=>(conv ti n e d).bind (ofCells (ti e))).map λl=>[.sl l] else none
   |.struct fs,.agg parts=>if fs.length=parts.length then ((fs.zip parts).mapM λp=>conv ti n p.1.2 p.2).map List.flatten else none
   |_,_=>none
def tile(ti:TypeId->TI):Nat->List (Nat × TypeId)->Nat->Bool
 |n,[],m=>Nat.beq n m
 |n,(o,t)::r,m=>Nat.beq o n&&tile ti (n+(ti t).size) r m
def plainT(ti:TypeId->TI)(S:List TypeId)(t:TypeId):Bool:=
 match (ti t).k with
 |.bool | .int _ | .str=>true
 |.slice e=>S.any (Nat.beq e)&&Nat.blt 0 (ti e).size
 |.struct fs=>fs.all (λf=>S.any (Nat.beq f.2))&&tile ti 0 fs (ti t).size
 |_=>false
theorem QdF{S:List TypeId}{t:TypeId}(h:S.any (Nat.beq t)=true):t ∈ S:=by
 obtain⟨x,hx,he⟩:=List.any_eq_true.1 h
 rw[Yf he]
 exact hx
def kn0(w:World):Kn:={ im:=λb o=>w.cell? ⟨b,o,none⟩,loc:=λ_=>none,tok:=λ_=>none,gone:=λ_=>false,cap:=λ_=>none }
def st0:St:={ locs:=[],toks:=[] }
def plainV:AV->Bool
 |.agg _ | .tup _=>false
 |_=>true
theorem Qcu{v:AV}(h:plainV v=true):v.cells=[v]:=by cases v<;>first|rfl|cases h
theorem Q9Q(hT:∀ t,TyOK P C t){t:TypeId}(hk:(C.ti t).k≠.bad):P.cellsOf t=(C.ti t).size:=by
 obtain⟨i,z,h1,h2,_⟩:=(hT t).info hk
 unfold Program.cellsOf
 rw[h1]
 exact h2
theorem Q3X(hT:∀ t,TyOK P C t){t:TypeId}(hk:(C.ti t).k≠.bad)(ha:(C.ti t).isAgg=false):(C.ti t).size=1:=by
 obtain⟨i,z,_,_,_,_,_,_,_,_,h⟩:=(hT t).info hk
 exact (h ha).2
structure ConvOK (C:Cfg) (w:World) (t:TypeId) (l:List AV) (cs:List Value):Prop where
 vr:VRl (kn0 w) l cs
 ones:Ones cs
 len:l.length=(C.ti t).size
 plain:∀ v ∈ l,plainV v=true
theorem Q3T{v:Value}(h:v.oneCell'=true):Ones [v]:=by
 intro u hu
 simp only[List.mem_singleton] at hu
 subst hu
 exact h
theorem Q55{κ:Kn}{a:AV}{v:Value}(h:VR κ a v):VRl κ [a] [v]:=⟨v,[],rfl,h,rfl⟩
theorem Q7g{α:Type}{k:Nat}:∀ {l:List (List α)},(∀ x ∈ l,x.length=k)->l.flatten.length=l.length*k
 |[],_=>by simp
 |x::l,h=>by
   have h1:=h x (by simp)
   have h2:=Q7g (λy hy=>h y (Yb _ hy))
   simp[h1,h2,Nat.add_mul,Nat.add_comm]
theorem Q7f{α:Type}{k:Nat}:∀ {l:List (List α)} (_:∀ x ∈ l,x.length=k) (i j:Nat) (x:List α),l[i]? = some x->j<k->l.flatten[i*k+j]? = x[j]?
 |[],_,i,j,x,h,_=>by simp at h
 |y::l,h,0,j,x,hx,hj=>by
   simp at hx
   subst hx
   have:=h y (by simp)
   simp[List.getElem?_append_left (show j<y.length by omega)]
 |y::l,h,i+1,j,x,hx,hj=>by
   simp at hx
   have h1:=h y (by simp)
   have h2:=Q7f (λz hz=>h z (Yb _ hz)) i j x hx hj
   rw[List.flatten_cons,List.getElem?_append_right (by rw[h1,Nat.add_mul];omega)]
   rw[<-h2]
   congr 1
   rw[h1,Nat.add_mul]
   omega
theorem Qi4(a:Addr)(x y:Nat):a.add (x+y)=(a.add x).add y:=by
 unfold Addr.add
 by_cases hx:x=0<;>by_cases hy:y=0<;>simp[hx,hy,Nat.add_assoc]
theorem QfU{w:World}{base:Nat}{a:Addr}{e:TypeId}{k:Nat}(hk0:0<k){r:List Value->Option (DataW H × List MemPlace)}{g:DataW H->Option AV}
  (hr:∀ cs x,cs.length=k->r cs=some x->∃ v,g x.1=some v/\VRl (kn0 w) v.cells cs/\Ones cs/\v.cells.length=k)
  (len:Nat) (elems:List (DataW H × List MemPlace)) (h:((List.range len).mapM λi=>(w.cells? base (a.add (i*k)) k).bind r)=some elems) :
  ∃ xs,(elems.map (·.1)).mapM g=some xs/\xs.length=len/\(∀ x ∈ xs,x.cells.length=k)/\∃ vs,Held (kn0 w) a vs/\Ones vs/\VRl (kn0 w) (flat xs) vs/\(0<len->a.spot=none):=by
 have hlen:elems.length=len:=by simpa using mapM_some_length h
 have get:∀ i,i<len->∃ cs x v,elems[i]? = some x/\w.cells? base (a.add (i*k)) k=some cs/\g x.1=some v/\VRl (kn0 w) v.cells cs/\Ones cs/\v.cells.length=k:=by
  intro i hi
  have h1:=mapM_some_get h i i (by simp[hi])
  obtain⟨x,hx⟩:∃ x,elems[i]? = some x:=⟨elems[i],by simp[hlen,hi]⟩
  rw[hx] at h1
  simp only[Option.bind_eq_some_iff] at h1
  obtain⟨cs,h2,h3⟩:=h1
  obtain⟨v,h4,h5,h6,h7⟩:=hr cs x (World.cells?_some h2).2.1 h3
  exact⟨cs,x,v,hx,h2,h4,h5,h6,h7⟩
 have main:∀ m,m<=len->∃ (xs:List AV) (css:List (List Value)),((elems.take m).map (·.1)).mapM g=some xs/\xs.length=m/\(∀ x ∈ xs,x.cells.length=k)/\css.length=m/\(∀ c ∈ css,c.length=k/\Ones c)/\VRl (kn0 w) (flat xs) css.flatten/\∀ (i:Nat) c,css[i]? = some c->w.cells? base (a.add (i*k)) k=some c:=by
  intro m
  induction m with
  |zero=>intro _;exact⟨[],[],by simp,rfl,by simp,rfl,by simp,by simp[flat,VRl],by simp⟩
  |succ m ih=>
    intro hm
    obtain⟨xs,css,h1,h2,h3,h4,h5,h6,h7⟩:=ih (by omega)
    obtain⟨cs,x,v,g1,g2,g3,g4,g5,g6⟩:=get m (by omega)
    have ht:elems.take (m+1)=elems.take m++[x]:=by rw[List.take_add_one,g1];rfl
    refine⟨xs++[v],css++[cs],?_,by simp[h2],?_,by simp[h4],?_,?_,?_⟩
    ·rw[ht,List.map_append,List.mapM_append,h1]
     simp[g3]
    ·intro y hy
     rcases List.mem_append.1 hy with hy|hy
     ·exact h3 y hy
     ·simp at hy;subst hy;exact g6
    ·intro c hc
     rcases List.mem_append.1 hc with hc|hc
     ·exact h5 c hc
     ·simp at hc;subst hc;exact⟨(World.cells?_some g2).2.1,g5⟩
    ·have:flat (xs++[v])=flat xs++v.cells:=by simp[flat]
     rw[this,List.flatten_append]
     exact VRl.append.2 ⟨_,_,rfl,h6,by simpa using g4⟩
    ·intro i c hi
     by_cases hlt:i<m
     ·rw[List.getElem?_append_left (by omega)] at hi
      exact h7 i c hi
     ·rw[List.getElem?_append_right (by omega)] at hi
      have hz:i - css.length=0:=by
       have:=(List.getElem?_eq_some_iff.1 hi).1
       simp at this
       omega
      rw[hz] at hi
      simp at hi
      subst hi
      have:i=m:=by omega
      subst this
      exact g2
 obtain⟨xs,css,h1,h2,h3,h4,h5,h6,h7⟩:=main len (Yd _)
 rw[List.take_of_length_le (by omega)] at h1
 have cell:∀ (i j:Nat) c,css[i]? = some c->j<k->w.cell? (a.add (i*k+j))=c[j]? :=by
  intro i j c hc hj
  have:=(World.cells?_some (h7 i c hc)).2.2 j hj
  rw[<-this]
  rw[Qi4]
 have spot:0<len->a.spot=none:=λhpos=>by
  obtain⟨c,hc⟩:∃ c,css[0]? = some c:=⟨css[0],by simp⟩
  have hcl:=(h5 c (List.mem_of_getElem? hc)).1
  have:=cell 0 0 c hc hk0
  have hs:w.cell? (a.add (0*k+0))=some c[0]:=by rw[this];simp[hcl,hk0]
  simpa [Addr.add] using World.cell?_spot hs
 refine⟨xs,h1,h2,h3,css.flatten,?_,?_,h6,spot⟩
 ·intro j u hu
  have hcl:∀ x ∈ css,x.length=k:=λx hx=>(h5 x hx).1
  have hjl:j<css.length*k:=by
   rw[<-Q7g hcl]
   exact (List.getElem?_eq_some_iff.1 hu).1
  have hi:j / k<css.length:=(Nat.div_lt_iff_lt_mul hk0).2 hjl
  have hjm:j % k<k:=Nat.mod_lt _ hk0
  have hd:j / k*k+j % k=j:=by rw[Nat.mul_comm];exact Nat.div_add_mod j k
  have h8:=Q7f hcl (j / k) (j % k) (css[j / k]) (by simp[hi]) hjm
  rw[hd,hu] at h8
  have h9:=cell (j / k) (j % k) (css[j / k]) (by simp[hi]) hjm
  rw[hd,<-h8] at h9
  have hsp:=spot (by have:=Nat.lt_of_le_of_lt (Nat.zero_le _) hi;omega)
  have ha:a.add j=⟨a.block,a.off+j,none⟩:=by
   obtain⟨b,o,sp⟩:=a
   simp only at hsp
   subst hsp
   unfold Addr.add
   split
   ·rename_i h0;simp[h0]
   ·rfl
  rw[ha] at h9
  exact h9
 ·intro u hu
  obtain⟨c,hc,hu⟩:=List.mem_flatten.1 hu
  exact (h5 c hc).2 u hu
theorem Q7d{w:World}(hT:∀ t,TyOK P C t){n:Nat}{S:List TypeId}{r:TypeId->List Value->Option (DataW H × List MemPlace)}
  (hr:∀ t cs x,t ∈ S->r t cs=some x->∃ l,conv C.ti n t x.1=some l/\ConvOK C w t l cs) :
  ∀ (fs:List Field) (o:Nat) (m:Nat) (cs:List Value) (xs:List (DataW H × List MemPlace)),(∀ f ∈ fs,f.type ∈ S/\P.cellsOf f.type=(C.ti f.type).size)->tile C.ti o (fs.map λf=>(f.offset,f.type)) m=true->cs.length=m->
    (fs.mapM λf=>r f.type ((cs.drop f.offset).take (P.cellsOf f.type)))=some xs->
    ∃ ls,(((fs.map λf=>(f.offset,f.type)).zip (xs.map (·.1))).mapM λp=>conv C.ti n p.1.2 p.2)=some ls/\VRl (kn0 w) ls.flatten (cs.drop o)/\Ones (cs.drop o)/\ls.flatten.length+o=m/\∀ v ∈ ls.flatten,plainV v=true
 |[],o,m,cs,xs,_,ht,hl,h=>by
   simp only[List.mapM_nil] at h
   cases h
   simp only[Yn,tile] at ht
   have:=Yf ht
   refine⟨[],by simp,?_,?_,by simpa using this,by simp⟩
   ·rw[List.drop_of_length_le (by omega)]
    rfl
   ·rw[List.drop_of_length_le (by omega)]
    intro u hu
    cases hu
 |f::fs,o,m,cs,xs,hS,ht,hl,h=>by
   rw[List.mapM_cons] at h
   simp only[Yi,tile,Ya] at ht
   have ho:=Yf ht.1
   cases h1:r f.type ((cs.drop f.offset).take (P.cellsOf f.type)) with
   |none=>rw[h1] at h;cases h
   |some x=>
     rw[h1] at h
     cases h2:(fs.mapM λf=>r f.type ((cs.drop f.offset).take (P.cellsOf f.type))) with
     |none=>simp[h2] at h
     |some ys=>
       simp[h2] at h
       subst h
       obtain⟨l,c1,c2⟩:=hr _ _ _ (hS f (by simp)).1 h1
       obtain⟨ls,d1,d2,d3,d4,d5⟩:=Q7d hT hr fs _ m cs ys (λg hg=>hS g (Yb _ hg)) ht.2 hl h2
       have hsz:=(hS f (by simp)).2
       have hlen:=VRl.length c2.vr
       have hll:=c2.len
       rw[ho,hsz] at hlen
       have e:cs.drop o=(cs.drop f.offset).take (P.cellsOf f.type)++cs.drop (o+(C.ti f.type).size):=by
        rw[ho,hsz,<-List.drop_drop,List.take_append_drop]
       refine⟨l::ls,?_,?_,?_,?_,?_⟩
       ·simp[c1,d1]
       ·rw[List.flatten_cons,e]
        exact VRl.append.2 ⟨_,_,rfl,c2.vr,d2⟩
       ·rw[e]
        intro u hu
        rcases List.mem_append.1 hu with hu|hu
        ·exact c2.ones u hu
        ·exact d3 u hu
       ·rw[List.flatten_cons,Ye,hll]
        omega
       ·intro v hv
        rw[List.flatten_cons] at hv
        rcases List.mem_append.1 hv with hv|hv
        ·exact c2.plain v hv
        ·exact d5 v hv
theorem QaL{w:World}{base:Nat}{spare:Nat->Bool}{held:Bool}(hT:∀ t,TyOK P C t){S:List TypeId}(hS:S.all (plainT C.ti S)=true) :
  ∀ (n:Nat) (t:TypeId) (cs:List Value) (x:DataW H × List MemPlace),t ∈ S->DataW.trod enc P w base spare held n t cs=some x->∃ l,conv C.ti n t x.1=some l/\ConvOK C w t l cs:=by
 intro n
 induction n with
 |zero=>intro t cs x _ h;simp[DataW.trod] at h
 |succ n ih=>
   intro t cs x ht h
   have hp:=List.all_eq_true.1 hS t ht
   have hkind:=(hT t).kind
   rw[DataW.trod_step] at h
   unfold plainT at hp
   split at hp
   ·
    rename_i hk
    rw[hk] at hkind
    simp only[KOk] at hkind
    unfold DataW.trodStep at h
    rw[hkind] at h
    split at h<;>first|(cases h;done)|(rename_i hx;cases hx;done)|skip
    rename_i b _
    cases h
    refine⟨[.bool b],by simp only[conv,hk],Q55 (by simp only[VR]),Q3T rfl,?_,by simp[plainV]⟩
    simp[Q3X hT (t:=t) (by rw[hk];simp) (by simp[TI.isAgg,hk])]
   ·rename_i k hk
    rw[hk] at hkind
    simp only[KOk] at hkind
    unfold DataW.trodStep at h
    rw[hkind] at h
    split at h<;>first|(cases h;done)|(rename_i hx;cases hx;done)|skip
    rename_i k' k'' z hx
    cases hx
    split at h
    ·rename_i hc
     cases h
     obtain⟨rfl,hwf⟩:=hc
     refine⟨[.int _ z],by simp only[conv,hk];rw[if_pos ⟨trivial,hwf⟩],Q55 (by simp only[VR]),Q3T rfl,?_,by simp[plainV]⟩
     simp[Q3X hT (t:=t) (by rw[hk];simp) (by simp[TI.isAgg,hk])]
    ·cases h
   ·rename_i hk
    rw[hk] at hkind
    simp only[KOk] at hkind
    unfold DataW.trodStep at h
    rw[hkind] at h
    split at h<;>first|(cases h;done)|(rename_i hx;cases hx;done)|skip
    rename_i z _
    split at h
    ·rename_i hc
     cases h
     refine⟨[.str z.data.toList],by simp only[conv,hk];rw[if_pos (by simpa using hc)],Q55 (by simp only[VR];exact⟨z,rfl,rfl⟩),Q3T rfl,?_,by simp[plainV]⟩
     simp[Q3X hT (t:=t) (by rw[hk];simp) (by simp[TI.isAgg,hk])]
    ·cases h
   ·rename_i e hk
    simp only[Ya] at hp
    have he:=QdF hp.1
    have hsz:0<(C.ti e).size:=by simpa using hp.2
    have hone:=Q3X hT (t:=t) (by rw[hk];simp) (by simp[TI.isAgg,hk])
    rw[hk] at hkind
    simp only[KOk] at hkind
    have hpe:=List.all_eq_true.1 hS e he
    have hke:(C.ti e).k≠.bad:=λhb=>by simp[plainT,hb] at hpe
    have hce:=Q9Q hT hke
    unfold DataW.trodStep at h
    rw[hkind] at h
    split at h<;>first|(cases h;done)|(rename_i hx;cases hx;done)|skip
    ·cases h
     exact⟨[.nils],by simp only[conv,hk],Q55 (by simp only[VR]),Q3T rfl,by simp[hone],by simp[plainV]⟩
    ·rename_i e' a len cap hx
     cases hx
     simp only at h
     split at h
     ·rename_i hc
      simp only[Option.map_eq_some_iff,Option.bind_eq_some_iff] at h
      obtain⟨elems,h1,rest,h2,rfl⟩:=h
      rw[hce] at h1
      obtain⟨xs,g1,g2,g3,vs,g4,g5,g6,g7⟩:=QfU (w:=w) (e:=e) hsz (g:=λd=>(conv C.ti n e d).bind (ofCells (C.ti e))) (λcs x hl hx=>by
       obtain⟨l,c1,c2⟩:=ih e cs x he hx
       simp only[c1,Option.bind_some]
       unfold ofCells
       cases ha:(C.ti e).isAgg with
       |true=>
         simp only[cond_true]
         rw[if_pos c2.len]
         exact⟨_,rfl,c2.vr,c2.ones,c2.len⟩
       |false=>
         have h1:=Q3X hT hke ha
         have hlen:=c2.len
         rw[h1] at hlen
         obtain⟨v,rfl⟩:=List.length_eq_one_iff.1 hlen
         have hv:=Qcu (c2.plain v (by simp))
         exact⟨v,rfl,by rw[hv];exact c2.vr,c2.ones,by rw[hv,h1];rfl⟩) len elems h1
      refine⟨[.sl xs],?_,Q55 (Q1B.2 ⟨a,len,cap,rfl,g2,hc.2.1,g7,_,vs,g3,g4,g5,g6⟩),Q3T rfl,by simp[hone],by simp[plainV]⟩
      have hel:elems.length=len:=by simpa using mapM_some_length h1
      simp only[conv,hk]
      rw[if_pos (by simp[hel];omega),g1]
      rfl
     ·cases h
   ·rename_i fs hk
    simp only[Ya] at hp
    rw[hk] at hkind
    simp only[KOk] at hkind
    obtain⟨fields,hu,hfs⟩:=hkind
    unfold DataW.trodStep at h
    rw[hu] at h
    simp only at h
    split at h
    ·rename_i hc
     simp only[Option.map_eq_some_iff] at h
     obtain⟨xs,h1,rfl⟩:=h
     have hsz:=Q9Q hT (t:=t) (by rw[hk];simp)
     have hmem:∀ f ∈ fields.toList,f.type ∈ S/\P.cellsOf f.type=(C.ti f.type).size:=λf hf=>by
      have:f.type ∈ S:=by
       have h2:=List.all_eq_true.1 hp.1 (f.offset,f.type) (by rw[<-hfs];exact List.mem_map.2 ⟨f,hf,rfl⟩)
       exact QdF h2
      refine⟨this,Q9Q hT λhb=>?_⟩
      have hpe:=List.all_eq_true.1 hS _ this
      simp[plainT,hb] at hpe
     obtain⟨ls,d1,d2,d3,d4,d5⟩:=Q7d (w:=w) hT ih fields.toList 0 (C.ti t).size cs xs hmem (by rw[hfs];exact hp.2) (by rw[hc,hsz]) h1
     rw[hfs] at d1
     have hll:fs.length=xs.length:=by
      have h3:=mapM_some_length h1
      rw[<-hfs]
      simp[h3]
     refine⟨ls.flatten,?_,by simpa using d2,by simpa using d3,by omega,d5⟩
     simp only[conv,hk]
     rw[if_pos (by simpa using hll),d1]
     rfl
    ·cases h
   ·cases hp
end
section
variable {P:Program} {C:Cfg}
theorem inv0(w:World)(hT:TabsOK C (kn0 w) w.heap.size w):Inv C (kn0 w) w.heap.size st0 w where
 im:=λ_ _ _ h=>h
 locs:=λl x h=>by simp[st0] at h
 locn:=λl b h=>by cases h
 toks:=λk L h=>by simp[st0] at h
 tokn:=λk L e v h=>by cases h
 locinj:=λi j b h=>by cases h
 lv:=λl x h=>by simp[st0] at h
 caps:=λl e sz c h=>by cases h
 bls:=λp h=>by simp[st0] at h
 tabs:=hT
 tokinj:=λi j L e v L' e' v' b h=>by cases h
 loctok:=λl b k L e v h=>by cases h
 locim:=λl b o h=>by cases h
theorem Qir(w:World)(b:Nat):¬ Wr (kn0 w) b:=by
 rintro (⟨l,h,_⟩|⟨k,L,e,v,h,_⟩)<;>cases h
structure Left0 (w w':World):Prop where
 os:w'.os=w.os
 output:w'.output=w.output
 heap:∀ b,b<w.heap.size->w'.heap[b]? = w.heap[b]?
 size:w.heap.size<=w'.heap.size
theorem entry(hOK:CodeOK P C){n f:Nat}{l:List AV}{b:Bool}{s':St}{args:Array Value}{w:World}(hx:C.ext f=none)
  (h:call C n (.f f) l st0=some (.ret (.val (.bool b)),s')) (hG:GlobOK C (kn0 w)) (hv:VRl (kn0 w) l args.toList)
  (hT:TabsOK C (kn0 w) w.heap.size w:=by intro p hp;cases hp) :
  Calls P f args w λe w'=>e = .returned (.bool b)/\Left0 w w':=by
 have hcl:=Q5Z hOK n
 have hc:=hcl.f f l st0 _ s' h (kn0 w) w.heap.size w args.toList (inv0 w hT) hG (Yd _) hv
 rw[Array.toArray_toList] at hc
 have he:=hcl.enter f l st0 _ h (by rw[hx];rfl) args w
 rcases hc with ⟨v,w',hr,_⟩|⟨_,hin⟩
 ·rw[he] at hr;cases hr
 ·refine (callsIn_wide.1 hin).mono λe w' ⟨κ',hm,hi,ho⟩=>?_
  cases e with
  |returned v=>
    simp only[OutR,SR,VR] at ho
    exact⟨by rw[ho],hm.os,hm.output,λb hb=>hm.frame b hb (Qir w b),hm.size⟩
  |panicked c=>exact ho.elim
  |outgrown=>exact ho.elim
end
end Go.Am