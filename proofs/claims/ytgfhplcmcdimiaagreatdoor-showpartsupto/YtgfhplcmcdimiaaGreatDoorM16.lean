/- A part of the proof: SRx4, SRx5, SRx6, SRef3, SRef4, SRef6, SExp7, SKnows. -/
import Derived.Test.YtgfhplcmcdimiaaGreatDoorM6
import Derived.Test.YtgfhplcmcdimiaaGreatDoorM7
import Derived.Test.YtgfhplcmcdimiaaGreatDoorM8
import Derived.Test.YtgfhplcmcdimiaaGreatDoorM10
import Derived.Test.YtgfhplcmcdimiaaGreatDoorM11
import Derived.Test.YtgfhplcmcdimiaaGreatDoorM13
import Derived.Test.YtgfhplcmcdimiaaGreatDoorM14
import Derived.Test.YtgfhplcmcdimiaaGreatDoorM15
set_option linter.unusedVariables false
set_option linter.unusedSimpArgs false
open List renaming length_cons→Ya,length_append→Yb,mem_cons_of_mem→Yc,mem_cons_self→Yd,length_nil→Ye,map_cons→Yh,length_map→Yi,append_assoc→Yj,cons_append→Yk,length_singleton→Yl,nil_append→Ym,map_nil→Yo,append_nil→Yr,mem_of_getElem?→Ys,sum_cons→Yv
open Nat renaming le_refl→Yg
namespace Go.Am
open Go
theorem QkC (t : Ty) (hv : t.n < bigV) : txt10 bigV t = bif decide (t.kind = 1) then 39 :: letT t.n
   else bif decide (t.args.length=0) then t.name
   else bif decide (t.name=[45,62]) then (ats10 bigV t.args 1).getD 0 []++([32,45,62,32]++(ats10 bigV t.args 0).getD 1 [])
   else bif decide (t.name=[42]) then joinS [32,42,32] (ats10 bigV t.args 2) true
   else bif decide (t.args.length=1) then (ats10 bigV t.args 2).getD 0 []++(32::t.name)
   else 40::(joinS [44,32] (ats10 bigV t.args 0) true++(41::32::t.name)):=by
 cases t with
 |mk k n s l b=>
   have hv:n<bigV:=hv
   simp only[txt10,decide_eq_true hv,cond_true,Ty.kind,Ty.n,Ty.name,Ty.args]
   rfl
end Go.Am
namespace Go.Proofs.YtgfhplcmcdimiaaGreatDoor
open Go Go.Am
set_option maxRecDepth 4000
theorem Qj2(t:Ty)(s:St):cw (.f Q5k) [t.enc] s=some (.ret (.val (.int .i64 (levelT t))),s):=by
 have c:=Ty.cells_eq t
 rw[Qd7]
 unfold levelT
 cases h1:decide (t.kind=2) with
 |false=>simp only[go_sem,Nat.reduceAdd,Ty.enc,c,h1]
 |true=>
   cases h2:decide (t.name=[45,62]) with
   |true=>simp only[go_sem,Nat.reduceAdd,Ty.enc,c,h1,h2]
   |false=>
     cases h3:decide (t.name=[42]) with
     |true=>simp only[go_sem,Nat.reduceAdd,Ty.enc,c,h1,h2,h3]
     |false=>simp only[go_sem,Nat.reduceAdd,Ty.enc,c,h1,h2,h3]
structure PartT (t:Ty):Prop where
 ok:∀ s,cw (.f Zu) [t.enc] s=some (.ret (.val (.str (txt10 bigV t))),s)
 len:(txt10 bigV t).length<2^40
theorem Q9B{t:Ty}(H:PartT t)(lv:Int)(s:St):cw (.f Q2z) [t.enc,.int .i64 lv] s=some (.ret (.val (.str (at10 bigV t lv))),s):=by
 have e1:=H.ok s
 have e2:=Qj2 t s
 have e3:=λb=>Q1V (txt10 bigV t) b (by have:=H.len;omega) s
 have c:=Ty.cells_eq t
 unfold at10
 rw[QjK]
 simp only[Ty.enc,c] at e1 e2
 simp only[go_sem,Nat.reduceAdd,Nat.reduceLeDiff,c,e1,e2,e3]
theorem Qcw(t:Ty)(lv:Int):(at10 bigV t lv).length<=(txt10 bigV t).length+2:=Q0D _ _
theorem Qgt(t:Ty)(hl:t.args.length<2^40)(H:∀ q ∈ t.args,PartT q)(s:St):∀ (suf pre:List Ty) (acc:Str) (i:Nat),pre++suf=t.args->i=pre.length->acc.length+((ats10 bigV suf 2).map (·.length)).sum+10*suf.length<2^50->
  Q1C (t.cells.map .val) (.val (.str acc)) (.val (.int .i64 t.args.length)) (.val (.int .i64 i)) s=some (.ret (.val (.str (acc++joinS [32,42,32] (ats10 bigV suf 2) (decide (pre.length=0))))),s)
 |[],pre,acc,i,h,hi,hb=>by
   subst hi
   rw[Q71]
   simp only[go_sem,Ty.cells_eq t,Qg (by simpa using h),ats10,joinS,Yr]
 |q::suf,pre,acc,i,h,hi,hb=>by
   subst hi
   have c:=Ty.cells_eq t
   have cq:=Ty.cells_eq q
   obtain⟨f1,f2,f3⟩:=Qe (x:=.val (encS t.nl (t.args.map Ty.enc))) (Q4 _ _) h (by omega) (Ty.cells_len q) (by decide)
   have e1:=Q9B (H q (by rw[<-h];simp)) 2 s
   have hu:ats10 bigV (q::suf) 2=at10 bigV q 2::ats10 bigV suf 2:=rfl
   rw[hu] at hb |-
   simp only[Yh,Yv,Ya] at hb
   have hd1:decide ((pre++[q]).length=0)=false:=decide_eq_false (by simp)
   have IH:=λ(acc':Str) (hb':acc'.length+((ats10 bigV suf 2).map (·.length)).sum+10*suf.length<2^50)=>Qgt t hl H s suf (pre++[q]) acc' (pre.length+1) (by simpa using h) (by simp) hb'
   rw[hd1] at IH
   generalize at10 bigV q 2=y at *
   rw[Q71]
   simp only[Ty.enc,cq] at e1 f2
   cases hz:decide (pre.length=0) with
   |true=>
     have hz':=of_decide_eq_true hz
     have z:decide ((pre.length:Int)>0)=false:=decide_eq_false (by omega)
     have b1:=adds2 (t1:=C.ti Q0) (a:=acc) (b:=y) (by omega)
     have ih:=IH (acc++y) (by simp only[Yb];omega)
     simp only[go_sem,Nat.reduceAdd,Nat.reduceLeDiff,c,f1,f2,f3,z,Q6Z,e1,b1,joinS,Yj] at ih |-
     exact ih
   |false=>
     have hz':=of_decide_eq_false hz
     have z:decide ((pre.length:Int)>0)=true:=decide_eq_true (by omega)
     obtain⟨b1,b2⟩:=adds3 (t1:=C.ti Q0) (t2:=C.ti Q0) (a:=acc) (b:=[32,42,32]) (c:=y) (by simp only[Ya,Ye];omega)
     have ih:=IH (acc++[32,42,32]++y) (by simp only[Yb,Ya,Ye];omega)
     simp only[go_sem,Nat.reduceAdd,Nat.reduceLeDiff,c,f1,f2,f3,z,Q6Z,e1,b1,b2,joinS,Yj] at ih |-
     exact ih
theorem Qgu(t:Ty)(hn:t.name.length<2^40)(hl:t.args.length<2^40)(H:∀ q ∈ t.args,PartT q)(s:St):∀ (suf pre:List Ty) (acc:Str) (i:Nat),pre++suf=t.args->i=pre.length->acc.length+((ats10 bigV suf 0).map (·.length)).sum+10*suf.length<2^50->
  Q1D (t.cells.map .val) (.val (.str acc)) (.val (.int .i64 t.args.length)) (.val (.int .i64 i)) s=some (.ret (.val (.str (40::(acc++joinS [44,32] (ats10 bigV suf 0) (decide (pre.length=0))++(41::32::t.name))))),s)
 |[],pre,acc,i,h,hi,hb=>by
   subst hi
   obtain⟨b1,b2,b3⟩:=adds4 (t1:=C.ti Q0) (t2:=C.ti Q0) (t3:=C.ti Q0) (a:=[40]) (b:=acc) (c:=[41,32]) (d:=t.name) (by simp only[Ya,Ye];omega)
   simp only[Yj,Yk,Ym] at b1 b2 b3
   rw[Q72]
   simp only[go_sem,Ty.cells_eq t,Qg (by simpa using h),ats10,joinS,Yr,b1,b2,b3]
 |q::suf,pre,acc,i,h,hi,hb=>by
   subst hi
   have c:=Ty.cells_eq t
   have cq:=Ty.cells_eq q
   obtain⟨f1,f2,f3⟩:=Qe (x:=.val (encS t.nl (t.args.map Ty.enc))) (Q4 _ _) h (by omega) (Ty.cells_len q) (by decide)
   have e1:=Q9B (H q (by rw[<-h];simp)) 0 s
   have hu:ats10 bigV (q::suf) 0=at10 bigV q 0::ats10 bigV suf 0:=rfl
   rw[hu] at hb |-
   simp only[Yh,Yv,Ya] at hb
   have hd1:decide ((pre++[q]).length=0)=false:=decide_eq_false (by simp)
   have IH:=λ(acc':Str) (hb':acc'.length+((ats10 bigV suf 0).map (·.length)).sum+10*suf.length<2^50)=>Qgu t hn hl H s suf (pre++[q]) acc' (pre.length+1) (by simpa using h) (by simp) hb'
   rw[hd1] at IH
   generalize at10 bigV q 0=y at *
   rw[Q72]
   simp only[Ty.enc,cq] at e1 f2
   cases hz:decide (pre.length=0) with
   |true=>
     have hz':=of_decide_eq_true hz
     have z:decide ((pre.length:Int)>0)=false:=decide_eq_false (by omega)
     have b1:=adds2 (t1:=C.ti Q0) (a:=acc) (b:=y) (by omega)
     have ih:=IH (acc++y) (by simp only[Yb];omega)
     simp only[go_sem,Nat.reduceAdd,Nat.reduceLeDiff,c,f1,f2,f3,z,Q70,e1,b1,joinS,Yj] at ih |-
     exact ih
   |false=>
     have hz':=of_decide_eq_false hz
     have z:decide ((pre.length:Int)>0)=true:=decide_eq_true (by omega)
     obtain⟨b1,b2⟩:=adds3 (t1:=C.ti Q0) (t2:=C.ti Q0) (a:=acc) (b:=[44,32]) (c:=y) (by simp only[Ya,Ye];omega)
     have ih:=IH (acc++[44,32]++y) (by simp only[Yb,Ya,Ye];omega)
     simp only[go_sem,Nat.reduceAdd,Nat.reduceLeDiff,c,f1,f2,f3,z,Q70,e1,b1,b2,joinS,Yj] at ih |-
     exact ih
theorem Qho{l:List Ty}{i:Nat}{q:Ty}(h:l[i]? = some q)(lv:Int):(ats10 bigV l lv).getD i []=at10 bigV q lv:=by
 rw[Q8A];simp[List.getD_eq_getElem?_getD,h]
theorem Qby:∀ (m:Nat) (t:Ty),t.size<=m->t.size<2^21->OkT t->PartT t
 |0,t,h,_,_=>by have:=Ty.size_pos t;omega
 |m+1,t,h,h',hg=>by
   have hsz:Ty.sizes t.args+1=t.size:=by cases t;simp only[Ty.size,Ty.args]
   have hal:=Ty.len_sizes t.args
   obtain⟨⟨hvar,hcon1⟩,hargs⟩:=Qr6 hg
   have HV:∀ u ∈ t.args,PartT u:=λu hu=>by
    have h2:=Ty.mem_sizes hu
    exact Qby m u (by omega) (by omega) (QeX hargs u hu)
   have c:=Ty.cells_eq t
   have hTl:=Qkt hg
   refine⟨λs=>?_,by omega⟩
   have hL0:=QcI 0 t.args hargs
   have hL2:=QcI 2 t.args hargs
   have hil:∀ a b:Nat,decide ((a:Int)=(b:Int))=decide (a=b):=λa b=>by
    by_cases h:a=b
    ·rw[decide_eq_true h,decide_eq_true (by omega)]
    ·rw[decide_eq_false h,decide_eq_false (by omega)]
   have i0:=hil t.args.length 0
   have i1:=hil t.args.length 1
   rw[show ((0:Nat):Int)=0 from rfl] at i0
   rw[show ((1:Nat):Int)=1 from rfl] at i1
   rw[Qe6]
   cases hk:decide (t.kind=1) with
   |true=>
     have hn:0<=t.n/\t.n<=9223372036854775807:=⟨(hvar hk).1,(hvar hk).2.1⟩
     rw[QkC t (by unfold bigV;omega),hk]
     have e1:=Q9p t.n hn.1 (by omega) s
     have hl:=Q7Y hn.1 hn.2
     have b1:=adds2 (t1:=C.ti Q0) (a:=[39]) (b:=letT t.n) (by simp only[Yl];omega)
     simp only[Yj,Yk,Ym] at b1
     simp only[go_sem,Nat.reduceAdd,Nat.reduceLeDiff,c,hk,e1,b1,cond_true]
   |false=>
     obtain⟨-,hcon,-,-,hnl,hfn,hst⟩:=hcon1 hk
     rw[QkC t (by rw[hcon];decide),hk]
     cases h1:decide (t.name=[45,62]) with
     |true=>
       have h1':=of_decide_eq_true h1
       have hc2:=hfn h1'
       have h0:decide (t.args.length=0)=false:=decide_eq_false (by omega)
       obtain⟨x,hx⟩:∃ x,t.args[0]? = some x:=⟨t.args[0]'(by omega),by simp⟩
       obtain⟨y,hy⟩:∃ y,t.args[1]? = some y:=⟨t.args[1]'(by omega),by simp⟩
       have f0:=Q6F t hx
       have f1:=Q6F t hy
       rw[show ((0:Nat):Int)=0 from rfl] at f0
       rw[show ((1:Nat):Int)=1 from rfl] at f1
       have Hx:=HV x (Ys hx)
       have Hy:=HV y (Ys hy)
       have e1:=Q9B Hx 1 s
       have e2:=Q9B Hy 0 s
       have l1:=Qcw x 1
       have l2:=Qcw y 0
       have l3:=Hx.len
       have l4:=Hy.len
       have cx:=Ty.cells_eq x
       have cy:=Ty.cells_eq y
       simp only[Qho hx,Qho hy]
       simp only[Ty.enc,cx,cy] at e1 e2 f0 f1
       generalize at10 bigV x 1=u at *
       generalize at10 bigV y 0=v at *
       obtain⟨b1,b2⟩:=adds3 (t1:=C.ti Q0) (t2:=C.ti Q0) (a:=u) (b:=[32,45,62,32]) (c:=v) (by simp only[Ya,Ye];omega)
       simp only[Yj,Yk,Ym] at b1 b2
       simp only[go_sem,Nat.reduceAdd,Nat.reduceLeDiff,c,hk,h1,h0,f0,f1,e1,e2,b1,b2,cond_true,cond_false]
     |false=>
       cases h2:decide (t.name=[42]) with
       |true=>
         have h2':=of_decide_eq_true h2
         have hc2:=hst h2'
         have h0:decide (t.args.length=0)=false:=decide_eq_false (by omega)
         have e1:=Qgt t (by omega) HV s t.args [] [] 0 rfl rfl (by simp only[Ye];omega)
         rw[show ((0:Nat):Int)=0 from rfl] at e1
         simp only[go_sem,Nat.reduceAdd,Nat.reduceLeDiff,c,hk,h1,h2,h0,Q4,Yi,Ym,Ye,decide_true,cond_true,cond_false] at e1 |-
         exact e1
       |false=>
         cases h0:decide (t.args.length=0) with
         |true=>
           rw[h0] at i0
           simp only[go_sem,Nat.reduceAdd,Nat.reduceLeDiff,c,hk,h1,h2,Q4,Yi,i0,cond_true,cond_false]
         |false=>
           rw[h0] at i0
           cases h3:decide (t.args.length=1) with
           |true=>
             rw[h3] at i1
             have h3':=of_decide_eq_true h3
             obtain⟨x,hx⟩:∃ x,t.args[0]? = some x:=⟨t.args[0]'(by omega),by simp⟩
             have f0:=Q6F t hx
             rw[show ((0:Nat):Int)=0 from rfl] at f0
             have Hx:=HV x (Ys hx)
             have e1:=Q9B Hx 2 s
             have l1:=Qcw x 2
             have l3:=Hx.len
             have cx:=Ty.cells_eq x
             simp only[Qho hx]
             simp only[Ty.enc,cx] at e1 f0
             generalize at10 bigV x 2=u at *
             obtain⟨b1,b2⟩:=adds3 (t1:=C.ti Q0) (t2:=C.ti Q0) (a:=u) (b:=[32]) (c:=t.name) (by simp only[Ya,Ye];omega)
             simp only[Yj,Yk,Ym] at b1 b2
             simp only[go_sem,Nat.reduceAdd,Nat.reduceLeDiff,c,hk,h1,h2,Q4,Yi,i0,i1,f0,e1,b1,b2,cond_true,cond_false]
           |false=>
             rw[h3] at i1
             have e1:=Qgu t (by omega) (by omega) HV s t.args [] [] 0 rfl rfl (by simp only[Ye];omega)
             rw[show ((0:Nat):Int)=0 from rfl] at e1
             simp only[go_sem,Nat.reduceAdd,Nat.reduceLeDiff,c,hk,h1,h2,Q4,Yi,i0,i1,Ym,Ye,decide_true,cond_true,cond_false] at e1 |-
             exact e1
theorem Qll(m:Nat)(t:Ty)(h:t.size<=m)(h':t.size<2^21)(hg:allTy goodB t=true)(hp:VarOK t):PartT t:=Qby m t h h' (QeK t hg hp)
open Go Go.Am
set_option maxRecDepth 4000
theorem Q96(p:Int)(hp:1<=p/\p<=8)(s:St):∀ (k i:Nat) (acc:Str),((i+k:Nat):Int)=p->acc.length<=100*i->
  Q0w (.val (.int .i64 p)) (.val (.str acc)) (.val (.int .i64 p)) (.val (.int .i64 i)) s=some (.ret (.val (.str (parS (decide (p>1)) (acc++joinS [44,32] ((List.range' i k).map varT) (decide (i=0)))++[32]))),s)
 |0,i,acc,h,hl=>by
   have z:decide ((i:Int)<p)=false:=decide_eq_false (by omega)
   have e1:=Q1V acc (decide (p>1)) (by omega) s
   have hw:=Q0D (decide (p>1)) acc
   have b1:=adds2 (t1:=C.ti Q0) (a:=parS (decide (p>1)) acc) (b:=[32]) (by simp only[Yl];omega)
   rw[Q6Y]
   simp only[go_sem,z,e1,b1,List.range'_zero,Yo,joinS,Yr]
 |k+1,i,acc,h,hl=>by
   have z:decide ((i:Int)<p)=true:=decide_eq_true (by omega)
   have hi:i<8:=by omega
   have e1:=Q9p (i:Int) (by omega) (by omega) s
   have hv:=Q7Y (n:=(i:Int)) (by omega) (by omega)
   have w1:IntKind.i64.wrap ((i:Int)+1)=((i+1:Nat):Int):=by rw[wrap64 (by omega) (by omega)];rfl
   have hr:(List.range' i (k+1)).map varT=varT i::(List.range' (i+1) k).map varT:=rfl
   have hv2:varT i=39::letT (i:Int):=rfl
   rw[Q6Y,hr]
   cases hz:decide (i=0) with
   |true=>
     have hz':=of_decide_eq_true hz
     have z2:decide ((i:Int)>0)=false:=decide_eq_false (by omega)
     obtain⟨b1,b2⟩:=adds3 (t1:=C.ti Q0) (t2:=C.ti Q0) (a:=acc) (b:=[39]) (c:=letT (i:Int)) (by simp only[Yl];omega)
     have ih:=Q96 p hp s k (i+1) (acc++39::letT (i:Int)) (by omega) (by simp only[Yb,Ya];omega)
     rw[decide_eq_false (show ¬ i+1=0 by omega)] at ih
     simp only[Yj,Yk,Ym] at b1 b2
     simp only[go_sem,z,z2,e1,w1,b1,b2,joinS,hv2,Yj,Yk,Ym,cond_true,cond_false] at ih |-
     exact ih
   |false=>
     have hz':=of_decide_eq_false hz
     have z2:decide ((i:Int)>0)=true:=decide_eq_true (by omega)
     obtain⟨b1,b2,b3⟩:=adds4 (t1:=C.ti Q0) (t2:=C.ti Q0) (t3:=C.ti Q0) (a:=acc) (b:=[44,32]) (c:=[39]) (d:=letT (i:Int)) (by simp only[Ya,Ye];omega)
     have ih:=Q96 p hp s k (i+1) (acc++[44,32]++39::letT (i:Int)) (by omega) (by simp only[Yb,Ya,Ye];omega)
     rw[decide_eq_false (show ¬ i+1=0 by omega)] at ih
     simp only[Yj,Yk,Ym] at b1 b2 b3 ih
     simp only[go_sem,z,z2,e1,w1,b1,b2,b3,joinS,hv2,Yj,Yk,Ym,cond_true,cond_false] at ih |-
     exact ih
theorem Qcl(p:Int)(hp:0<=p/\p<=8)(s:St):cw (.f Q3J) [.int .i64 p] s=some (.ret (.val (.str (parmS p))),s):=by
 rw[Qe5]
 unfold parmS
 cases h0:decide (p=0) with
 |true=>simp only[go_sem,h0,cond_true]
 |false=>
   have h0':=of_decide_eq_false h0
   obtain⟨m,rfl⟩:=Int.eq_ofNat_of_zero_le hp.1
   have e1:=Q96 (m:Int) (by omega) s m 0 [] (by omega) (by simp)
   rw[show ((0:Nat):Int)=0 from rfl] at e1
   simp only[go_sem,h0,e1,cond_false,Int.toNat_natCast,List.range_eq_range',decide_true,Ym]
structure PartK (c:Con):Prop where
 ty:c.has=true->PartT c.arg/\tyS c.arg=txt10 bigV c.arg
 len:c.name.length<=32
theorem Qhy{c:Con}(H:PartK c)(s:St):cw (.f Q6z) [c.enc] s=some (.ret (.val (.str (conS c))),s):=by
 have ct:=Ty.cells_eq c.arg
 have cc:c.cells = .str c.name :: .int .i64 c.at_ :: .bool c.has::c.arg.cells:=rfl
 have hn:=H.len
 rw[QiE]
 unfold conS
 cases hh:c.has with
 |false=>simp only[go_sem,Nat.reduceAdd,Nat.reduceLeDiff,Con.enc,cc,ct,hh,cond_false]
 |true=>
   obtain⟨H1,H2⟩:=H.ty hh
   have e1:=H1.ok s
   have hl:=H1.len
   rw[H2]
   generalize txt10 bigV c.arg=y at *
   obtain⟨b1,b2⟩:=adds3 (t1:=C.ti Q0) (t2:=C.ti Q0) (a:=c.name) (b:=[32,111,102,32]) (c:=y) (by simp only[Ya,Ye];omega)
   simp only[Yj,Yk,Ym] at b1 b2
   simp only[Ty.enc,ct] at e1
   simp only[go_sem,Nat.reduceAdd,Nat.reduceLeDiff,Con.enc,cc,ct,hh,e1,b1,b2,cond_true]
theorem Qk8{c:Con}(H:PartK c):(conS c).length<2^41:=by
 have hn:=H.len
 unfold conS
 cases hh:c.has with
 |false=>simp only[cond_false];omega
 |true=>
   obtain⟨H1,H2⟩:=H.ty hh
   have hl:=H1.len
   rw[H2]
   simp only[cond_true,Yb,Ya,Ye];omega
section
variable (a:Int) (nm:Str) (p:Int) (cons:List Con) (nb:Bool) (cs:List Case) (cb:Bool) (fs:List Fun) (fb:Bool)
theorem QhD(k:Int)(hl:cons.length<2^40)(H:∀ c ∈ cons,PartK c)(s:St)(r:Str->Option (Out × St))(hr:∀ x:Str,x.length<2^51->(bif decide (k=3) then some (.ret (.val (.str x)),s) else Q2q ((Dec.mk k a nm p cons nb cs cb fs fb).cells.map .val) (.val (.str [102,117,110,32])) (.val (.int .i64 fs.length)) (.val (.int .i64 0)) s)=r x):∀ (suf pre:List Con) (acc:Str) (i:Nat),pre++suf=cons->i=pre.length->acc.length+((suf.map conS).map (·.length)).sum+10*suf.length<2^50->
  Q3y ((Dec.mk k a nm p cons nb cs cb fs fb).cells.map .val) (.val (.str acc)) (.val (.int .i64 cons.length)) (.val (.int .i64 i)) s=r (acc++joinS [32,124,32] (suf.map conS) (decide (pre.length=0)))
 |[],pre,acc,i,h,hi,hb=>by
   subst hi
   have hx:=hr acc (by omega)
   rw[Q8K]
   simp only[Dec.cells_mk,Yh,Yo] at hx
   cases hk:decide (k=3) with
   |true=>
     rw[hk] at hx
     simp only[go_sem,Nat.reduceAdd,Nat.reduceLeDiff,Dec.cells_mk,Qg (by simpa using h),hk,Yo,joinS,Yr,cond_true] at hx |-
     exact hx
   |false=>
     rw[hk] at hx
     simp only[go_sem,Nat.reduceAdd,Nat.reduceLeDiff,Dec.cells_mk,Qg (by simpa using h),hk,Yo,joinS,Yr,cond_false,Q4,Yi] at hx |-
     exact hx
 |c::suf,pre,acc,i,h,hi,hb=>by
   subst hi
   obtain⟨f1,f2',f3⟩:=Qe (x:=.val (encS nb (cons.map Con.enc))) (Q4 _ _) h (by omega) (Con.cells_len c) (by decide)
   have f2:ixS 7 (.val (encS nb (cons.map Con.enc))) (.val (.int .i64 (pre.length:Int)))=some (.val (.cp c.cells)):=f2'
   clear f2'
   have e1:=Qhy (H c (by rw[<-h];simp)) s
   have hcl:=Qk8 (H c (by rw[<-h];simp))
   have ct:=Ty.cells_eq c.arg
   have cc:c.cells = .str c.name :: .int .i64 c.at_ :: .bool c.has::c.arg.cells:=rfl
   rw[cc,ct] at f2
   simp only[Con.enc,cc,ct] at e1
   simp only[Yh,Yv,Ya] at hb |-
   have hd1:decide ((pre++[c]).length=0)=false:=decide_eq_false (by simp)
   have IH:=λ(acc':Str) (hb':acc'.length+((suf.map conS).map (·.length)).sum+10*suf.length<2^50)=>QhD k hl H s r hr suf (pre++[c]) acc' (pre.length+1) (by simpa using h) (by simp) hb'
   rw[hd1] at IH
   generalize conS c=y at *
   rw[Q8K]
   cases hz:decide (pre.length=0) with
   |true=>
     have hz':=of_decide_eq_true hz
     have z:decide ((pre.length:Int)>0)=false:=decide_eq_false (by omega)
     have b1:=adds2 (t1:=C.ti Q0) (a:=acc) (b:=y) (by omega)
     have ih:=IH (acc++y) (by simp only[Yb];omega)
     simp only[go_sem,Nat.reduceAdd,Nat.reduceLeDiff,Dec.cells_mk,f1,f2,f3,z,Q8J,e1,b1,joinS,Yj] at ih |-
     exact ih
   |false=>
     have hz':=of_decide_eq_false hz
     have z:decide ((pre.length:Int)>0)=true:=decide_eq_true (by omega)
     obtain⟨b1,b2⟩:=adds3 (t1:=C.ti Q0) (t2:=C.ti Q0) (a:=acc) (b:=[32,124,32]) (c:=y) (by simp only[Ya,Ye];omega)
     have ih:=IH (acc++[32,124,32]++y) (by simp only[Yb,Ya,Ye];omega)
     simp only[go_sem,Nat.reduceAdd,Nat.reduceLeDiff,Dec.cells_mk,f1,f2,f3,z,Q8J,e1,b1,b2,joinS,Yj] at ih |-
     exact ih
theorem QlQ(k:Int)(hl:fs.length<2^40)(H:∀ f ∈ fs,PartY f.case/\f.name.length<=32)(s:St):∀ (suf pre:List Fun) (acc:Str) (i:Nat),pre++suf=fs->i=pre.length->acc.length+((suf.map funS).map (·.length)).sum+10*suf.length<2^50->
  Q2q ((Dec.mk k a nm p cons nb cs cb fs fb).cells.map .val) (.val (.str acc)) (.val (.int .i64 fs.length)) (.val (.int .i64 i)) s=some (.ret (.val (.str (acc++joinS [32,97,110,100,32] (suf.map funS) (decide (pre.length=0))))),s)
 |[],pre,acc,i,h,hi,hb=>by
   subst hi
   rw[Q8L]
   simp only[go_sem,Dec.cells_mk,Qg (by simpa using h),Yo,joinS,Yr]
 |f::suf,pre,acc,i,h,hi,hb=>by
   subst hi
   obtain⟨f1,f2',f3⟩:=Qe (x:=.val (encS fb (fs.map Fun.enc))) (Q4 _ _) h (by omega) (Fun.cells_len f) (by decide)
   have f2:ixS 14 (.val (encS fb (fs.map Fun.enc))) (.val (.int .i64 (pre.length:Int)))=some (.val (.cp f.cells)):=f2'
   clear f2'
   obtain⟨hf,hn⟩:=H f (by rw[<-h];simp)
   have e1:=Q6u hf.p 2 s
   have e2:=Q1x hf.e s
   have cf:f.cells=_:=Fun.cells_eq f
   have cc:f.case.cells=_:=Case.cells_eq f.case
   have cp:=Pat.cells_eq f.case.pat
   have ce:=Exp.cells_eq f.case.exp
   rw[cf,cc,cp,ce] at f2
   simp only[Yk,Ym] at f2
   simp only[Pat.enc,cp] at e1
   simp only[Exp.enc,ce] at e2
   have hlen:(funS f).length=f.name.length+1+(parS (decide (patLv f.case.pat<2)) (patS f.case.pat)).length+3+(expS f.case.exp).length:=by
    unfold funS
    simp only[Yb,Ya,Ye];omega
   simp only[Yh,Yv,Ya] at hb |-
   rw[hlen] at hb
   have hd1:decide ((pre++[f]).length=0)=false:=decide_eq_false (by simp)
   have IH:=λ(acc':Str) (hb':acc'.length+((suf.map funS).map (·.length)).sum+10*suf.length<2^50)=>QlQ k hl H s suf (pre++[f]) acc' (pre.length+1) (by simpa using h) (by simp) hb'
   rw[hd1] at IH
   have hS:=funS.eq_1 f
   rw[hS] at hlen |-
   clear hS
   generalize parS (decide (patLv f.case.pat<2)) (patS f.case.pat)=y at *
   generalize expS f.case.exp=w at *
   have J:∀ acc1:Str,acc1.length+f.name.length+1+y.length+3+w.length+((suf.map funS).map (·.length)).sum+10*suf.length<2^50->
     Q3x ((Dec.mk k a nm p cons nb cs cb fs fb).cells.map .val) (.val (.str acc1)) (.val (.int .i64 pre.length)) (.val (.int .i64 fs.length)) (.val (.int .i64 pre.length)) s=some (.ret (.val (.str (acc1++(f.name++(32::(y++([32,61,32]++w))))++joinS [32,97,110,100,32] (suf.map funS) false))),s):=λacc1 hb1=>by
    have ih:=IH (acc1++(f.name++(32::(y++([32,61,32]++w))))) (by simp only[Yb,Ya,Ye];omega)
    obtain⟨b1,b2,b3,b4,b5⟩:=adds6 (t1:=C.ti Q0) (t2:=C.ti Q0) (t3:=C.ti Q0) (t4:=C.ti Q0) (t5:=C.ti Q0) (a:=acc1) (b:=f.name) (c:=[32]) (d:=y) (e:=[32,61,32]) (f:=w) (by simp only[Ya,Ye];omega)
    simp only[Yj,Yk,Ym] at b1 b2 b3 b4 b5 ih |-
    rw[Qe1]
    simp only[Dec.cells_mk,Yh,Yo] at ih |-
    simp only[go_sem,Nat.reduceAdd,Nat.reduceLeDiff,Dec.cells_mk,f2,f3,e1,e2,b1,b2,b3,b4,b5,ih,Yj,Yk,Ym]
   rw[Q8L]
   simp only[Dec.cells_mk,Yh,Yo] at J
   cases hz:decide (pre.length=0) with
   |true=>
     have hz':=of_decide_eq_true hz
     have z:decide ((pre.length:Int)>0)=false:=decide_eq_false (by omega)
     have j:=J acc (by omega)
     simp only[Yj,Yk,Ym] at j
     simp only[go_sem,Dec.cells_mk,f1,z,j,joinS,Yj,Yk,Ym]
   |false=>
     have hz':=of_decide_eq_false hz
     have z:decide ((pre.length:Int)>0)=true:=decide_eq_true (by omega)
     have b1:=adds2 (t1:=C.ti Q0) (a:=acc) (b:=[32,97,110,100,32]) (by simp only[Ya,Ye];omega)
     have j:=J (acc++[32,97,110,100,32]) (by simp only[Yb,Ya,Ye];omega)
     simp only[Yj,Yk,Ym] at b1 j
     simp only[go_sem,Dec.cells_mk,f1,z,b1,j,joinS,Yj,Yk,Ym]
def ZOK(d:Dec):Prop:=∀ s,cw (.f Q1M) [d.enc] s=some (.ret (.val (.str (decS d))),s)
theorem QyG{c:Case}(qc:cs[0]? = some c)(hc:PartY c):ZOK (.mk 1 a nm p cons nb cs cb fs fb):=λs=>by
 have f0:=QeH (b:=cb) qc
 have cc:c.cells=_:=Case.cells_eq c
 have cp:=Pat.cells_eq c.pat
 have ce:=Exp.cells_eq c.exp
 rw[cc,cp,ce,show ((0:Nat):Int)=0 from rfl] at f0
 simp only[Yk,Ym] at f0
 have e1:=Q6u hc.p 0 s
 rw[Qa1,show parS false (patS c.pat)=patS c.pat from rfl] at e1
 have e2:=Q1x hc.e s
 have l1:=hc.p.len
 have l2:=hc.e.len
 have hcs:(caseSs cs).headD ([],[],false)=(patS c.pat,expS c.exp,openE c.exp):=by
  rw[Q0f]
  cases cs with
  |nil=>simp at qc
  |cons x l=>simp at qc;subst qc;rfl
 rw[Q5G,decS,hcs]
 simp only[Pat.enc,cp] at e1
 simp only[Exp.enc,ce] at e2
 generalize patS c.pat=y at *
 generalize expS c.exp=w at *
 obtain⟨b1,b2,b3⟩:=adds4 (t1:=C.ti Q0) (t2:=C.ti Q0) (t3:=C.ti Q0) (a:=[118,97,108,32]) (b:=y) (c:=[32,61,32]) (d:=w) (by simp only[Ya,Ye];omega)
 simp only[Yj,Yk,Ym] at b1 b2 b3
 simp only[go_sem,Int.reduceEq,Nat.reduceAdd,Nat.reduceLeDiff,Dec.cells_mk,decide_true,decide_false,f0,e1,e2,b1,b2,b3,cond_true,cond_false]
theorem QyJ{c:Con}(qc:cons[0]? = some c)(hc:PartK c):ZOK (.mk 4 a nm p cons nb cs cb fs fb):=λs=>by
 have f0:=Qhx (b:=nb) qc
 have cc:c.cells = .str c.name :: .int .i64 c.at_ :: .bool c.has::c.arg.cells:=rfl
 have ct:=Ty.cells_eq c.arg
 rw[cc,ct,show ((0:Nat):Int)=0 from rfl] at f0
 have e1:=Qhy hc s
 have l1:=Qk8 hc
 have hh:(cons.map conS).headD []=conS c:=by
  cases cons with
  |nil=>simp at qc
  |cons x l=>simp at qc;subst qc;rfl
 rw[Q5G,decS,hh]
 simp only[Con.enc,cc,ct] at e1
 generalize conS c=y at *
 have b1:=adds2 (t1:=C.ti Q0) (a:=[101,120,99,101,112,116,105,111,110,32]) (b:=y) (by simp only[Ya,Ye];omega)
 simp only[Yj,Yk,Ym] at b1
 simp only[go_sem,Int.reduceEq,Nat.reduceAdd,Nat.reduceLeDiff,Dec.cells_mk,decide_true,decide_false,f0,e1,b1,cond_true,cond_false]
theorem QyI(hp:0<=p/\p<=8)(hn:nm.length<=32)(H:∀ c ∈ cons,PartK c)(hl:cons.length<2^30)(hs:((cons.map conS).map (·.length)).sum<2^45):ZOK (.mk 3 a nm p cons nb cs cb fs fb):=λs=>by
 have e1:=Qcl p hp s
 have h1:=Qgb p hp
 rw[Q5G,decS]
 generalize parmS p=y at *
 obtain⟨b1,b2,b3⟩:=adds4 (t1:=C.ti Q0) (t2:=C.ti Q0) (t3:=C.ti Q0) (a:=[100,97,116,97,116,121,112,101,32]) (b:=y) (c:=nm) (d:=[32,61,32]) (by simp only[Ya,Ye];omega)
 have e2:=QhD a nm p cons nb cs cb fs fb 3 (by omega) H s (λx=>some (.ret (.val (.str x)),s)) (λx _=>rfl) cons [] ([100,97,116,97,116,121,112,101,32]++y++nm++[32,61,32]) 0 rfl rfl (by simp only[Yb,Ya,Ye];omega)
 rw[show ((0:Nat):Int)=0 from rfl] at e2
 simp only[Yj,Yk,Ym,Dec.cells_mk,Yh,Yo,Ye,decide_true] at b1 b2 b3 e2
 simp only[go_sem,Int.reduceEq,Nat.reduceAdd,Dec.cells_mk,decide_true,decide_false,e1,b1,b2,b3,Q4,Yi,e2,cond_true,cond_false,Yj,Yk,Ym]
theorem QyH(hp:p=0)(hn:nm=[])(hc:cons=[])(H:∀ f ∈ fs,PartY f.case/\f.name.length<=32)(hl:fs.length<2^30)(hs:((fs.map funS).map (·.length)).sum<2^45):ZOK (.mk 2 a nm p cons nb cs cb fs fb):=λs=>by
 subst hp hn hc
 have e1:=Qcl 0 (by decide) s
 have hp0:parmS 0=[]:=rfl
 rw[hp0] at e1
 have e3:=QlQ a [] 0 [] nb cs cb fs fb 2 (by omega) H s fs [] [102,117,110,32] 0 rfl rfl (by simp only[Ya,Ye];omega)
 rw[show ((0:Nat):Int)=0 from rfl] at e3
 have e2:=QhD a [] 0 [] nb cs cb fs fb 2 (by simp) (by simp) s (λ_=>some (.ret (.val (.str ([102,117,110,32]++joinS [32,97,110,100,32] (fs.map funS) true))),s)) (λx _=>by
  rw[show decide ((2:Int)=3)=false from rfl,cond_false,e3];rfl) [] [] [100,97,116,97,116,121,112,101,32,32,61,32] 0 rfl rfl (by simp)
 rw[show ((0:Nat):Int)=0 from rfl] at e2
 obtain⟨b1,b2,b3⟩:=adds4 (t1:=C.ti Q0) (t2:=C.ti Q0) (t3:=C.ti Q0) (a:=[100,97,116,97,116,121,112,101,32]) (b:=[]) (c:=[]) (d:=[32,61,32]) (by simp)
 rw[Q5G,decS,Q6J]
 simp only[Yj,Yk,Ym,Yr,Dec.cells_mk,Yh,Yo,Ye,Q1P] at b1 b2 b3 e2
 simp only[go_sem,Int.reduceEq,Nat.reduceAdd,Dec.cells_mk,decide_true,decide_false,e1,b1,b2,b3,Yo,Q1P,Q4,Ye,e2,cond_true,cond_false,Yj,Yk,Ym]
end
structure PartZ (d:Dec):Prop where
 ok:ZOK d
 len:(decS d).length<2^40
theorem QfP(ds:List Dec)(b:Bool)(x:Str)(hx:x.length<=5)(hl:ds.length<2^40)(H:∀ d ∈ ds,PartZ d)(s:St):∀ (suf pre:List Dec) (acc:Str) (i:Nat),pre++suf=ds->i=pre.length->acc.length+((decSs suf).map (·.length)).sum+10*suf.length<2^50->
  Q2U (.val (encS b (ds.map Dec.enc))) (.val (.str x)) (.val (.str acc)) (.val (.int .i64 ds.length)) (.val (.int .i64 i)) s=some (.ret (.val (.str (acc++((decSs suf).map (· ++ x)).flatten))),s)
 |[],pre,acc,i,h,hi,hb=>by
   subst hi
   rw[Q8m,Q6H]
   simp only[go_sem,Qg (by simpa using h),Yo,List.flatten_nil,Yr]
 |d::suf,pre,acc,i,h,hi,hb=>by
   subst hi
   obtain⟨f1,f2',f3⟩:=Qe (x:=.val (encS b (ds.map Dec.enc))) (Q4 _ _) h (by omega) (Dec.cells_len d) (by decide)
   have f2:ixS 7 (.val (encS b (ds.map Dec.enc))) (.val (.int .i64 (pre.length:Int)))=some (.val (.cp d.cells)):=f2'
   clear f2'
   have hd:=H d (by rw[<-h];simp)
   have e1:=hd.ok s
   have hdl:=hd.len
   have cd:=Dec.cells_eq d
   rw[cd] at f2
   simp only[Dec.enc,cd] at e1
   have hS:decSs (d::suf)=decS d::decSs suf:=by rw[decSs]
   rw[hS] at hb |-
   simp only[Yh,Yv,Ya,List.flatten_cons] at hb |-
   have ih:=QfP ds b x hx hl H s suf (pre++[d]) (acc++(decS d++x)) (pre.length+1) (by simpa using h) (by simp) (by simp only[Yb];omega)
   generalize decS d=y at *
   obtain⟨b1,b2⟩:=adds3 (t1:=C.ti Q0) (t2:=C.ti Q0) (a:=acc) (b:=y) (c:=x) (by omega)
   simp only[Yj] at b1 b2 ih
   rw[Q8m]
   simp only[go_sem,Nat.reduceAdd,Nat.reduceLeDiff,f1,f2,f3,e1,b1,b2,ih,Yj]
theorem QlS(ds:List Dec)(b:Bool)(x:Str)(hx:x.length<=5)(hl:ds.length<2^30)(H:∀ d ∈ ds,PartZ d)(hs:((decSs ds).map (·.length)).sum<2^45)(s:St):cw (.f Q5i) [encS b (ds.map Dec.enc),.str x] s=some (.ret (.val (.str (((decSs ds).map (· ++ x)).flatten))),s):=by
 have e1:=QfP ds b x hx (by omega) H s ds [] [] 0 rfl rfl (by simp only[Ye];omega)
 rw[show ((0:Nat):Int)=0 from rfl] at e1
 rw[QgW]
 simp only[go_sem,Q4,Yi,Ym] at e1 |-
 exact e1
open Go Go.Am
set_option maxRecDepth 4000
section
variable (a:Int) (nm:Str) (n:Int) (kids:List Exp) (kb:Bool) (cs:List Case) (cb:Bool) (ds:List Dec) (db:Bool)
theorem QyC{x:Exp}(qx:kids[0]? = some x)(hx:PartX x)(HD:∀ d ∈ ds,PartZ d)(hl:ds.length<2^30)(hs:((decSs ds).map (·.length)).sum<2^45)(hf:(((decSs ds).map (· ++ [32])).flatten).length<2^46):XOK (.mk 7 a nm n kids kb cs cb ds db):=λs=>by
 have f0:ixS 7 (.val (encS kb (kids.map Exp.enc))) (.val (.int .i64 0))=some (.val (.cp x.cells)):=ZS qx
 have e1:=Q1x hx s
 have l1:=hx.len
 have e2:=QlS ds db [32] (by decide) hl HD hs s
 have cx:=Exp.cells_eq x
 rw[QI,expS]
 simp only[Q4Z qx]
 simp only[Exp.enc,cx] at e1
 rw[cx] at f0
 generalize expS x=u at *
 generalize ((decSs ds).map (· ++ [32])).flatten=y at *
 obtain⟨b1,b2,b3,b4⟩:=adds5 (t1:=C.ti Q0) (t2:=C.ti Q0) (t3:=C.ti Q0) (t4:=C.ti Q0) (a:=[108,101,116,32]) (b:=y) (c:=[105,110,32]) (d:=u) (e:=[32,101,110,100]) (by simp only[Ya,Ye];omega)
 simp only[Yj,Yk,Ym] at b1 b2 b3 b4
 simp only[go_sem,Int.reduceEq,Nat.reduceAdd,Nat.reduceLeDiff,Exp.cells_mk,decide_true,decide_false,f0,e1,e2,b1,b2,b3,b4,cond_true,cond_false,Yj,Yk,Ym]
theorem Qw7(k:Int)(I:ExpIs k n nm kids.length cs.length ds.length)(hs:(Exp.mk k a nm n kids kb cs cb ds db).size<2^21)
  (HK:∀ e ∈ kids,PartX e) (HC:∀ c ∈ cs,PartY c) (HD:∀ d ∈ ds,PartZ d)
  (LK:∀ e ∈ kids,(expS e).length+20<=500*e.size) (LC:∀ c ∈ cs,(patS c.pat).length+20<=500*c.pat.size/\(expS c.exp).length+20<=500*c.exp.size) (LD:∀ d ∈ ds,(decS d).length+20<=500*d.size):XOK (.mk k a nm n kids kb cs cb ds db):=by
 simp only[Exp.size] at hs
 have y1:=QfU LK
 have y2:=Q9H LC
 have y3:=QfN LD
 have y5:((decSs ds).map (·.length)).sum<=(((decSs ds).map (· ++ [32])).flatten).length:=by
  generalize decSs ds=l
  induction l with
  |nil=>simp
  |cons q l ih=>simp only[Yh,Yv,List.flatten_cons,Yb];omega
 rw[<-Qb1,QfT] at y1
 have z1:=Exp.len_sizes kids
 have z2:=Case.len_sizes cs
 have z3:=Dec.len_sizes ds
 have hk:k=1\/k=2\/k=3\/k=4\/k=5\/k=6\/k=7\/k=8\/k=9\/k=10\/k=11\/k=12\/k=13\/k=14\/k=15\/k=16\/k=17\/k=18\/k=19\/k=20:=by have:=I.kind;omega
 have one:∀ h:k=12\/k=16\/k=17\/k=19,∃ x,kids[0]? = some x/\x ∈ kids:=λh=>nth0 (by have:=I.one h;omega)
 have two:∀ h:k=6\/k=14\/k=15\/k=18,∃ x y,kids[0]? = some x/\kids[1]? = some y/\x ∈ kids/\y ∈ kids:=λh=>by
  have:=I.two h
  obtain⟨x,h1,h2⟩:=nth0 (l:=kids) (by omega)
  obtain⟨y,h3,h4⟩:=nth1 (l:=kids) (by omega)
  exact⟨x,y,h1,h3,h2,h4⟩
 rcases hk with rfl|rfl|rfl|rfl|rfl|rfl|rfl|rfl|rfl|rfl|rfl|rfl|rfl|rfl|rfl|rfl|rfl|rfl|rfl|rfl
 ·exact Qyx a nm n kids kb cs cb ds db (I.int rfl)
 ·exact Qyy a nm n kids kb cs cb ds db
 ·exact Qyz a nm n kids kb cs cb ds db (QbD (I.con rfl).1) HK
 ·exact QmK a nm n kids kb cs cb ds db 4 _ (.inl ⟨rfl,rfl⟩) HK (by omega) (by omega)
 ·exact QyA a nm n kids kb cs cb ds db HC (by omega) (by omega)
 ·obtain⟨x,y,h1,h2,h3,h4⟩:=two (by simp)
  exact QyB a nm n kids kb cs cb ds db h1 h2 (HK x h3) (HK y h4)
 ·obtain⟨x,h1,h2⟩:=nth0 (l:=kids) (by have:=(I.letd rfl).1;omega)
  exact QyC a nm n kids kb cs cb ds db h1 (HK x h2) HD (by omega) (by omega) (by omega)
 ·obtain⟨x,h1,h2⟩:=nth0 (l:=kids) (by have:=I.if_ rfl;omega)
  obtain⟨y,h3,h4⟩:=nth1 (l:=kids) (by have:=I.if_ rfl;omega)
  obtain⟨z,h5,h6⟩:=nth2 (l:=kids) (by have:=I.if_ rfl;omega)
  exact QyD a nm n kids kb cs cb ds db h1 h3 h5 (HK x h2) (HK y h4) (HK z h6)
 ·obtain⟨x,h1,h2⟩:=nth0 (l:=kids) (by have:=(I.case_ rfl).1;omega)
  exact QyE a nm n kids kb cs cb ds db h1 (HK x h2) HC (by omega) (by omega)
 ·exact QmK a nm n kids kb cs cb ds db 10 _ (.inr ⟨rfl,rfl⟩) HK (by omega) (by omega)
 ·obtain⟨x,h1,h2⟩:=nth0 (l:=kids) (by have:=(I.try_ rfl).1;omega)
  exact Qw2 a nm n kids kb cs cb ds db h1 (HK x h2) HC (by omega) (by omega)
 ·obtain⟨x,h1,h2⟩:=one (by simp)
  exact Qw3 a nm n kids kb cs cb ds db h1 (HK x h2)
 ·obtain⟨hl,hn⟩:=I.op rfl
  obtain⟨x,h1,h2⟩:=nth0 (l:=kids) (by omega)
  obtain⟨y,h3,h4⟩:=nth1 (l:=kids) (by omega)
  exact Qw4 a nm n kids kb cs cb ds db h1 h3 (HK x h2) (HK y h4) hn
 ·obtain⟨x,y,h1,h2,h3,h4⟩:=two (by simp)
  exact QmJ a nm n kids kb cs cb ds db 14 5 4 _ (.inr ⟨rfl,rfl,rfl,rfl⟩) h1 h2 (HK x h3) (HK y h4)
 ·obtain⟨x,y,h1,h2,h3,h4⟩:=two (by simp)
  exact QmJ a nm n kids kb cs cb ds db 15 4 3 _ (.inl ⟨rfl,rfl,rfl,rfl⟩) h1 h2 (HK x h3) (HK y h4)
 ·obtain⟨x,h1,h2⟩:=one (by simp)
  exact Qj8 a nm n kids kb cs cb ds db 16 _ (.inl ⟨rfl,rfl⟩) h1 (HK x h2)
 ·obtain⟨x,h1,h2⟩:=one (by simp)
  exact Qj8 a nm n kids kb cs cb ds db 17 _ (.inr (.inl ⟨rfl,rfl⟩)) h1 (HK x h2)
 ·obtain⟨x,y,h1,h2,h3,h4⟩:=two (by simp)
  exact Qw5 a nm n kids kb cs cb ds db h1 h2 (HK x h3) (HK y h4)
 ·obtain⟨x,h1,h2⟩:=one (by simp)
  exact Qj8 a nm n kids kb cs cb ds db 19 _ (.inr (.inr ⟨rfl,rfl⟩)) h1 (HK x h2)
 ·exact Qw6 a nm n kids kb cs cb ds db
end
theorem QiY:∀ m:Nat,(∀ e:Exp,e.size<=m->e.size<2^21->RN (nodesExp e)->XOK e)/\(∀ (d:Dec) (i:Bool),d.size<=m->d.size<2^21->RN (nodesDec i d)->(i=true\/NumCons d.cons)->ZOK d)
 |0=>⟨λe h=>by cases e;simp only[Exp.size] at h;omega,λd i h=>by cases d;simp only[Dec.size] at h;omega⟩
 |m+1=>by
   obtain⟨HE,HD⟩:=QiY m
   have HX:∀ e:Exp,e.size<=m->e.size<2^21->RN (nodesExp e)->PartX e:=λe h1 h2 hr=>⟨HE e h1 h2 hr,hr,by have:=Q6m hr;omega⟩
   have HP:∀ p:Pat,p.size<=m->p.size<2^21->RN (nodesPat p)->PartP p:=λp h1 h2 hr=>Q97 p.size p (Yg _) (by omega) hr
   have LP:∀ p:Pat,RN (nodesPat p)->(patS p).length+20<=500*p.size:=λp hr=>Q4M p.size p (Yg _) hr
   have HC:∀ cs:List Case,Case.sizes cs<=m->Case.sizes cs<2^21->RN (nodesCases cs)->∀ c ∈ cs,PartY c/\(patS c.pat).length+20<=500*c.pat.size/\(expS c.exp).length+20<=500*c.exp.size:=λcs hs hs2 hr c hc=>by
    have h1:=Case.mem_sizes hc
    have h2:=RN.cases hr c hc
    cases c with
    |mk p e=>
      simp only[Case.size] at h1
      simp only[nodesCase] at h2
      exact⟨⟨HP p (by omega) (by omega) h2.l,HX e (by omega) (by omega) h2.r⟩,LP p h2.l,Q6m h2.r⟩
   refine⟨λe h hb hr=>?_,λd i h hb hr hn=>?_⟩
   ·cases e with
    |mk k a nm n kids kb cs cb ds db=>
      have hb':=hb
      simp only[Exp.size] at h hb
      simp only[nodesExp] at hr
      have I:ExpIs k n nm kids.length cs.length ds.length:=QaP (hr _ Yd)
      have hr':=hr.t
      have hC:=HC cs (by omega) (by omega) hr'.r.r
      refine Qw7 a nm n kids kb cs cb ds db k I hb' (λe he=>?_) (λc hc=>(hC c hc).1) (λd hd=>?_) (λe he=>Q6m (RN.exps hr'.r.l e he)) (λc hc=>(hC c hc).2) (λd hd=>QhB (RN.decs hr'.l d hd) (.inl rfl))
      ·have:=Exp.mem_sizes he
       exact HX e (by omega) (by omega) (RN.exps hr'.r.l e he)
      ·have:=Dec.mem_sizes hd
       have h3:=QhB (RN.decs hr'.l d hd) (.inl rfl)
       exact⟨HD d true (by omega) (by omega) (RN.decs hr'.l d hd) (.inl rfl),by omega⟩
   ·cases d with
    |mk k a nm p cons nb cs cb fs fb=>
      simp only[Dec.size] at h hb
      simp only[nodesDec] at hr
      have I:DecIs k nm p cons.length cs.length fs.length i:=QaK (hr _ Yd)
      have hr':=hr.t
      have hC:=HC cs (by omega) (by omega) hr'.l
      have HN:∀ c ∈ cons,PartK c/\(conS c).length+20<=500*c.size:=λc hc=>by
       have hs1:=Con.mem_sizes hc
       have h1:∀ n ∈ nodesCon c,n.wrong.1=0:=λn hn=>hr'.r.r n (Q3t hc n hn)
       have hw:wrongConB c=0:=h1 (.con c) (by unfold nodesCon;exact Yd)
       have hcap:capB c.name=true:=by
        unfold wrongConB at hw
        grind
       have key:c.has=true->allTy goodB c.arg=true/\VarOK c.arg:=λhh=>by
        rcases hn with rfl|hn
        ·have hz:cons=[]:=by
          rcases I.inn rfl with h2|h2
          ·exact len0 (I.val h2).2.2
          ·exact len0 (I.fn h2).2.1
         rw[hz] at hc;cases hc
        ·exact⟨Q87 c.at_ c.arg λn hn=>h1 n (by unfold nodesCon;rw[hh];exact Yc _ hn),hn c hc hh⟩
       refine⟨⟨λhh=>?_,QeG hcap⟩,Qhv hcap key⟩
       obtain⟨hg,hv⟩:=key hh
       refine⟨Qll c.arg.size c.arg (Yg _) (by unfold Con.size at hs1;omega) hg hv,?_⟩
       unfold tyS
       exact (QfA hg hv).2
      have hcl:=QfM λc hc=>(HN c hc).2
      have z1:=Con.len_sizes cons
      have z2:=Fun.len_sizes fs
      have HF:∀ f ∈ fs,(PartY f.case/\f.name.length<=32)/\f.name.length<=32/\(patS f.case.pat).length+20<=500*f.case.pat.size/\(expS f.case.exp).length+20<=500*f.case.exp.size:=λf hf=>by
       have h1:=Fun.mem_sizes hf
       have h2:=RN.funs hr'.r.l f hf
       have h3:=Q3P (QeJ hr'.r.l f hf)
       cases f with
       |mk nm' a' c'=>
         cases c' with
         |mk p' e'=>
           simp only[Fun.size,Case.size] at h1
           simp only[Fun.case,nodesCase] at h2
           exact⟨⟨⟨HP p' (by omega) (by omega) h2.l,HX e' (by omega) (by omega) h2.r⟩,h3⟩,h3,LP p' h2.l,Q6m h2.r⟩
      have hfl:=Qg3 λf hf=>(HF f hf).2
      rw[Q6J] at hfl
      rcases I.kind with rfl|rfl|rfl|rfl
      ·obtain⟨c,h1,h2⟩:=nth0 (l:=cs) (by have:=(I.val rfl).1;omega)
       exact QyG a nm p cons nb cs cb fs fb h1 (hC c h2).1
      ·have hfn:=I.fn rfl
       exact QyH a nm p cons nb cs cb fs fb (by first|exact hfn.2.2.2.1|grind [DecIs]) (by first|exact hfn.2.2.2.2|grind [DecIs]) (len0 hfn.2.1) (λf hf=>(HF f hf).1) (by omega) (by omega)
      ·have hd:=I.data rfl
       exact QyI a nm p cons nb cs cb fs fb ⟨hd.2.2.1,hd.2.2.2.1⟩ (Q3P hd.2.2.2.2.1) (λc hc=>(HN c hc).1) (by omega) (by omega)
      ·obtain⟨c,h1,h2⟩:=nth0 (l:=cons) (by have:=(I.exn rfl).2.2;omega)
       exact QyJ a nm p cons nb cs cb fs fb h1 (HN c h2).1
theorem QyF{e:Exp}(hs:e.size<2^21)(hr:RN (nodesExp e)):PartX e:=⟨(QiY e.size).1 e (Yg _) hs hr,hr,by have:=Q6m hr;omega⟩
open Go Go.Am
set_option maxRecDepth 4000
theorem Qd2(nd:TNode)(s:St)(h:nd.ok):∃ nm:Str,cw (.f Q7c) [nd.enc] s=some (.ret (.val (.tup [.int .i64 nd.wrong.1,.str nm])),s)/\(nd.wrong.1=8->nm=nd.wrong.2):=by
 rw[Qfi]
 cases nd with
 |dec inn d=>
   have hn:d.name.length<2^62:=by simp only[TNode.ok] at h;omega
   have hw:=λs=>Qfc d inn s hn
   obtain⟨k,a,nm,p,l,nb,c,cb,f,fb⟩:=d
   simp only[go_sem,Dec.enc] at hw
   simp only[go_sem,Int.reduceEq,Nat.reduceAdd,Nat.reduceLeDiff,Nat.reduceSub,TNode.cells,hw]
   exact⟨nm,rfl,λ_=>rfl⟩
 |exp e=>
   obtain⟨h0,h1,h2,h3⟩:=h
   have hw:=λs=>Qfe e s (by omega) h1 h2 h3
   obtain⟨k,a,nm,n,l,lb,c,cb,d,db⟩:=e
   simp only[go_sem,Exp.enc] at hw
   simp only[go_sem,Int.reduceEq,Nat.reduceAdd,Nat.reduceLeDiff,Nat.reduceSub,TNode.cells,Dec.zero,hw]
   exact⟨nm,rfl,λ_=>rfl⟩
 |pat e=>
   obtain⟨h0,h2,h3⟩:=h
   have hw:=λs=>Qfh e s (by omega) h2 h3
   obtain⟨k,a,nm,n,l,lb⟩:=e
   simp only[go_sem,Pat.enc] at hw
   simp only[go_sem,Int.reduceEq,Nat.reduceAdd,Nat.reduceLeDiff,Nat.reduceSub,TNode.cells,Dec.zero,Exp.zero,hw]
   exact⟨nm,rfl,λ_=>rfl⟩
 |ty e a=>
   have hn:e.name.length<2^62:=by simp only[TNode.ok] at h;omega
   have hw:=λs=>QgS e s hn
   obtain⟨k,n,nm,l,lb⟩:=e
   simp only[go_sem,Ty.enc] at hw
   simp only[go_sem,Int.reduceEq,Nat.reduceAdd,Nat.reduceLeDiff,Nat.reduceSub,TNode.cells,Dec.zero,Exp.zero,Pat.zero,hw]
   exact⟨nm,rfl,λ_=>rfl⟩
 |fn f=>
   have hn:f.name.length<2^62:=by simp only[TNode.ok] at h;omega
   have hw:=λs=>Q2e f.name s hn
   obtain⟨nm,a,c⟩:=f
   simp only[Fun.name,QaZ] at hw
   simp only[go_sem,Int.reduceEq,Nat.reduceAdd,Nat.reduceLeDiff,Nat.reduceSub,TNode.cells,Dec.zero,Exp.zero,Pat.zero,Ty.zero,hw]
   cases hl:lowB nm
   ·simp only[go_sem];exact⟨nm,by simp only[TNode.wrong,Fun.name,hl];rfl,λ_=>rfl⟩
   ·simp only[go_sem];exact⟨[],by simp only[TNode.wrong,Fun.name,hl];rfl,λh=>by simp only[TNode.wrong,Fun.name,hl] at h;cases h⟩
 |con c=>
   have hn:c.name.length<2^62:=by simp only[TNode.ok] at h;omega
   have hw:=λs=>Q6Q c.name s hn
   have hz:=λs=>QbT c.arg s
   obtain⟨nm,a,hs,arg⟩:=c
   obtain⟨tk,tn,tnm,tl,tb⟩:=arg
   simp only[QlM] at hw
   simp only[go_sem,Ty.enc] at hz
   simp only[go_sem,Int.reduceEq,Nat.reduceAdd,Nat.reduceLeDiff,TNode.cells,Con.cells,Dec.zero,Exp.zero,Pat.zero,Ty.zero,Fun.zero,Case.zero,hw,hz]
   have hb:(!hs && !(decide (tk=0)&&decide (tn=0)&&decide (tnm=[])&&decide ((tl.length:Int)=0)))=(!hs&&(!decide (tk=0) || !decide (tn=0) || !decide (tnm=[]) || decide ((tl.length:Int)>0))):=by
    cases hs<;>by_cases h1:tk=0<;>by_cases h2:tn=0<;>by_cases h3:tnm=[]<;>cases tl<;>simp[h1,h2,h3]<;>omega
   have key:∀ b1 b2:Bool,∃ nm':Str,some (Out.ret (Slot.val (bif b1 then AV.tup [.int .i64 29,.str []] else bif !b2 then AV.tup [.int .i64 8,.str nm] else AV.tup [.int .i64 0,.str []])),s)=some (Out.ret (Slot.val (.tup [.int .i64 (bif b1 then 29 else bif !b2 then 8 else 0),.str nm'])),s)/\((bif b1 then (29:Int) else bif !b2 then 8 else 0)=8->nm'=nm):=by
    intro b1 b2
    cases b1<;>cases b2
    ·exact⟨nm,rfl,λ_=>rfl⟩
    ·exact⟨[],rfl,λh=>by cases h⟩
    ·exact⟨[],rfl,λh=>by cases h⟩
    ·exact⟨[],rfl,λh=>by cases h⟩
   obtain⟨nm',e1,e2⟩:=key (!hs && !(decide (tk=0)&&decide (tn=0)&&decide (tnm=[])&&decide ((tl.length:Int)=0))) (capB nm)
   have hw2:(TNode.con ⟨nm,a,hs,.mk tk tn tnm tl tb⟩).wrong=(bif (!hs && !(decide (tk=0)&&decide (tn=0)&&decide (tnm=[])&&decide ((tl.length:Int)=0))) then 29 else bif !capB nm then 8 else 0,nm):=by
    rw[hb];rfl
   rw[hw2]
   exact⟨nm',e1,e2⟩
open Go Go.Am
set_option maxRecDepth 4000
theorem Q7r(t:Ty)(hl:t.args.length<2^40):∀ (suf pre:List Ty) (n:Int) (s:St) (i:Nat),pre++suf=t.args->i=pre.length->(∀ t ∈ suf,∀ s,cw (.f Q0T) [t.enc] s=some (.ret (.val (.int .i64 (deepTy t))),s))->0<=n->n<2^40->Ty.sizes suf<2^40->
  Q1z (t.cells.map .val) (.val (.int .i64 n)) (.val (.int .i64 i)) s=some (.ret (.val (.int .i64 (deepTys suf n+1))),s)
 |[],pre,n,s,i,h,hi,H,h0,h1,h2=>by
   subst hi
   rw[Q6U];simp only[go_sem,Nat.reduceAdd,Nat.reduceLeDiff,Ty.cells_eq,Qg (by simpa using h)]
   rw[wrap64 (by omega) (by omega)];rfl
 |u::suf,pre,n,s,i,h,hi,H,h0,h1,h2=>by
   subst hi
   obtain⟨f1,f2,f3⟩:=Qe (x:=.val (encS t.nl (t.args.map Ty.enc))) (Q4 _ _) h (by omega) (Ty.cells_len u) (by decide)
   have ht:=Q4X u
   have hm:=QZ n (deepTy u) (2^40 - 1)
   have hn:=QY n (deepTy u)
   simp only[Ty.sizes] at h2
   have:=Q7r t hl suf (pre++[u]) (maxI n (deepTy u)) s (pre.length+1) (by simpa using h) (by simp) (λw hw=>H w (Yc _ hw)) (by omega) (by omega) (by omega)
   rw[Q6U];rw[Ty.cells_eq] at this |-;simp only[go_sem,Nat.reduceAdd,Nat.reduceLeDiff,f1,f2,f3,H u (Yd)] at this |-
   exact this
theorem Q7s:∀ (m:Nat) (t:Ty) (s:St),t.size<=m->t.size<2^40->cw (.f Q0T) [t.enc] s=some (.ret (.val (.int .i64 (deepTy t))),s)
 |0,.mk _ _ _ _ _,_,h,_=>by simp only[Ty.size] at h;omega
 |m+1,.mk k n nm l nl,s,h,h'=>by
   simp only[Ty.size] at h h'
   have hl:=Ty.len_sizes l
   have:=Q7r (.mk k n nm l nl) (by simp only[Ty.args];omega) l [] 0 s 0 rfl rfl (λu hu s=>by have:=Ty.mem_sizes hu;exact Q7s m u s (by omega) (by omega)) (by decide) (by decide) (by omega)
   rw[QdS];simp only[go_sem,Nat.reduceAdd,Ty.enc] at this |-
   exact this
theorem Q6T(t:Pat)(hl:t.kids.length<2^40):∀ (suf pre:List Pat) (n:Int) (s:St) (i:Nat),pre++suf=t.kids->i=pre.length->(∀ t ∈ suf,∀ s,cw (.f Zf) [t.enc] s=some (.ret (.val (.int .i64 (deepPat t))),s))->0<=n->n<2^40->Pat.sizes suf<2^40->
  Q1a (t.cells.map .val) (.val (.int .i64 n)) (.val (.int .i64 i)) s=some (.ret (.val (.int .i64 (deepPats suf n+1))),s)
 |[],pre,n,s,i,h,hi,H,h0,h1,h2=>by
   subst hi
   rw[Q61];simp only[go_sem,Nat.reduceAdd,Nat.reduceLeDiff,Pat.cells_eq,Qg (by simpa using h)]
   rw[wrap64 (by omega) (by omega)];rfl
 |u::suf,pre,n,s,i,h,hi,H,h0,h1,h2=>by
   subst hi
   obtain⟨f1,f2,f3⟩:=Qe (x:=.val (encS t.kb (t.kids.map Pat.enc))) (Q4 _ _) h (by omega) (Pat.cells_len u) (by decide)
   have ht:=Q0K u
   have hm:=QZ n (deepPat u) (2^40 - 1)
   have hn:=QY n (deepPat u)
   simp only[Pat.sizes] at h2
   have:=Q6T t hl suf (pre++[u]) (maxI n (deepPat u)) s (pre.length+1) (by simpa using h) (by simp) (λw hw=>H w (Yc _ hw)) (by omega) (by omega) (by omega)
   rw[Q61];rw[Pat.cells_eq] at this |-;simp only[go_sem,Nat.reduceAdd,Nat.reduceLeDiff,f1,f2,f3,H u (Yd)] at this |-
   exact this
theorem Q0l:∀ (m:Nat) (t:Pat) (s:St),t.size<=m->t.size<2^40->cw (.f Zf) [t.enc] s=some (.ret (.val (.int .i64 (deepPat t))),s)
 |0,.mk _ _ _ _ _ _,_,h,_=>by simp only[Pat.size] at h;omega
 |m+1,.mk k a nm n l nl,s,h,h'=>by
   simp only[Pat.size] at h h'
   have hl:=Pat.len_sizes l
   have:=Q6T (.mk k a nm n l nl) (by simp only[Pat.kids];omega) l [] 0 s 0 rfl rfl (λu hu s=>by have:=Pat.mem_sizes hu;exact Q0l m u s (by omega) (by omega)) (by decide) (by decide) (by omega)
   rw[QcZ];simp only[go_sem,Nat.reduceAdd,Pat.enc] at this |-
   exact this
def rdeepExpOK(t:Exp):Prop:=∀ s,cw (.f Z9) [t.enc] s=some (.ret (.val (.int .i64 (deepExp t))),s)
def rdeepDecsOK(l:List Dec):Prop:=∀ (v:AV) (s:St),(Slot.val v).list? = some (l.map Dec.enc)->cw (.f Q13) [v] s=some (.ret (.val (.int .i64 (deepDecs l 0))),s)
theorem Q53(t:Exp)(hl:t.cases.length<2^40):∀ (suf pre:List Case) (n:Int) (s:St) (i:Nat),pre++suf=t.cases->i=pre.length->(∀ c ∈ suf,rdeepExpOK c.exp)->0<=n->n<2^40->Case.sizes suf<2^40->
  Q19 (t.cells.map .val) (.val (.int .i64 n)) (.val (.int .i64 i)) s=some (.ret (.val (.int .i64 (deepCases suf n+1))),s)
 |[],pre,n,s,i,h,hi,H,h0,h1,h2=>by
   subst hi
   rw[Q5V];simp only[go_sem,Exp.cells_eq,Qg (by simpa using h)]
   rw[wrap64 (by omega) (by omega)];rfl
 |.mk p e::suf,pre,n,s,i,h,hi,H,h0,h1,h2=>by
   subst hi
   obtain⟨f1,f2,f3⟩:=Qe (x:=.val (encS t.cb (t.cases.map Case.enc))) (Q4 _ _) h (by omega) (Case.cells_len (.mk p e)) (by decide)
   have ht:=Q0J e
   have hp:=Q0K p
   simp only[Case.sizes,Case.size] at h2
   have h4:=QY n (deepPat p)
   have h5:=QY (maxI n (deepPat p)) (deepExp e)
   have h6:=QZ n (deepPat p) (2^40 - 1) (by omega) (by omega)
   have h7:=QZ (maxI n (deepPat p)) (deepExp e) (2^40 - 1) (by omega) (by omega)
   have He:rdeepExpOK e:=H (.mk p e) (Yd)
   have:=Q53 t hl suf (pre++[.mk p e]) (maxI (maxI n (deepPat p)) (deepExp e)) s (pre.length+1) (by simpa using h) (by simp) (λw hw=>H w (Yc _ hw)) (by omega) (by omega) (by omega)
   rw[Q5V];rw[Exp.cells_eq] at this |-;simp only[go_sem,Nat.reduceLeDiff,Nat.reduceSub,f1,f2,f3,Q0l _ p _ (Yg _) (show p.size<2^40 by omega),He s] at this |-
   exact this
theorem Q52(t:Exp)(hl:t.kids.length<2^40)(hl2:t.cases.length<2^40)(hc:Case.sizes t.cases<2^40)(Hc:∀ c ∈ t.cases,rdeepExpOK c.exp):∀ (suf pre:List Exp) (n:Int) (s:St) (i:Nat),pre++suf=t.kids->i=pre.length->(∀ c ∈ suf,rdeepExpOK c)->0<=n->n<2^40->Exp.sizes suf<2^40->
  Q18 (t.cells.map .val) (.val (.int .i64 n)) (.val (.int .i64 i)) s=some (.ret (.val (.int .i64 (deepCases t.cases (deepExps suf n)+1))),s)
 |[],pre,n,s,i,h,hi,H,h0,h1,h2=>by
   subst hi
   have:=Q53 t hl2 t.cases [] n s 0 rfl rfl Hc h0 h1 hc
   rw[Q5U];rw[Exp.cells_eq] at this |-;simp only[go_sem,Qg (by simpa using h)] at this |-
   exact this
 |e::suf,pre,n,s,i,h,hi,H,h0,h1,h2=>by
   subst hi
   obtain⟨f1,f2,f3⟩:=Qe (x:=.val (encS t.kb (t.kids.map Exp.enc))) (Q4 _ _) h (by omega) (Exp.cells_len e) (by decide)
   have ht:=Q0J e
   simp only[Exp.sizes] at h2
   have h4:=QY n (deepExp e)
   have h6:=QZ n (deepExp e) (2^40 - 1) (by omega) (by omega)
   have He:rdeepExpOK e:=H e (Yd)
   have:=Q52 t hl hl2 hc Hc suf (pre++[e]) (maxI n (deepExp e)) s (pre.length+1) (by simpa using h) (by simp) (λw hw=>H w (Yc _ hw)) (by omega) (by omega) (by omega)
   rw[Q5U];rw[Exp.cells_eq] at this |-;simp only[go_sem,Nat.reduceLeDiff,f1,f2,f3,He s] at this |-
   exact this
theorem Q3w(d:Dec)(x0:Slot)(j:Nat)(fx:ixS 7 x0 (.val (.int .i64 (j:Int)))=some (.val (.cp d.cells)))(n0:Int)(hj:j<2^40)(hl:d.cons.length<2^40):∀ (suf pre:List Con) (n:Int) (s:St) (i:Nat),pre++suf=d.cons->i=pre.length->0<=n->n<2^40->Con.sizes suf<2^40->
  Q1s x0 (.val (.int .i64 n0)) (.val (.int .i64 j)) (.val (.int .i64 n)) (.val (.int .i64 i)) s=Q02 x0 (.val (.int .i64 (maxI n0 (deepCons suf n+1)))) (.val (.int .i64 (j+1:Nat))) s
 |[],pre,n,s,i,h,hi,h0,h1,h2=>by
   subst hi
   rw[Q8g];simp only[go_sem,fx,Dec.cells_eq,Qg (by simpa using h)]
   rw[wrap64 (n:=n+1) (by omega) (by omega),wrap64 (by omega) (by omega)];rfl
 |c::suf,pre,n,s,i,h,hi,h0,h1,h2=>by
   subst hi
   obtain⟨f1,f2,f3⟩:=Qe (x:=.val (encS d.nb (d.cons.map Con.enc))) (Q4 _ _) h (by omega) (Con.cells_len c) (by decide)
   have ht:=Q4X c.arg
   simp only[Con.sizes,Con.size] at h2
   have hm:=QZ n (deepTy c.arg) (2^40 - 1)
   have hn:=QY n (deepTy c.arg)
   obtain⟨nm,a,hs,arg⟩:=c
   dsimp only at ht hm hn h2
   rw[Q8g];simp only[go_sem,Nat.reduceLeDiff,fx,Dec.cells_eq,f1,f2,f3,Con.cells]
   cases hs with
   |false=>
     simp only[go_sem]
     exact Q3w d x0 j fx n0 hj hl suf (pre++[_]) n s _ (by simpa using h) (by simp) (by omega) (by omega) (by omega)
   |true=>
     simp only[go_sem,Q7s _ arg _ (Yg _) (show arg.size<2^40 by omega)]
     exact Q3w d x0 j fx n0 hj hl suf (pre++[_]) _ s _ (by simpa using h) (by simp) (by omega) (by omega) (by omega)
theorem Q6S(d:Dec)(x0:Slot)(j:Nat)(fx:ixS 7 x0 (.val (.int .i64 (j:Int)))=some (.val (.cp d.cells)))(n0:Int)(hj:j<2^40)(hl:d.funs.length<2^40)(hl3:d.cons.length<2^40)(hc:Con.sizes d.cons<2^40):∀ (suf pre:List Fun) (n:Int) (s:St) (i:Nat),pre++suf=d.funs->i=pre.length->(∀ f ∈ suf,rdeepExpOK f.case.exp)->0<=n->n<2^40->Fun.sizes suf<2^40->
  Q2R x0 (.val (.int .i64 n0)) (.val (.int .i64 j)) (.val (.int .i64 n)) (.val (.int .i64 i)) s=Q02 x0 (.val (.int .i64 (maxI n0 (deepCons d.cons (deepFuns suf n)+1)))) (.val (.int .i64 (j+1:Nat))) s
 |[],pre,n,s,i,h,hi,H,h0,h1,h2=>by
   subst hi
   have:=Q3w d x0 j fx n0 hj hl3 d.cons [] n s 0 rfl rfl h0 h1 hc
   rw[Q8f];simp only[go_sem,Nat.reduceAdd,Nat.reduceLeDiff,fx,Dec.cells_eq,Qg (by simpa using h)]
   exact this
 |.mk nm a (.mk p e)::suf,pre,n,s,i,h,hi,H,h0,h1,h2=>by
   subst hi
   obtain⟨f1,f2,f3⟩:=Qe (x:=.val (encS d.fb (d.funs.map Fun.enc))) (Q4 _ _) h (by omega) (Fun.cells_len (.mk nm a (.mk p e))) (by decide)
   have ht:=Q0J e
   have hp:=Q0K p
   simp only[Fun.sizes,Fun.size,Case.size] at h2
   have h4:=QY n (deepPat p)
   have h5:=QY (maxI n (deepPat p)) (deepExp e)
   have h6:=QZ n (deepPat p) (2^40 - 1) (by omega) (by omega)
   have h7:=QZ (maxI n (deepPat p)) (deepExp e) (2^40 - 1) (by omega) (by omega)
   have ha:=QhG (.mk p e) n h0
   simp only[Case.pat,Case.exp] at ha
   have He:rdeepExpOK e:=H (.mk nm a (.mk p e)) (Yd)
   have:=Q6S d x0 j fx n0 hj hl hl3 hc suf (pre++[_]) (maxI (maxI n (deepPat p)) (deepExp e)) s (pre.length+1) (by simpa using h) (by simp) (λw hw=>H w (Yc _ hw)) (by omega) (by omega) (by omega)
   rw[Q8f];simp only[go_sem,Nat.reduceAdd,Nat.reduceLeDiff,Nat.reduceSub,fx,Dec.cells_eq,f1,f2,f3,Q0l _ p _ (Yg _) (show p.size<2^40 by omega),He s]
   simp only[deepFuns]
   rw[<-ha]
   exact this
theorem Q6R(d:Dec)(x0:Slot)(j:Nat)(fx:ixS 7 x0 (.val (.int .i64 (j:Int)))=some (.val (.cp d.cells)))(n0:Int)(hj:j<2^40)(hl:d.case.length<2^40)(hl2:d.funs.length<2^40)(hl3:d.cons.length<2^40)(hc:Con.sizes d.cons<2^40)(hf:Fun.sizes d.funs<2^40)(HF:∀ f ∈ d.funs,rdeepExpOK f.case.exp):∀ (suf pre:List Case) (n:Int) (s:St) (i:Nat),pre++suf=d.case->i=pre.length->(∀ f ∈ suf,rdeepExpOK f.exp)->0<=n->n<2^40->Case.sizes suf<2^40->
  Q2Q x0 (.val (.int .i64 n0)) (.val (.int .i64 j)) (.val (.int .i64 n)) (.val (.int .i64 i)) s=Q02 x0 (.val (.int .i64 (maxI n0 (deepCons d.cons (deepFuns d.funs (deepCases suf n))+1)))) (.val (.int .i64 (j+1:Nat))) s
 |[],pre,n,s,i,h,hi,H,h0,h1,h2=>by
   subst hi
   have:=Q6S d x0 j fx n0 hj hl2 hl3 hc d.funs [] n s 0 rfl rfl HF h0 h1 hf
   rw[Q8e];simp only[go_sem,fx,Dec.cells_eq,Qg (by simpa using h)]
   exact this
 |.mk p e::suf,pre,n,s,i,h,hi,H,h0,h1,h2=>by
   subst hi
   obtain⟨f1,f2,f3⟩:=Qe (x:=.val (encS d.cb (d.case.map Case.enc))) (Q4 _ _) h (by omega) (Case.cells_len (.mk p e)) (by decide)
   have ht:=Q0J e
   have hp:=Q0K p
   simp only[Case.sizes,Case.size] at h2
   have h4:=QY n (deepPat p)
   have h5:=QY (maxI n (deepPat p)) (deepExp e)
   have h6:=QZ n (deepPat p) (2^40 - 1) (by omega) (by omega)
   have h7:=QZ (maxI n (deepPat p)) (deepExp e) (2^40 - 1) (by omega) (by omega)
   have He:rdeepExpOK e:=H (.mk p e) (Yd)
   have:=Q6R d x0 j fx n0 hj hl hl2 hl3 hc hf HF suf (pre++[_]) (maxI (maxI n (deepPat p)) (deepExp e)) s (pre.length+1) (by simpa using h) (by simp) (λw hw=>H w (Yc _ hw)) (by omega) (by omega) (by omega)
   rw[Q8e];simp only[go_sem,Nat.reduceLeDiff,Nat.reduceSub,fx,Dec.cells_eq,f1,f2,f3,Q0l _ p _ (Yg _) (show p.size<2^40 by omega),He s]
   exact this
theorem Q5F(L:List Dec)(x:Slot)(hx:x.list? = some (L.map Dec.enc))(hl:L.length<2^40):∀ (suf pre:List Dec) (n:Int) (s:St) (i:Nat),pre++suf=L->i=pre.length->(∀ d ∈ suf,(∀ c ∈ d.case,rdeepExpOK c.exp)/\∀ f ∈ d.funs,rdeepExpOK f.case.exp)->0<=n->n<2^40->Dec.sizes suf<2^40->
  Q02 x (.val (.int .i64 n)) (.val (.int .i64 i)) s=some (.ret (.val (.int .i64 (deepDecs suf n))),s)
 |[],pre,n,s,i,h,hi,H,h0,h1,h2=>by
   subst hi
   rw[Q8d];simp only[go_sem,hx,Qg (by simpa using h)];rfl
 |.mk k a nm p l nb c cb f fb::suf,pre,n,s,i,h,hi,H,h0,h1,h2=>by
   subst hi
   obtain⟨f1,f2,f3⟩:=Qe hx h (by omega) (Dec.cells_len (.mk k a nm p l nb c cb f fb)) (by decide)
   obtain⟨hC,hF⟩:=H (.mk k a nm p l nb c cb f fb) (Yd)
   simp only[Dec.sizes,Dec.size] at h2
   have g1:=Q28 c 0
   have g2:=Q6B f (deepCases c 0)
   have g3:=Q6A l (deepFuns f (deepCases c 0))
   have g5:=QY n (deepCons l (deepFuns f (deepCases c 0))+1)
   have g6:=QZ n (deepCons l (deepFuns f (deepCases c 0))+1) (2^40 - 1) (by omega) (by omega)
   have g7:=Fun.len_sizes f
   have g8:=Case.len_sizes c
   have g9:=Con.len_sizes l
   have hlen:pre.length<L.length:=by rw[<-h];simp
   have:=Q6R (.mk k a nm p l nb c cb f fb) x pre.length f2 n (by omega) (by simp only[Dec.case];omega) (by simp only[Dec.funs];omega) (by simp only[Dec.cons];omega) (by simp only[Dec.cons];omega) (by simp only[Dec.funs];omega) hF c [] 0 s 0 rfl rfl hC (by decide) (by decide) (by omega)
   rw[show ((0:Nat):Int)=0 from rfl] at this
   rw[Q8d];simp only[go_sem,hx,f1,f2,this]
   exact Q5F L x hx hl suf (pre++[_]) _ s _ (by simpa using h) (by simp) (λu hu=>H u (Yc _ hu)) (by simp only[Dec.cons,Dec.funs];omega) (by simp only[Dec.cons,Dec.funs];omega) (by omega)
theorem Qfd:∀ m:Nat,(∀ e:Exp,e.size<=m->e.size<2^40->rdeepExpOK e)/\(∀ l:List Dec,Dec.sizes l<=m->Dec.sizes l<2^40->rdeepDecsOK l):=by
 intro m
 induction m with
 |zero=>
   refine⟨λe h _=>?_,λl h _ v s hv=>?_⟩
   ·obtain⟨k,a,nm,n,l,lb,c,cb,d,db⟩:=e
    simp only[Exp.size] at h;omega
   ·cases l with
    |cons c l=>obtain⟨k,a,nm,p,l,nb,c,cb,f,fb⟩:=c;simp only[Dec.sizes,Dec.size] at h;omega
    |nil=>
      rw[Qaq]
      exact Q5F [] _ hv (by decide) [] [] 0 s 0 rfl rfl (by simp) (by decide) (by decide) (by simp only[Dec.sizes];decide)
 |succ m ih=>
   obtain⟨ihE,ihD⟩:=ih
   have hcase:∀ (c:List Case),Case.sizes c<=m+1->Case.sizes c<2^40->∀ t ∈ c,rdeepExpOK t.exp:=λc h h' t ht=>by
    have:=Case.mem_sizes ht
    obtain⟨p,e⟩:=t
    simp only[Case.size] at this
    exact ihE e (by omega) (by omega)
   refine⟨λe h h' s=>?_,λl h h' v s hv=>?_⟩
   ·obtain⟨k,a,nm,n,l,lb,c,cb,d,db⟩:=e
    simp only[Exp.size] at h h'
    have hl:=Exp.len_sizes l
    have hl2:=Case.len_sizes c
    have g1:=Q49 d 0
    have hD:=λs=>ihD d (by omega) (by omega) (encS db (d.map Dec.enc)) s (by simp only[go_sem])
    have:=Q52 (.mk k a nm n l lb c cb d db) (by simp only[Exp.kids];omega) (by simp only[Exp.cases];omega) (by simp only[Exp.cases];omega) (hcase c (by omega) (by omega)) l [] (deepDecs d 0) s 0 rfl rfl (λt ht=>ihE t (by have:=Exp.mem_sizes ht;omega) (by have:=Exp.mem_sizes ht;omega)) (by omega) (by omega) (by omega)
    rw[QcT];simp only[go_sem,Nat.reduceAdd,Nat.reduceLeDiff,Exp.enc,hD] at this |-
    rw[show ((0:Nat):Int)=0 from rfl] at this
    rw[this]
    simp only[Exp.cases,deepExp]
    rw[Qjo]
   ·have:=Dec.len_sizes l
    rw[Qaq]
    refine Q5F l _ hv (by omega) l [] 0 s 0 rfl rfl (λt ht=>?_) (by decide) (by decide) h'
    have h1:=Dec.mem_sizes ht
    obtain⟨k,a,nm,p,l,nb,c,cb,f,fb⟩:=t
    simp only[Dec.size] at h1
    refine⟨hcase c (by omega) (by omega),λg hg=>?_⟩
    have h2:=Fun.mem_sizes hg
    obtain⟨nm,a,⟨p,e⟩⟩:=g
    simp only[Dec.funs,Fun.size,Case.size] at h2
    exact ihE e (by omega) (by omega)
theorem Qba(e:Exp)(s:St)(h:e.size<2^40):cw (.f Z9) [e.enc] s=some (.ret (.val (.int .i64 (deepExp e))),s):=(Qfd e.size).1 e (Yg _) h s
open Go Go.Am
set_option maxRecDepth 4000
theorem Q4Q(L:List TNode)(z:Slot)(hz:z.list? = some (L.map TNode.enc))(hl:L.length<2^40):∀ (suf pre:List TNode) (n:Nat) (s:St) (i:Nat),pre++suf=L->i=pre.length->n+suf.length<2^40->
  Q0Z z (.val (.int .i64 n)) (.val (.int .i64 i)) s=some (.ret (.val (.int .i64 (n+countN suf:Nat))),s)
 |[],pre,n,s,i,h,hi,hb=>by
   subst hi
   rw[Q7q];simp only[go_sem,hz,Qg (by simpa using h)];rfl
 |u::suf,pre,n,s,i,h,hi,hb=>by
   subst hi
   obtain⟨f1,f2,f3⟩:=Qe hz h (by omega) (TNode.cells_len u) (by decide)
   have hw:IntKind.i64.wrap ((n:Int)+1)=((n+1:Nat):Int):=by rw[wrap64 (by omega) (by omega)];rfl
   simp only[Ya] at hb
   rw[TNode.enc,QfL,TNode.cells_3] at f2
   have h1:=Q4Q L z hz hl suf (pre++[u]) n s (pre.length+1) (by simpa using h) (by simp) (by omega)
   have h2:=Q4Q L z hz hl suf (pre++[u]) (n+1) s (pre.length+1) (by simpa using h) (by simp) (by omega)
   rw[Q7q];simp only[go_sem,hz,f1,f2,f3,TNode.what_isNode,hw,h1,h2]
   cases hu:u.isNode
   ·have e:countN (u::suf)=countN suf:=by simp[countN,hu]
    simp only[go_sem,e]
   ·have e:countN (u::suf)=countN suf+1:=by simp[countN,hu]
    simp only[go_sem,e]
    rw[show n+1+countN suf=n+(countN suf+1) by omega]
theorem QcY(l:List TNode)(v:AV)(hv:(Slot.val v).list? = some (l.map TNode.enc))(s:St)(h:l.length<2^39):cw (.f Q4v) [v] s=some (.ret (.val (.int .i64 (countN l))),s):=by
 rw[Qfb]
 have:=Q4Q l (.val v) hv (by omega) l [] 0 s 0 rfl rfl (by omega)
 rw[Nat.zero_add] at this
 exact this
theorem Q8j(L:List TNode)(z:Slot)(hz:z.list? = some (L.map TNode.enc))(hl:L.length<2^40):∀ (suf pre:List TNode) (s:St) (i:Nat),pre++suf=L->i=pre.length->(∀ n ∈ suf,n.ok)->
  Q2n z [.val (.int .i64 0),.val (.int .i64 0),.val (.str [])] (.val (.int .i64 i)) s=some (.ret (.val (firstBad suf).enc),s)
 |[],pre,s,i,h,hi,H=>by
   subst hi
   rw[Q7t];simp only[go_sem,Nat.reduceAdd,Nat.reduceLeDiff,hz,Qg (by simpa using h)];rfl
 |u::suf,pre,s,i,h,hi,H=>by
   subst hi
   obtain⟨f1,f2,f3⟩:=Qe hz h (by omega) (TNode.cells_len u) (by decide)
   obtain⟨nm,e1,e2⟩:=Qd2 u s (H u (Yd))
   have ih:=Q8j L z hz hl suf (pre++[u]) s (pre.length+1) (by simpa using h) (by simp) (λw hw=>H w (Yc _ hw))
   have f2':=f2
   rw[TNode.enc,QfL,TNode.cells_3] at f2'
   have hj:∀ (e:Int) (nm:Str),Q2m z [.val (.int .i64 0),.val (.int .i64 0),.val (.str [])] (.val (.int .i64 pre.length)) (.val (.int .i64 e)) (.val (.str nm)) s=some (.ret (.val (TBad.mk e u.at_ nm).enc),s):=λe nm=>by
    rw[QbQ];simp only[go_sem,Nat.reduceAdd,Nat.reduceLeDiff,f2'];rfl
   rw[Q7t];simp only[go_sem,Nat.reduceAdd,Nat.reduceLeDiff,hz,f1,f2,f3,e1,ih,hj]
   by_cases h0:u.wrong.1=0
   ·simp only[go_sem,Int.reduceEq,h0,firstBad,TNode.bad,mkBad,TBad.zero]
   ·have hk:decide (u.bad.kind=0)=false:=by simp[TNode.bad,mkBad,h0]
    by_cases h8:u.wrong.1=8
    ·have:=e2 h8
     subst this
     simp only[go_sem,Int.reduceEq,h8,firstBad,hk]
     simp only[TNode.bad,h8];rfl
    ·simp only[go_sem,decide_eq_false h0,decide_eq_false h8,firstBad,hk]
     simp only[TNode.bad,mkBad,decide_eq_false h0,decide_eq_false h8];rfl
theorem Q8k(l:List TNode)(v:AV)(hv:(Slot.val v).list? = some (l.map TNode.enc))(deep:Int)(s:St)(h:l.length<2^39)(H:∀ n ∈ l,n.ok):cw (.f Q1l) [v,.int .i64 deep] s=some (.ret (.val (rightN l deep).enc),s):=by
 have h1:=QcY l v hv s h
 have h2:=Q8j l (.val v) hv (by omega) l [] s 0 rfl rfl H
 rw[show ((0:Nat):Int)=0 from rfl] at h2
 rw[Qff];simp only[go_sem,Nat.reduceAdd,Nat.reduceLeDiff,h1,h2]
 have e:decide ((countN l:Int)>8192)=decide (countN l>8192):=by simp only[gt_iff_lt];congr 1;rw[eq_iff_iff];omega
 rw[e]
 unfold rightN
 cases decide (countN l>8192)<;>cases decide (deep>100)<;>rfl
theorem Qav(t:Exp)(s:St)(h:t.size<2^26)(H:∀ n ∈ nodesExp t,n.ok):Ret (cw (.f Q4F) [t.enc] s) s (rightN (nodesExp t) (deepExp t)).enc:=by
 obtain⟨x,s1,e1,g1⟩:=QcU t s h
 have hlen:=Q2c t
 obtain⟨b,hb⟩:=g1.av
 have h2:=Qba t s1 (by omega)
 have h3:=Q8k (nodesExp t) (encS b ((nodesExp t).map TNode.enc)) (by simp only[go_sem]) (deepExp t) s1 (by omega) H
 rw[QbO];simp only[go_sem,Nat.reduceLeDiff,e1,h2,QW hb,h3]
 exact Ret.mk g1.grew
theorem Qaw(t:Pat)(s:St)(h:t.size<2^26)(H:∀ n ∈ nodesPat t,n.ok):Ret (cw (.f Q4G) [t.enc] s) s (rightN (nodesPat t) (deepPat t)).enc:=by
 obtain⟨x,s1,e1,g1⟩:=Q4P _ t s (Yg _) (by omega)
 have hlen:=Q2d t
 obtain⟨b,hb⟩:=g1.av
 have h2:=Q0l _ t s1 (Yg _) (by omega)
 have h3:=Q8k (nodesPat t) (encS b ((nodesPat t).map TNode.enc)) (by simp only[go_sem]) (deepPat t) s1 (by omega) H
 rw[QbP];simp only[go_sem,Nat.reduceLeDiff,e1,h2,QW hb,h3]
 exact Ret.mk g1.grew
end Go.Proofs.YtgfhplcmcdimiaaGreatDoor
namespace Go.Am
open Go
def exprS(e:Exp):Str:=bif decide ((rightN (nodesExp e) (deepExp e)).kind=0) then expS e else []
def patnS(p:Pat):Str:=bif decide ((rightN (nodesPat p) (deepPat p)).kind=0) then patS p else []
end Go.Am
namespace Go.Proofs.YtgfhplcmcdimiaaGreatDoor
open Go Go.Am
set_option maxRecDepth 4000
theorem QbH{l:List TNode}{D:Int}(h:(rightN l D).kind=0):RN l:=QjN (Qlc.1 h)
theorem Qka{e:Exp}(hr:RN (nodesExp e)):textB (expT e)=expS e:=((Qk2 e.size).1 e (Yg _) hr).2
theorem Q3R(e:Exp)(s:St)(hs:e.size<2^21)(H:∀ n ∈ nodesExp e,n.ok):Ret (cw (.f Q2Z) [e.enc] s) s (.str (exprS e)):=by
 obtain⟨s1,e1,g1⟩:=Qbm e s (by omega) H
 unfold exprS
 have hR:=QbH (l:=nodesExp e) (D:=deepExp e)
 generalize rightN (nodesExp e) (deepExp e)=R at *
 cases R with
 |mk k a nm=>
   have c:=Exp.cells_eq e
   rw[QiO]
   simp only[Exp.enc,c,TBad.enc,TBad.cells] at e1 |-
   cases hk:decide (k=0) with
   |false=>
     simp only[go_sem,Nat.reduceAdd,Nat.reduceLeDiff,e1,hk,cond_false]
     exact⟨s1,rfl,g1⟩
   |true=>
     have hr:=hR (of_decide_eq_true hk)
     obtain⟨u,s2,e2,g2,h2⟩:=Qr0 (by omega) hr s1
     obtain⟨v,av,hv⟩:=h2.av
     have t1:=Qj0 (expT e)
     rw[Qka hr] at t1
     have t2:=Q4Y hr
     have t3:=Q6m hr
     obtain⟨s3,e3,g3⟩:=Q3S (expT e) v hv (by omega) s2
     rw[Qka hr] at e3
     simp only[Exp.enc,c] at e2
     simp only[go_sem,Nat.reduceAdd,Nat.reduceLeDiff,e1,e2,e3,hk,QW av,cond_true]
     exact⟨s3,rfl,(g1.trans g2).trans g3⟩
theorem QdX(e:Exp)(s:St)(hs:e.size<2^21)(H:∀ n ∈ nodesExp e,n.ok):Ret (cw (.f Q82) [e.enc] s) s (.str (exprS e)):=by
 obtain⟨s1,e1,g1⟩:=Qav e s (by omega) H
 unfold exprS
 have hR:=QbH (l:=nodesExp e) (D:=deepExp e)
 generalize rightN (nodesExp e) (deepExp e)=R at *
 cases R with
 |mk k a nm=>
   have c:=Exp.cells_eq e
   rw[QgT]
   simp only[Exp.enc,c,TBad.enc,TBad.cells] at e1 |-
   cases hk:decide (k=0) with
   |false=>
     simp only[go_sem,Nat.reduceAdd,Nat.reduceLeDiff,e1,hk,cond_false]
     exact⟨s1,rfl,g1⟩
   |true=>
     have hr:=hR (of_decide_eq_true hk)
     have e2:=(QyF hs hr).ok s1
     simp only[Exp.enc,c] at e2
     simp only[go_sem,Nat.reduceAdd,Nat.reduceLeDiff,e1,e2,hk,cond_true]
     exact⟨s1,rfl,g1⟩
theorem Q7y(p:Pat)(s:St)(hs:p.size<2^21)(H:∀ n ∈ nodesPat p,n.ok):Ret (cw (.f Q3K) [p.enc] s) s (.str (patnS p)):=by
 obtain⟨s1,e1,g1⟩:=Qbo p s (by omega) H
 unfold patnS
 have hR:=QbH (l:=nodesPat p) (D:=deepPat p)
 generalize rightN (nodesPat p) (deepPat p)=R at *
 cases R with
 |mk k a nm=>
   have c:=Pat.cells_eq p
   rw[Qeb]
   simp only[Pat.enc,c,TBad.enc,TBad.cells] at e1 |-
   cases hk:decide (k=0) with
   |false=>
     simp only[go_sem,Nat.reduceAdd,Nat.reduceLeDiff,e1,hk,cond_false]
     exact⟨s1,rfl,g1⟩
   |true=>
     have hr:=hR (of_decide_eq_true hk)
     obtain⟨u,s2,e2,g2,h2⟩:=Q4i (Q3k p.size p (Yg _) (by omega) hr) s1
     obtain⟨v,av,hv⟩:=h2.av
     have hl:=(QbK p.size p (Yg _) hr 0 (by decide)).2
     rw[Qa1,show parS false (patS p)=patS p from rfl] at hl
     have t1:=Qj0 (patT p 0)
     rw[hl] at t1
     have t2:=Q2G p 0
     have t3:=Q4M p.size p (Yg _) hr
     obtain⟨s3,e3,g3⟩:=Q3S (patT p 0) v hv (by omega) s2
     rw[hl] at e3
     simp only[Pat.enc,c] at e2
     simp only[go_sem,Nat.reduceAdd,Nat.reduceLeDiff,e1,e2,e3,hk,QW av,cond_true]
     exact⟨s3,rfl,(g1.trans g2).trans g3⟩
theorem Qbb(p:Pat)(s:St)(hs:p.size<2^21)(H:∀ n ∈ nodesPat p,n.ok):Ret (cw (.f Q5h) [p.enc] s) s (.str (patnS p)):=by
 obtain⟨s1,e1,g1⟩:=Qaw p s (by omega) H
 unfold patnS
 have hR:=QbH (l:=nodesPat p) (D:=deepPat p)
 generalize rightN (nodesPat p) (deepPat p)=R at *
 cases R with
 |mk k a nm=>
   have c:=Pat.cells_eq p
   rw[Qd3]
   simp only[Pat.enc,c,TBad.enc,TBad.cells] at e1 |-
   cases hk:decide (k=0) with
   |false=>
     simp only[go_sem,Nat.reduceAdd,Nat.reduceLeDiff,e1,hk,cond_false]
     exact⟨s1,rfl,g1⟩
   |true=>
     have hr:=hR (of_decide_eq_true hk)
     have e2:=(Q97 p.size p (Yg _) (by omega) hr).ok s1
     simp only[Pat.enc,c] at e2
     simp only[go_sem,Nat.reduceAdd,Nat.reduceLeDiff,e1,e2,hk,cond_true]
     exact⟨s1,rfl,g1⟩
end Go.Proofs.YtgfhplcmcdimiaaGreatDoor
namespace Go.Am
open Go
@[go_sem] theorem Quq{l:List AV}{off sz:Nat}{m:List AV}(h:sz=1)(k:off+1<=l.length)(r:List (Nat × Nat × Slot)):fillS l ((off,sz,.full m)::r)=fillS (l.take off++([.sl m]++l.drop (off+1))) r:=by
  subst h
  exact QkV (x:=.full m) (v:=.sl m) rfl rfl rfl k r
end Go.Am
namespace Go.Proofs.YtgfhplcmcdimiaaGreatDoor
open Go Go.Am
set_option maxRecDepth 4000
def kE1:Exp:=.mk 4 0 [] 0 [.mk 1 0 [] 1 [] true [] true [] true] false [] true [] true
def kP:Pat:=.mk 6 0 [120] 0 [.mk 2 0 [121] 0 [] true] false
def kE2:Exp:=.mk 2 4 [78,105,108] 0 [] true [] true [] true
def kD:List Dec:=[.mk 1 0 [] 0 [] true [.mk kP kE1] false [] true]
theorem k1:rightN (nodesExp kE1) (deepExp kE1)=⟨19,0,[]⟩:=by decide +kernel
theorem k2:rightN (nodesExp kE2) (deepExp kE2)=⟨8,4,[78,105,108]⟩:=by decide +kernel
theorem k3:countN (nodesDecs false kD)=5:=by decide +kernel
theorem k4:varsPat kP=[[120],[121]]:=by decide +kernel
end Go.Proofs.YtgfhplcmcdimiaaGreatDoor