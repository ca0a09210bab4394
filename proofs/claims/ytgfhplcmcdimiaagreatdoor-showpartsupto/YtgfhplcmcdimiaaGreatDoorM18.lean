/- A part of the proof: SRx7, SRx8, LShowParts. -/
import Derived.Test.YtgfhplcmcdimiaaGreatDoorM12
import Derived.Test.YtgfhplcmcdimiaaGreatDoorM13
import Derived.Test.YtgfhplcmcdimiaaGreatDoorM16
import Derived.Test.YtgfhplcmcdimiaaGreatDoorM17
set_option linter.unusedVariables false
set_option linter.unusedSimpArgs false
open Bool renaming and_eq_true→Yf
open List renaming length_cons→Ya,mem_cons_of_mem→Yc,mem_cons_self→Yd,length_nil→Ye,map_cons→Yh,length_map→Yi,map_nil→Yo
open Nat renaming le_refl→Yg
namespace Go.Proofs.YtgfhplcmcdimiaaGreatDoor
open Go Go.Am
set_option maxRecDepth 4000
theorem Qpc(t:Ty)(hn:t.name.length<2^60)(four:Bool)(s:St):∃ s',Grew s s'/\Q0F (t.cells.map .val) (.val (.int .i64 t.args.length)) (.val (.str t.name)) (.val (.bool four)) s=some (.ret (.val (.bool (tellJ four t.name t.args.length))),s'):=by
 have c:=Ty.cells_eq t
 have k0:=Q4W t.args.length 0
 have k1:=Q4W t.args.length 1
 have k2:=Q4W t.args.length 2
 have k3:decide ((t.args.length:Int)≥2)=decide (2<=t.args.length):=by
  by_cases h:2<=t.args.length
  ·rw[decide_eq_true h,decide_eq_true (by omega)]
  ·rw[decide_eq_false h,decide_eq_false (by omega)]
 have k4:decide ((t.args.length:Int)<=8)=decide (t.args.length<=8):=by
  by_cases h:t.args.length<=8
  ·rw[decide_eq_true h,decide_eq_true (by omega)]
  ·rw[decide_eq_false h,decide_eq_false (by omega)]
 rw[show ((0:Nat):Int)=0 from rfl] at k0
 rw[show ((1:Nat):Int)=1 from rfl] at k1
 rw[show ((2:Nat):Int)=2 from rfl] at k2
 rw[Qd5]
 unfold tellJ
 simp only[c,Yh,Yo]
 cases four with
 |true=>simp only[go_sem,k0];exact⟨s,.refl s,rfl⟩
 |false=>
   cases h1:decide (t.name=[114,101,102]) with
   |true=>simp only[go_sem,h1,k1];exact⟨s,.refl s,rfl⟩
   |false=>
     cases h2:decide (t.name=[45,62]) with
     |true=>simp only[go_sem,h1,h2,k2];exact⟨s,.refl s,rfl⟩
     |false=>
       cases h3:decide (t.name=[42]) with
       |true=>simp only[go_sem,h1,h2,h3,k3,k4];exact⟨s,.refl s,rfl⟩
       |false=>
         obtain⟨nl,s',e1,g1⟩:=QdJ t.name hn s
         simp only[go_sem,Nat.reduceAdd,Nat.reduceLeDiff,h1,h2,h3,c,e1,badEnc]
         refine⟨s',g1,?_⟩
         cases hb:decide ((lxScan t.name).2.1=0) with
         |false=>
           have hT:tokB t.name=false:=by unfold tokB;rw[hb];rfl
           simp only[go_sem,hb,hT]
         |true=>
           have z0:decide (((0:Nat):Int)=1)=false:=rfl
           rcases hq:(lxScan t.name).1 with _|⟨tk,r⟩
           ·have hT:tokB t.name=false:=by unfold tokB;rw[hq];simp
            simp only[go_sem,hb,hq,Yo,Ye,z0,hT]
           ·cases r with
            |cons u r=>
              have hT:tokB t.name=false:=by unfold tokB;rw[hq];simp
              have z1:decide (((r.length+1+1:Nat):Int)=1)=false:=by simp;omega
              simp only[go_sem,hb,hq,Yh,Ya,Yi,z1,hT]
            |nil=>
              obtain⟨tk,tp,tx,tn⟩:=tk
              have hT:tokB t.name=(decide (tk=2)&&decide (tx=t.name)):=by unfold tokB;rw[hb,hq];rfl
              have z2:decide (((0+1:Nat):Int)=1)=true:=rfl
              have f0:ixS 4 (.val (.sl [LTok.enc ⟨tk,tp,tx,tn⟩])) (.val (.int .i64 0))=some (.val (.cp [.int .i64 tk,.int .i64 tp,.str tx,.int .i64 tn])):=by
               have:=Q0X (x:=.val (.sl [LTok.enc ⟨tk,tp,tx,tn⟩])) (k:=.i64) (n:=0) (sz:=4) (l:=[LTok.enc ⟨tk,tp,tx,tn⟩]) rfl rfl (LTok.cells_len _) (by decide)
               exact this
              rw[hT]
              simp only[go_sem,Nat.reduceAdd,hb,hq,Yh,Yo,Ya,Ye,z2,f0]
              cases hk:decide (tk=2) with
              |false=>simp only[go_sem,hk]
              |true=>
                cases ht:decide (tx=t.name) with
                |false=>simp only[go_sem,hk,ht]
                |true=>simp only[go_sem,hk,ht,k4]
theorem Qmk(t:Ty)(hn:t.name.length<2^60)(s:St):∃ s',Grew s s'/\cw (.f Q5j) [t.enc] s=some (.ret (.val (.bool (tellB t))),s'):=by
 have c:=Ty.cells_eq t
 have d0:=Q4W t.args.length 0
 rw[show ((0:Nat):Int)=0 from rfl] at d0
 have j0:=λfour=>Qpc t hn four s
 rw[c] at j0
 rw[QgY]
 simp only[go_sem,Nat.reduceAdd,Nat.reduceLeDiff,Ty.enc,c,Q4,Yi]
 cases hk:decide (t.kind=1) with
 |true=>
   have hB:tellB t=(decide (t.n≥0)&&(decide (t.n<=1000)&&(decide (t.name=[])&&decide (t.args.length=0)))):=by unfold tellB;rw[hk];rfl
   refine⟨s,.refl s,?_⟩
   rw[hB]
   cases h1:decide (t.n≥0) with
   |false=>simp only[go_sem,hk,h1]
   |true=>
     cases h2:decide (t.n<=1000) with
     |false=>simp only[go_sem,hk,h1,h2]
     |true=>
       cases h3:decide (t.name=[]) with
       |false=>simp only[go_sem,hk,h1,h2,h3]
       |true=>simp only[go_sem,hk,h1,h2,h3,d0]
 |false=>
   have hB:tellB t=bif !decide (t.kind=2) || !decide (t.n=0) then false else tellN t.name t.args.length:=by unfold tellB;rw[hk];rfl
   cases h2:decide (t.kind=2) with
   |false=>
     have hF:tellB t=false:=by rw[hB,h2];rfl
     exact⟨s,.refl s,by simp only[go_sem,hk,h2,hF]⟩
   |true=>
     cases h3:decide (t.n=0) with
     |false=>
       have hF:tellB t=false:=by rw[hB,h2,h3];rfl
       exact⟨s,.refl s,by simp only[go_sem,hk,h2,h3,hF]⟩
     |true=>
       rw[hB,h2,h3]
       unfold tellN
       cases n1:decide (t.name=[105,110,116]) with
       |true=>
         obtain⟨s',g,e⟩:=j0 true
         refine⟨s',g,?_⟩
         simp only[go_sem,hk,h2,h3,n1] at e |-
         rw[e];rfl
       |false=>
         cases n2:decide (t.name=[98,111,111,108]) with
         |true=>
           obtain⟨s',g,e⟩:=j0 true
           refine⟨s',g,?_⟩
           simp only[go_sem,hk,h2,h3,n1,n2] at e |-
           rw[e];rfl
         |false=>
           cases n3:decide (t.name=[117,110,105,116]) with
           |true=>
             obtain⟨s',g,e⟩:=j0 true
             refine⟨s',g,?_⟩
             simp only[go_sem,hk,h2,h3,n1,n2,n3] at e |-
             rw[e];rfl
           |false=>
             obtain⟨s',g,e⟩:=j0 (decide (t.name=[101,120,110]))
             refine⟨s',g,?_⟩
             simp only[go_sem,hk,h2,h3,n1,n2,n3] at e |-
             rw[e];rfl
def WeighOK(t:Ty):Prop:=∀ m s,0<=m->m<2^40->∃ s' r,cw (.f Q2K) [t.enc,.int .i64 m] s=some (.ret (.val (.int .i64 r)),s')/\Grew s s'/\(0<=r↔(t.size:Int)<=m/\allTy tellB t=true)/\(0<=r->r=m - t.size)
theorem Qet(t:Ty)(hl:t.args.length<2^40):∀ (suf pre:List Ty) (m:Int) (s:St) (i:Nat),pre++suf=t.args->i=pre.length->(∀ u ∈ suf,WeighOK u)->0<=m->m<2^40->
  ∃ s' r,Q2s (.val (.int .i64 m)) (t.cells.map .val) (.val (.int .i64 t.args.length)) (.val (.int .i64 i)) s=some (.ret (.val (.int .i64 r)),s')/\Grew s s'/\(0<=r↔(Ty.sizes suf:Int)<=m/\allTys tellB suf=true)/\(0<=r->r=m - Ty.sizes suf)
 |[],pre,m,s,i,h,hi,H,h0,h1=>by
   subst hi
   refine⟨s,m,?_,.refl s,by simp[Ty.sizes,allTys,h0],λ_=>by simp[Ty.sizes]⟩
   rw[Q7x];simp only[go_sem,Int.reduceNeg,Qg (by simpa using h)]
 |u::suf,pre,m,s,i,h,hi,H,h0,h1=>by
   subst hi
   have c:=Ty.cells_eq t
   obtain⟨f1,f2,f3⟩:=Qe (x:=.val (encS t.nl (t.args.map Ty.enc))) (Q4 _ _) h (by omega) (Ty.cells_len u) (by decide)
   obtain⟨s1,r,e1,g1,d1,q1⟩:=H u Yd m s h0 h1
   have hsz:Ty.sizes (u::suf)=u.size+Ty.sizes suf:=rfl
   have hall:allTys tellB (u::suf)=(allTy tellB u&&allTys tellB suf):=rfl
   rw[Q7x]
   cases hr:decide (r<0) with
   |true=>
     have hr':=of_decide_eq_true hr
     refine⟨s1,-1,by simp only[go_sem,Int.reduceNeg,Nat.reduceAdd,Nat.reduceLeDiff,c,f1,f2,f3,e1,hr],g1,?_,λh=>by omega⟩
     constructor
     ·intro h;omega
     ·rintro⟨a1,a2⟩
      rw[hall,Yf] at a2
      have:=d1.2 ⟨by omega,a2.1⟩
      omega
   |false=>
     have hr':=of_decide_eq_false hr
     have hq:=q1 (by omega)
     have hd:=d1.1 (by omega)
     obtain⟨s2,r2,e2,g2,d2,q2⟩:=Qet t hl suf (pre++[u]) r s1 (pre.length+1) (by simpa using h) (by simp) (λw hw=>H w (Yc _ hw)) (by omega) (by omega)
     simp only[go_sem,Int.reduceNeg,Nat.reduceAdd,Nat.reduceLeDiff,c,f1,f2,f3,e1,hr] at e2 |-
     refine⟨s2,r2,e2,g1.trans g2,?_,λh=>by rw[q2 h,hsz];omega⟩
     rw[d2,hsz,hall,hd.2,Bool.true_and]
     constructor<;>rintro⟨a1,a2⟩<;>exact⟨by omega,a2⟩
theorem Qeu:∀ (k:Nat) (t:Ty),t.size<=k->t.size<2^40->NamesTy t->WeighOK t
 |0,t,h,_,_=>by cases t;simp only[Ty.size] at h;omega
 |k+1,t,h,h',hn=>λm s h0 h1=>by
   have hsz:Ty.sizes t.args+1=t.size:=by cases t;simp only[Ty.size,Ty.args]
   have hl:=Ty.len_sizes t.args
   have hnm:t.name.length<2^40:=by cases t;exact hn.name
   have HV:∀ u ∈ t.args,WeighOK u:=λu hu=>by
    cases t with
    |mk kd n nm l nl=>
      have h2:=Ty.mem_sizes hu
      simp only[Ty.args] at hsz hu h2
      exact Qeu k u (by omega) (by omega) (hn.arg hu)
   have hall:allTy tellB t=(tellB t&&allTys tellB t.args):=by cases t;rfl
   have c:=Ty.cells_eq t
   have w1:IntKind.i64.wrap (m - 1)=m - 1:=wrap64 (by omega) (by omega)
   obtain⟨s1,g1,e1⟩:=Qmk t (by omega) s
   rw[Qfn]
   simp only[Ty.enc,c] at e1
   cases hA:decide (m - 1<0) with
   |true=>
     have hA':=of_decide_eq_true hA
     refine⟨s,-1,by simp only[go_sem,Int.reduceNeg,Nat.reduceAdd,Nat.reduceLeDiff,Ty.enc,c,w1,hA],.refl s,?_,λh=>by omega⟩
     constructor
     ·intro h;omega
     ·rintro⟨a1,_⟩;omega
   |false=>
     have hA':=of_decide_eq_false hA
     cases hB:tellB t with
     |false=>
       rw[hB] at e1
       refine⟨s1,-1,by simp only[go_sem,Int.reduceNeg,Nat.reduceAdd,Nat.reduceLeDiff,Ty.enc,c,w1,hA,e1,Bool.not_false],g1,?_,λh=>by omega⟩
       rw[hall,hB]
       constructor
       ·intro h;omega
       ·rintro⟨_,a2⟩;cases a2
     |true=>
       rw[hB] at e1
       obtain⟨s2,r,e2,g2,d2,q2⟩:=Qet t (by omega) t.args [] (m - 1) s1 0 rfl rfl HV (by omega) (by omega)
       rw[show ((0:Nat):Int)=0 from rfl] at e2
       refine⟨s2,r,?_,g1.trans g2,?_,λh=>by rw[q2 h];omega⟩
       ·simp only[go_sem,c,Q4,Yi] at e2
        simp only[go_sem,Int.reduceNeg,Nat.reduceAdd,Nat.reduceLeDiff,Ty.enc,c,w1,hA,e1,Bool.not_true,Q4,Yi]
        exact e2
       ·rw[d2,hall,hB,Bool.true_and]
        constructor<;>rintro⟨a1,a2⟩<;>exact⟨by omega,a2⟩
theorem Qez(t:Ty)(s:St)(h:t.size<2^40)(hn:NamesTy t):Ret (cw (.f Q3W) [t.enc] s) s (.bool (toldB t)):=by
 obtain⟨s1,r,e1,g1,d1,-⟩:=Qeu t.size t (Yg _) h hn 256 s (by decide) (by decide)
 have hb:decide (r≥0)=toldB t:=by
  unfold toldB
  rw[Bool.eq_iff_iff,decide_eq_true_eq]
  simp only[Yf,decide_eq_true_eq]
  rw[show r≥0↔0<=r from Iff.rfl,d1]
  constructor<;>rintro⟨a1,a2⟩<;>exact⟨by omega,a2⟩
 have c:=Ty.cells_eq t
 rw[Qbc]
 simp only[Ty.enc,c] at e1
 simp only[go_sem,Nat.reduceAdd,Nat.reduceLeDiff,Ty.enc,c,e1,hb]
 exact⟨s1,rfl,g1⟩
open Go Go.Am
set_option maxRecDepth 4000
theorem Qo5(t:Ty):typeT t=bif toldB t then txt10 bigV t else []:=by
 unfold typeT
 cases hb:toldB t with
 |false=>rfl
 |true=>
   unfold toldB at hb
   simp only[Yf] at hb
   rw[cond_true,cond_true,(QnX hb.2).2]
theorem Qe0(t:Ty)(s:St)(h:t.size<2^40)(hn:NamesTy t):Ret (cw (.f Q83) [t.enc] s) s (.str (typeT t)):=by
 obtain⟨s1,e1,g1⟩:=Qez t s h hn
 have c:=Ty.cells_eq t
 rw[QgV,Qo5]
 simp only[Ty.enc,c] at e1 |-
 cases hb:toldB t with
 |false=>
   rw[hb] at e1
   simp only[go_sem,Nat.reduceAdd,Nat.reduceLeDiff,e1,Bool.not_false,cond_false]
   exact⟨s1,rfl,g1⟩
 |true=>
   rw[hb] at e1
   have hb2:=hb
   unfold toldB at hb2
   simp only[Yf,decide_eq_true_eq] at hb2
   have e2:=(Qby t.size t (Yg _) (by omega) (Qfy t hb2.2)).ok s1
   simp only[Ty.enc,c] at e2
   simp only[go_sem,Nat.reduceAdd,Nat.reduceLeDiff,e1,e2,Bool.not_true,cond_true]
   exact⟨s1,rfl,g1⟩
open Go Go.Am
set_option maxRecDepth 4000
theorem Qja(e:Exp)(hs:e.size<2^40)(left:Int)(s:St):∃ r:Bool,cw (.f Q6e) [e.enc,.int .i64 left] s=some (.ret (.val (.bool r)),s):=by
 obtain⟨r,e1⟩:=(Qke e.size).1 e (Yg _) hs left 0 s
 have c:=Exp.cells_eq e
 rw[QdY]
 simp only[Exp.enc,c] at e1
 simp only[go_sem,Nat.reduceAdd,Nat.reduceLeDiff,Exp.enc,c,e1]
 exact⟨_,rfl⟩
theorem Qjb(e:Pat)(hs:e.size<2^40)(left:Int)(s:St):∃ r:Bool,cw (.f Q6f) [e.enc,.int .i64 left] s=some (.ret (.val (.bool r)),s):=by
 obtain⟨r,e1⟩:=QcA e.size e (Yg _) hs left 0 s
 have c:=Pat.cells_eq e
 rw[QdZ]
 simp only[Pat.enc,c] at e1
 simp only[go_sem,Nat.reduceAdd,Nat.reduceLeDiff,Pat.enc,c,e1]
 exact⟨_,rfl⟩
theorem Qjc(e:Ty)(hs:e.size<2^40)(left:Int)(s:St):∃ r:Bool,cw (.f Q7d) [e.enc,.int .i64 left] s=some (.ret (.val (.bool r)),s):=by
 obtain⟨r,e1⟩:=QcB e.size e (Yg _) hs left 0 s
 have c:=Ty.cells_eq e
 rw[Qfj]
 simp only[Ty.enc,c] at e1
 simp only[go_sem,Nat.reduceAdd,Nat.reduceLeDiff,Ty.enc,c,e1]
 exact⟨_,rfl⟩
theorem Q9Q(e:Exp)(p:Pat)(t:Ty)(s:St)(he:e.size<2^21)(hp:p.size<2^21)(ht:t.size<2^21)(He:∀ n ∈ nodesExp e,n.ok)(Hp:∀ n ∈ nodesPat p,n.ok)(Ht:NamesTy t):Ret (cw (.f Q3V) [e.enc,p.enc,t.enc] s) s (.bool true):=by
 obtain⟨b1,f1⟩:=Qja e (by omega) 500 s
 obtain⟨b2,f2⟩:=Qjb p (by omega) 300 s
 obtain⟨b3,f3⟩:=Qjc t (by omega) 500 s
 obtain⟨s0,e0,g0⟩:=Q88 s
 have ce:=Exp.cells_eq e
 have cp:=Pat.cells_eq p
 have ct:=Ty.cells_eq t
 simp only[Exp.enc,ce] at f1
 simp only[Pat.enc,cp] at f2
 simp only[Ty.enc,ct] at f3
 rw[QaX]
 cases b1 with
 |false=>
   simp only[go_sem,Nat.reduceAdd,Nat.reduceLeDiff,Exp.enc,Pat.enc,Ty.enc,ce,cp,ct,f1,e0,Bool.not_false]
   exact⟨s0,rfl,g0⟩
 |true=>
   cases b2 with
   |false=>
     simp only[go_sem,Nat.reduceAdd,Nat.reduceLeDiff,Exp.enc,Pat.enc,Ty.enc,ce,cp,ct,f1,f2,e0,Bool.not_false,Bool.not_true]
     exact⟨s0,rfl,g0⟩
   |true=>
     cases b3 with
     |false=>
       simp only[go_sem,Nat.reduceAdd,Nat.reduceLeDiff,Exp.enc,Pat.enc,Ty.enc,ce,cp,ct,f1,f2,f3,e0,Bool.not_false,Bool.not_true]
       exact⟨s0,rfl,g0⟩
     |true=>
       obtain⟨s1,e1,g1⟩:=Q3R e s he He
       obtain⟨s2,e2,g2⟩:=QdX e s1 he He
       obtain⟨s3,e3,g3⟩:=Q7y p s2 hp Hp
       obtain⟨s4,e4,g4⟩:=Qbb p s3 hp Hp
       obtain⟨s5,e5,g5⟩:=Qfp t s4 (by omega) Ht
       obtain⟨s6,e6,g6⟩:=Qe0 t s5 (by omega) Ht
       obtain⟨s7,e7,g7⟩:=Q88 s6
       have q1:decide (exprS e=exprS e)=true:=decide_eq_true rfl
       have q2:decide (patnS p=patnS p)=true:=decide_eq_true rfl
       have q3:decide (typeT t=typeT t)=true:=decide_eq_true rfl
       simp only[Exp.enc,ce] at e1 e2
       simp only[Pat.enc,cp] at e3 e4
       simp only[Ty.enc,ct] at e5 e6
       simp only[go_sem,Nat.reduceAdd,Nat.reduceLeDiff,Exp.enc,Pat.enc,Ty.enc,ce,cp,ct,f1,f2,f3,e1,e2,e3,e4,e5,e6,e7,q1,q2,q3,Bool.not_true]
       exact⟨s7,rfl,(((((g1.trans g2).trans g3).trans g4).trans g5).trans g6).trans g7⟩
theorem Qau{k0 k1 k2:Nat}(e:Exp)(ge:e.size<=k0/\∀ nd ∈ nodesExp e,nd.ok)(p:Pat)(gp:p.size<=k1/\∀ nd ∈ nodesPat p,nd.ok)(t:Ty)(gt:t.size<=k2/\∀ a,∀ nd ∈ nodesTy a t,nd.ok)(hb:k0+(k1+(k2+0))<=1048576):Ret (cw (.f Q3V) [e.enc,p.enc,t.enc] st0) st0 (.bool true):=
 Q9Q e p t st0 (by have:=ge.1;omega) (by have:=gp.1;omega) (by have:=gt.1;omega) ge.2 gp.2 (gt.2 0)
end Go.Proofs.YtgfhplcmcdimiaaGreatDoor