/- A part of the proof: SLex4, SShow5, SShow6, SSch2, PTy2, PSch2, PSch3, PLex2, PLex3, SRef01, PShow3, PShow4, PWithin, PRight, PRN, PExp. -/
import Derived.Test.YtgfhplcmcdimiaaGreatDoorM3
import Derived.Test.YtgfhplcmcdimiaaGreatDoorM8
import Derived.Test.YtgfhplcmcdimiaaGreatDoorM9
import Derived.Test.YtgfhplcmcdimiaaGreatDoorM10
import Derived.Test.YtgfhplcmcdimiaaGreatDoorM11
import Derived.Lib.ItoaMem
import Derived.Lib.IndexMore
set_option linter.unusedVariables false
set_option linter.unusedSimpArgs false
open Bool renaming and_eq_true→Yf,false_or→Yt,true_or→Yx
open List renaming length_cons→Ya,length_append→Yb,mem_cons_of_mem→Yc,mem_cons_self→Yd,length_nil→Ye,map_cons→Yh,length_map→Yi,append_assoc→Yj,cons_append→Yk,length_singleton→Yl,map_nil→Yo,mem_append_right→Yp,mem_append_left→Yq,append_nil→Yr,mem_of_getElem?→Ys,mem_cons→Yw,mem_append→Yy
open Nat renaming le_refl→Yg
namespace Go.Proofs.YtgfhplcmcdimiaaGreatDoor
open Go Go.Am
set_option maxRecDepth 4000
theorem LTok.cells_mk(k p:Int)(t:Str)(n:Int):(LTok.mk k p t n).cells=[.int .i64 k,.int .i64 p,.str t,.int .i64 n]:=rfl
theorem tokAcc{s0 s:St}{x:Slot}{A:List LTok}{b:LTok}(a:AccR Q9 s0 s x (A.map LTok.enc))(b1:A.length<2^29) :
  ∃ x' s',appendS Q9 (C.ti Q9) s x (.full [b.enc])=some (x',s')/\AccR Q9 s0 s' x' ((A++[b]).map LTok.enc):=
 AccR.appendF (B:=[b]) a rfl (λa=>by rw[Qdp];exact LTok.cells_len a) (by rw[Qdp];decide) (by simp;omega) (by rw[Qjg];decide)
theorem Qa5(acc:List LTok)(x:Slot)(s0 s:St)(a:AccR Q9 s0 s x (acc.map LTok.enc))(k p:Int) :
  ∃ nl s',Q1R [.val (.int .i64 0),.val (.int .i64 0),.val (.str [])] x [.val (.int .i64 k),.val (.int .i64 p),.val (.str [])] s=some (.ret (.val (.tup [encS nl ((bif decide (k=0) then acc else []).map LTok.enc),badEnc k p])),s')/\Grew s0 s':=by
 rw[QeT]
 obtain⟨nl,hx⟩:=a.av
 simp only[go_sem,Int.reduceLT,Int.reduceNeg,Nat.reduceAdd,Nat.reduceLeDiff]
 cases decide (k=0)
 ·simp only[go_sem,Int.reduceNeg]
  exact⟨true,s,rfl,a.grew⟩
 ·simp only[go_sem,QfD hx]
  exact⟨nl,s,rfl,a.grew⟩
theorem Qdz{acc:List LTok}{x:Slot}(h:x.list? = some (acc.map LTok.enc))(h0:0<acc.length):ixS 4 x (.val (.int .i64 ((acc.length:Int) - 1)))=some (.val (.cp (acc.getLastD .zero).cells)):=by
 have hne:acc≠[]:=List.length_pos_iff.1 h0
 have e:(acc.length:Int) - 1=((acc.length - 1:Nat):Int):=by omega
 rw[e]
 have hg:acc[acc.length - 1]? = some (acc.getLastD .zero):=by
  rw[<-List.getLast?_eq_getElem?,List.getLast?_eq_some_getLast hne,List.getLastD_eq_getLast?,List.getLast?_eq_some_getLast hne]
  rfl
 exact Q0X (v:=LTok.enc (acc.getLastD .zero)) h (by rw[List.getElem?_map,hg];rfl) (LTok.cells_len _) (by decide)
theorem Qms(L:Str)(hl:L.length<=65536)(s0:St):∀ (fuel:Nat) (suf pre:Str) (acc:List LTok) (x:Slot) (s:St) (i:Nat),suf.length<fuel->pre++suf=L->i=pre.length->AccR Q9 s0 s x (acc.map LTok.enc)->acc.length<=pre.length->
  ∃ nl s',Q1S (.val (.str L)) [.val (.int .i64 0),.val (.int .i64 0),.val (.str [])] x [.val (.int .i64 0),.val (.int .i64 0),.val (.str [])] (.val (.int .i64 (i:Int))) s =
    some (.ret (.val (.tup [encS nl ((scanF fuel i suf acc).1.map LTok.enc),badEnc (scanF fuel i suf acc).2.1 (scanF fuel i suf acc).2.2])),s')/\Grew s0 s':=by
 intro fuel
 induction fuel with
 |zero=>intro suf pre acc x s i h;omega
 |succ n ih=>
   intro suf pre acc x s i hf h hi a hacc
   subst hi
   have hL:pre.length+suf.length=L.length:=by rw[<-h];simp
   rw[QeU]
   match suf,hf,h,hL with
   |[],_,h,hL=>
     have hb:decide ((pre.length:Int)<(L.length:Int))=false:=by simp;simp at hL;omega
     simp only[go_sem,Nat.reduceAdd,Nat.reduceLeDiff,hb]
     exact Qa5 acc x s0 s a 0 0
   |c::r,hf,h,hL=>
     simp only[Ya] at hL hf
     have hc:L[pre.length]? = some c:=by rw[<-h];simp
     have hb:decide ((pre.length:Int)<(L.length:Int))=true:=by simp;omega
     have hfrom:=QjU (t:=C.ti Q0) Qk (l:=L) (i:=pre.length) (by omega)
     have hdrop:L.drop pre.length=c::r:=by rw[<-h];simp
     rw[hdrop] at hfrom
     have hpre:=QeL (c::r) [40,42] s
     have hop:(decide (([40,42]:Str).length<=(c::r).length)&&decide ((c::r).take ([40,42]:Str).length=[40,42]))=lxOpens (c::r):=by
      cases r with
      |nil=>rfl
      |cons b r=>simp[lxOpens,Bool.decide_and]
     rw[hop] at hpre
     have hrem:=QdB pre (c::r) (by rw[h];omega) s
     rw[h] at hrem
     simp only[go_sem,Int.reduceNeg,Nat.reduceAdd,Nat.reduceLeDiff,hb,Zb Qk hc,QeO,Qn0,hfrom,hpre,hrem,a.list?]
     unfold scanF
     cases hbl:blankC c
     ·simp only[go_sem,Int.reduceNeg]
      cases hop2:lxOpens (c::r)
      ·simp only[go_sem,Int.reduceNeg]
       cases hge:decide (acc.length≥16384)
       ·have hge':decide ((acc.length:Int)≥16384)=false:=by simp at hge |-;omega
        have hone:=Qia (c::r) (tildeL acc) (by simp) (by simp;omega) s
        have hp:=QcJ (c::r) (tildeL acc) (by simp)
        simp only[go_sem,hge']
        rcases Nat.eq_zero_or_pos acc.length with h0|h0
        case' inl=>
         have hz:decide ((acc.length:Int)>0)=false:=by simp[h0]
         have ht:tildeL acc=false:=by unfold tildeL;rw[decide_eq_false (by omega)];rfl
         rw[ht] at hone hp |-
         simp only[go_sem,Nat.reduceAdd,Nat.reduceLeDiff,hz,hone]
         generalize oneA (c::r) false=z at hp
        case' inr=>
         have hz:decide ((acc.length:Int)>0)=true:=by simp;omega
         have ht:tildeL acc=decide ((acc.getLastD .zero).text=[126]):=by unfold tildeL;rw[decide_eq_true h0];rfl
         rw[ht] at hone hp |-
         simp only[go_sem,hz]
         rw[wrap64 (by omega) (by omega),Qdz a.list? h0]
         simp only[go_sem,Nat.reduceAdd,Nat.reduceLeDiff,hone,LTok.cells]
         generalize oneA (c::r) (decide ((acc.getLastD .zero).text=[126]))=z at hp
        all_goals
         obtain⟨e,k,p,t,m⟩:=z
         simp only[go_sem,LTok.cells_mk]
         cases he:decide (e=0)
         ·simp only[go_sem,Nat.reduceAdd,Nat.reduceLeDiff,LTok.enc,LTok.cells_mk]
          have:=Qa5 acc x s0 s a e pre.length
          rw[he] at this
          exact this
         ·obtain⟨hp1,hp2,hp3⟩:=hp (of_decide_eq_true he)
          simp only at hp1 hp2 hp3
          obtain⟨x',s',ha,a'⟩:=tokAcc (b:=⟨k,pre.length,t,m⟩) a (by omega)
          have ht1:=hp1.length_le
          have ht0:0<t.length:=List.length_pos_iff.2 hp2
          simp only[Ya] at ht1
          simp only[LTok.enc,LTok.cells_mk] at ha
          simp only[go_sem,Nat.reduceAdd,Nat.reduceLeDiff,LTok.enc,LTok.cells_mk,ha]
          rw[wrap64 (by omega) (by omega)]
          exact ih ((c::r).drop t.length) (pre++(c::r).take t.length) _ x' s' (pre.length+t.length) (by simp;omega) (by rw[Yj,List.take_append_drop,h]) (by simp;omega) a' (by simp;omega)
       ·have hge':decide ((acc.length:Int)≥16384)=true:=by simp at hge |-;omega
        simp only[go_sem,hge']
        exact Qa5 acc x s0 s a 4 pre.length
      ·simp only[go_sem,Int.reduceNeg]
       cases hcom:lxCom 0 (c::r) with
       |none=>
         simp only[go_sem,Int.reduceLT,Int.reduceNeg,Nat.reduceAdd,Nat.reduceLeDiff]
         exact Qa5 acc x s0 s a 12 pre.length
       |some k=>
         have hk:=Q5z _ _ _ hcom
         simp only[Ya] at hk
         have hneg:decide (((pre.length+k:Nat):Int)<0)=false:=by simp;omega
         simp only[go_sem,hneg]
         exact ih ((c::r).drop k) (pre++(c::r).take k) acc x s (pre.length+k) (by simp;omega) (by rw[Yj,List.take_append_drop,h]) (by simp;omega) a (by simp;omega)
     ·simp only[go_sem,Int.reduceNeg]
      rw[wrap64 (by omega) (by omega)]
      exact ih r (pre++[c]) acc x s (pre.length+1) (by omega) (by simp[h]) (by simp) a (by simp;omega)
theorem Qgz(L:Str)(hl:L.length<2^60)(s:St):∃ nl s',cw (.f Q58) [.str L] s=some (.ret (.val (.tup [encS nl ((lxScan L).1.map LTok.enc),badEnc (lxScan L).2.1 (lxScan L).2.2])),s')/\Grew s s':=by
 rw[Qjz]
 unfold lxScan
 simp only[go_sem,Int.reduceLT,Int.reduceNeg,Nat.reduceAdd,Nat.reduceLeDiff]
 cases hb:decide ((L.length:Int)>65536)
 ·simp only[go_sem,Int.reduceNeg]
  exact Qms L (by simp at hb;omega) s (L.length+1) L [] [] (.val .nils) s 0 (by omega) rfl rfl (AccR.nil _ _) (by simp)
 ·simp only[go_sem,Int.reduceNeg]
  exact⟨true,s,rfl,.refl s⟩
open Go Go.Am
set_option maxRecDepth 4000
section
variable (L:Nat)
def AtL(m:Int)(s:St):Prop:=s.locs[L]? = some (.var [.val (.int .i64 m)])
def ToldOK(t:Ty):Prop:=∀ m s,AtL L m s->0<=m->m<2^40->∃ s' m' b,cw (.f Q1N) [t.enc,.vp L 0] s=some (.ret (.val (.bool b)),s')/\(b=true↔(t.size:Int)<=m/\allTy tellB t=true)/\AtL L m' s'/\Moves [L] [] [] s s'/\(b=true->m'=m - t.size)/\-1<=m'/\m'<=m
theorem Qgr(l:List Ty)(x:Slot)(hx:x.list? = some (l.map Ty.enc))(hl:l.length<2^40):∀ (suf pre:List Ty) (m:Int) (s:St) (i:Nat),pre++suf=l->i=pre.length->(∀ t ∈ suf,ToldOK L t)->AtL L m s->0<=m->m<2^40->
  ∃ s' m' r,Z0 x (.val (.fn Zs [.cp [.vp L 0]])) (.val (.int .i64 l.length)) (.val (.int .i64 i)) s=some (.ret (.val (.int .i64 r)),s')/\(r<0↔(Ty.sizes suf:Int)<=m/\allTys tellB suf=true)/\AtL L m' s'/\Moves [L] [] [] s s'/\(r<0->m'=m - Ty.sizes suf)/\-1<=m'/\m'<=m
 |[],pre,m,s,i,h,hi,H,hL,h0,h1=>by
   subst hi
   refine⟨s,m,-1,?_,?_,hL,.refl _ _ _,by simp[Ty.sizes],by omega,Int.le_refl _⟩
   ·rw[Zm];simp only[go_sem,Int.reduceNeg,Qg (by simpa using h)]
   ·simp[Ty.sizes,allTys,h0]
 |t::suf,pre,m,s,i,h,hi,H,hL,h0,h1=>by
   subst hi
   obtain⟨f1,f2,f3⟩:=Qe hx h (by omega) (Ty.cells_len t) (by decide)
   obtain⟨s1,m1,b,e1,d1,l1,v1,q1,b1,b1'⟩:=H t Yd m s hL h0 h1
   have e2:cw (.f Zs) [t.enc,.cp [.vp L 0]] s=some (.ret (.val (.bool (!b))),s1):=by
    rw[Q9t]
    simp only[go_sem,Nat.reduceAdd,Nat.reduceLeDiff,e1]
   rw[Zm]
   simp only[go_sem,Int.reduceNeg,Nat.reduceLeDiff,f1,f2,f3,e2]
   have hsz:Ty.sizes (t::suf)=t.size+Ty.sizes suf:=rfl
   have hall:allTys tellB (t::suf)=(allTy tellB t&&allTys tellB suf):=rfl
   cases b with
   |true=>
     have hm1:=q1 rfl
     have hd:=d1.1 rfl
     obtain⟨s2,m2,r,e3,d3,l3,v3,q3,b3,b3'⟩:=Qgr l x hx hl suf (pre++[t]) m1 s1 (pre.length+1) (by simpa using h) (by simp) (λw hw=>H w (Yc _ hw)) l1 (by omega) (by omega)
     refine⟨s2,m2,r,by simp only[go_sem,e3],?_,l3,v1.trans v3,λhr=>by rw[q3 hr,hm1,hsz];omega,b3,by omega⟩
     rw[d3,hsz,hall,hd.2,Bool.true_and,hm1]
     constructor<;>rintro⟨g1,g2⟩<;>exact⟨by omega,g2⟩
   |false=>
     refine⟨s1,m1,pre.length,by simp only[go_sem],?_,l1,v1,λhr=>by omega,b1,b1'⟩
     constructor
     ·intro hr;omega
     ·rintro⟨h2,h3⟩
      rw[hall,Yf] at h3
      exact absurd (d1.2 ⟨by omega,h3.1⟩) (by simp)
theorem Qpo(t:Ty)(HV:∀ u ∈ t.args,ToldOK L u)(hl:t.args.length<2^40)(ok:Bool)(m:Int)(s:St)(hL:AtL L m s)(h0:0<=m)(h1:m<2^40) :
  ∃ s' m' b,Zq (t.cells.map .val) (.val (.cp [.vp L 0])) (.val (.bool ok)) s=some (.ret (.val (.bool b)),s')/\(b=true↔ok=true/\(Ty.sizes t.args:Int)<=m/\allTys tellB t.args=true)/\AtL L m' s'/\Moves [L] [] [] s s'/\(b=true->m'=m - Ty.sizes t.args)/\-1<=m'/\m'<=m:=by
 have c:=Ty.cells_eq t
 rw[Q8O]
 cases ok with
 |false=>
   simp only[go_sem,Int.reduceNeg,Nat.reduceAdd,Nat.reduceLeDiff,c]
   exact⟨s,m,false,rfl,by simp,hL,.refl _ _ _,by simp,by omega,by omega⟩
 |true=>
   obtain⟨s2,m2,r,e3,d3,l3,v3,q3,b3,b3'⟩:=Qgr L t.args (.val (encS t.nl (t.args.map Ty.enc))) (Q4 _ _) hl t.args [] m s 0 rfl rfl HV hL h0 h1
   have e4:cw (.f Zv) [encS t.nl (t.args.map Ty.enc),.fn Zs [.cp [.vp L 0]]] s=some (.ret (.val (.bool (decide (r≥0)))),s2):=by
    rw[Q1W]
    have:cw (.f Zh) [encS t.nl (t.args.map Ty.enc),.fn Zs [.cp [.vp L 0]]] s=some (.ret (.val (.int .i64 r)),s2):=by
     rw[Q2W];simp only[go_sem]
     exact e3
    simp only[go_sem,this]
   refine⟨s2,m2,!decide (r≥0),by simp only[go_sem,Nat.reduceAdd,Nat.reduceLeDiff,c,e4],?_,l3,v3,λhr=>?_,b3,b3'⟩
   ·simp only[Bool.not_eq_true',decide_eq_false_iff_not,true_and]
    rw[<-d3];omega
   ·simp only[Bool.not_eq_true',decide_eq_false_iff_not] at hr
    exact q3 (by omega)
def tellJ(four:Bool)(nm:Str)(len:Nat):Bool:=
 bif four then decide (len=0)
 else bif decide (nm=[114,101,102]) then decide (len=1)
 else bif decide (nm=[45,62]) then decide (len=2)
 else bif decide (nm=[42]) then decide (2<=len)&&decide (len<=8)
 else tokB nm&&decide (len<=8)
theorem Q4W(n m:Nat):decide ((n:Int)=(m:Int))=decide (n=m):=by
 by_cases h:n=m
 ·subst h;simp
 ·rw[decide_eq_false h,decide_eq_false (by omega)]
theorem Qpn(t:Ty)(hn:t.name.length<2^60)(four:Bool)(s:St):∃ s',Grew s s'/\Q0n (t.cells.map .val) (.val (.cp [.vp L 0])) (.val (.int .i64 t.args.length)) (.val (.str t.name)) (.val (.bool four)) s=Zq (t.cells.map .val) (.val (.cp [.vp L 0])) (.val (.bool (tellJ four t.name t.args.length))) s':=by
 have c:=Ty.cells_eq t
 have k0:=Q4W t.args.length 0
 have k1:=Q4W t.args.length 1
 have k2:=Q4W t.args.length 2
 have k3:decide ((t.args.length:Int)≥2)=decide (2<=t.args.length):=by
  by_cases h:2<=t.args.length
  ·rw[decide_eq_true h,decide_eq_true (by omega)]
  ·rw[decide_eq_false h,decide_eq_false (by omega)]
 have k4:decide ((t.args.length:Int)<=8)=decide (t.args.length<=8):=by
  by_cases h:t.args.length<=8
  ·rw[decide_eq_true h,decide_eq_true (by omega)]
  ·rw[decide_eq_false h,decide_eq_false (by omega)]
 rw[show ((0:Nat):Int)=0 from rfl] at k0
 rw[show ((1:Nat):Int)=1 from rfl] at k1
 rw[show ((2:Nat):Int)=2 from rfl] at k2
 rw[Q5O]
 unfold tellJ
 cases four with
 |true=>simp only[go_sem,k0];exact⟨s,.refl s,rfl⟩
 |false=>
   cases h1:decide (t.name=[114,101,102]) with
   |true=>simp only[go_sem,h1,k1];exact⟨s,.refl s,rfl⟩
   |false=>
     cases h2:decide (t.name=[45,62]) with
     |true=>simp only[go_sem,h1,h2,k2];exact⟨s,.refl s,rfl⟩
     |false=>
       cases h3:decide (t.name=[42]) with
       |true=>simp only[go_sem,h1,h2,h3,k3,k4];exact⟨s,.refl s,rfl⟩
       |false=>
         obtain⟨nl,s',e1,g1⟩:=Qgz t.name hn s
         simp only[go_sem,Nat.reduceAdd,Nat.reduceLeDiff,h1,h2,h3,c,e1,badEnc]
         refine⟨s',g1,?_⟩
         cases hb:decide ((lxScan t.name).2.1=0) with
         |false=>
           have hT:tokB t.name=false:=by unfold tokB;rw[hb];rfl
           simp only[go_sem,hb,hT]
         |true=>
           have z0:decide (((0:Nat):Int)=1)=false:=rfl
           rcases hq:(lxScan t.name).1 with _|⟨tk,r⟩
           ·have hT:tokB t.name=false:=by unfold tokB;rw[hq];simp
            simp only[go_sem,hb,hq,Yo,Ye,z0,hT]
           ·cases r with
            |cons u r=>
              have hT:tokB t.name=false:=by unfold tokB;rw[hq];simp
              have z1:decide (((r.length+1+1:Nat):Int)=1)=false:=by simp;omega
              simp only[go_sem,hb,hq,Yh,Ya,Yi,z1,hT]
            |nil=>
              obtain⟨tk,tp,tx,tn⟩:=tk
              have hT:tokB t.name=(decide (tk=2)&&decide (tx=t.name)):=by unfold tokB;rw[hb,hq];rfl
              have z2:decide (((0+1:Nat):Int)=1)=true:=rfl
              have f0:ixS 4 (.val (.sl [LTok.enc ⟨tk,tp,tx,tn⟩])) (.val (.int .i64 0))=some (.val (.cp [.int .i64 tk,.int .i64 tp,.str tx,.int .i64 tn])):=by
               have:=Q0X (x:=.val (.sl [LTok.enc ⟨tk,tp,tx,tn⟩])) (k:=.i64) (n:=0) (sz:=4) (l:=[LTok.enc ⟨tk,tp,tx,tn⟩]) rfl rfl (LTok.cells_len _) (by decide)
               exact this
              rw[hT]
              simp only[go_sem,Nat.reduceAdd,hb,hq,Yh,Yo,Ya,Ye,z2,f0]
              cases hk:decide (tk=2) with
              |false=>simp only[go_sem,hk]
              |true=>
                cases ht:decide (tx=t.name) with
                |false=>simp only[go_sem,hk,ht]
                |true=>simp only[go_sem,hk,ht,k4]
theorem Qgs:∀ (k:Nat) (t:Ty),t.size<=k->t.size<2^40->NamesTy t->ToldOK L t
 |0,t,h,_,_=>by cases t;simp only[Ty.size] at h;omega
 |k+1,t,h,h',hn=>λm s hL h0 h1=>by
   have hsz:Ty.sizes t.args+1=t.size:=by cases t;simp only[Ty.size,Ty.args]
   have hl:=Ty.len_sizes t.args
   have hnm:t.name.length<2^40:=by cases t;exact hn.name
   have HV:∀ u ∈ t.args,ToldOK L u:=λu hu=>by
    cases t with
    |mk kd n nm l nl=>
      have h2:=Ty.mem_sizes hu
      simp only[Ty.args] at hsz hu h2
      exact Qgs k u (by omega) (by omega) (hn.arg hu)
   have hall:allTy tellB t=(tellB t&&allTys tellB t.args):=by cases t;rfl
   have hL':AtL L (m - 1) { s with locs:=s.locs.set L (.var [.val (.int .i64 (m - 1))]) }:=Qea hL
   have hM':Moves [L] [] [] s { s with locs:=s.locs.set L (.var [.val (.int .i64 (m - 1))]) }:=(Moves.refl _ _ _).setLoc (.inl (by simp)) _
   have w1:IntKind.i64.wrap (m - 1)=m - 1:=wrap64 (by omega) (by omega)
   have hst:=Q8s (c:=[.val (.int .i64 (m - 1))]) hL (off:=0) (by simp)
   simp only[go_sem,Nat.reduceAdd] at hst
   have c:=Ty.cells_eq t
   have j0:=λfour=>Qpn L t (by omega) four { s with locs:=s.locs.set L (.var [.val (.int .i64 (m - 1))]) }
   have d0:=Q4W t.args.length 0
   rw[show ((0:Nat):Int)=0 from rfl] at d0
   rw[Q5N]
   rw[c] at j0
   simp only[go_sem,Int.reduceNeg,Nat.reduceAdd,Nat.reduceLeDiff,c,Q4b hL,w1,hst,Q4b hL']
   by_cases hm:m - 1<0
   ·rw[decide_eq_true hm]
    refine⟨_,m - 1,false,by simp only[go_sem],?_,hL',hM',by simp,by omega,by omega⟩
    constructor
    ·intro h;cases h
    ·rintro⟨g1,_⟩;omega
   ·rw[decide_eq_false hm]
    have dm:∀ {x:Int},-1<=x->x<=m - 1->-1<=x/\x<=m:=λh1 h2=>⟨h1,by omega⟩
    cases hk:decide (t.kind=1) with
    |true=>
      have hB:tellB t=(decide (t.n≥0)&&(decide (t.n<=1000)&&(decide (t.name=[])&&decide (t.args.length=0)))):=by unfold tellB;rw[hk];rfl
      have hz:tellB t=true->t.args=[]:=λh=>by
       rw[hB] at h
       simp only[Yf,decide_eq_true_eq] at h
       exact List.eq_nil_of_length_eq_zero h.2.2.2
      have hs1:tellB t=true->t.size=1:=λh=>by rw[<-hsz,hz h];rfl
      refine⟨_,m - 1,tellB t,?_,?_,hL',hM',λh=>by rw[hs1 h];rfl,by omega,by omega⟩
      ·rw[hB]
       cases h1:decide (t.n≥0) with
       |false=>simp only[go_sem,hk,h1]
       |true=>
         cases h2:decide (t.n<=1000) with
         |false=>simp only[go_sem,hk,h1,h2]
         |true=>
           cases h3:decide (t.name=[]) with
           |false=>simp only[go_sem,hk,h1,h2,h3]
           |true=>simp only[go_sem,hk,h1,h2,h3,d0]
      ·rw[hall]
       constructor
       ·intro h
        refine⟨by rw[hs1 h];omega,?_⟩
        rw[h,hz h];rfl
       ·rintro⟨_,g2⟩
        simp only[Yf] at g2
        exact g2.1
    |false=>
      have hB:tellB t=bif !decide (t.kind=2) || !decide (t.n=0) then false else tellN t.name t.args.length:=by unfold tellB;rw[hk];rfl
      cases h2:decide (t.kind=2) with
      |false=>
        have hF:tellB t=false:=by rw[hB,h2];rfl
        refine⟨_,m - 1,false,by simp only[go_sem,hk,h2],?_,hL',hM',by simp,by omega,by omega⟩
        rw[hall,hF];simp
      |true=>
        cases h3:decide (t.n=0) with
        |false=>
          have hF:tellB t=false:=by rw[hB,h2,h3];rfl
          refine⟨_,m - 1,false,by simp only[go_sem,hk,h2,h3],?_,hL',hM',by simp,by omega,by omega⟩
          rw[hall,hF];simp
        |true=>
          have hT:∀ four,tellN t.name t.args.length=tellJ four t.name t.args.length->∀ s',Grew { s with locs:=s.locs.set L (.var [.val (.int .i64 (m - 1))]) } s'->∃ s2 m' b,Zq (t.cells.map .val) (.val (.cp [.vp L 0])) (.val (.bool (tellJ four t.name t.args.length))) s'=some (.ret (.val (.bool b)),s2)/\(b=true↔(t.size:Int)<=m/\allTy tellB t=true)/\AtL L m' s2/\Moves [L] [] [] s s2/\(b=true->m'=m - t.size)/\-1<=m'/\m'<=m:=λfour hf s' g=>by
           obtain⟨s2,m2,b,e2,d2,l2,v2,q2,b2,b2'⟩:=Qpo L t HV (by omega) (tellJ four t.name t.args.length) (m - 1) s' (g.loc hL') (by omega) (by omega)
           refine⟨s2,m2,b,e2,?_,l2,(hM'.trans (.grew _ _ g)).trans v2,λh=>by rw[q2 h];omega,b2,by omega⟩
           rw[d2,hall,hB,h2,h3,<-hf]
           simp only[Bool.not_true,Bool.or_self,cond_false,Yf]
           constructor
           ·rintro⟨x1,x2,x3⟩;exact⟨by omega,x1,x3⟩
           ·rintro⟨x1,x2,x3⟩;exact⟨x2,by omega,x3⟩
          rw[c] at hT
          have fin:∀ four,tellN t.name t.args.length=tellJ four t.name t.args.length->∃ s2 m' b,Q0n ([AV.int .i64 t.kind,.int .i64 t.n,.str t.name,encS t.nl (t.args.map Ty.enc)].map .val) (.val (.cp [.vp L 0])) (.val (.int .i64 t.args.length)) (.val (.str t.name)) (.val (.bool four)) { s with locs:=s.locs.set L (.var [.val (.int .i64 (m - 1))]) }=some (.ret (.val (.bool b)),s2)/\(b=true↔(t.size:Int)<=m/\allTy tellB t=true)/\AtL L m' s2/\Moves [L] [] [] s s2/\(b=true->m'=m - t.size)/\-1<=m'/\m'<=m:=λfour hf=>by
           obtain⟨s',g,e⟩:=j0 four
           rw[e]
           exact hT four hf s' g
          unfold tellN at fin
          cases n1:decide (t.name=[105,110,116]) with
          |true=>
            obtain⟨s2,m2,b,e2,r⟩:=fin true (by rw[n1];rfl)
            exact⟨s2,m2,b,by simp only[go_sem,hk,h2,h3,n1] at e2 |-;exact e2,r⟩
          |false=>
            cases n2:decide (t.name=[98,111,111,108]) with
            |true=>
              obtain⟨s2,m2,b,e2,r⟩:=fin true (by rw[n1,n2];rfl)
              exact⟨s2,m2,b,by simp only[go_sem,hk,h2,h3,n1,n2] at e2 |-;exact e2,r⟩
            |false=>
              cases n3:decide (t.name=[117,110,105,116]) with
              |true=>
                obtain⟨s2,m2,b,e2,r⟩:=fin true (by rw[n1,n2,n3];rfl)
                exact⟨s2,m2,b,by simp only[go_sem,hk,h2,h3,n1,n2,n3] at e2 |-;exact e2,r⟩
              |false=>
                obtain⟨s2,m2,b,e2,r⟩:=fin (decide (t.name=[101,120,110])) (by rw[n1,n2,n3];rfl)
                exact⟨s2,m2,b,by simp only[go_sem,hk,h2,h3,n1,n2,n3] at e2 |-;exact e2,r⟩
end
end Go.Proofs.YtgfhplcmcdimiaaGreatDoor
namespace Go.Am
open Go
theorem Q6L{sign:Str}{x:Str}:∀ {L:List (List Str)} {f:Bool},x ∈ joinT sign L f->x=sign\/∃ l ∈ L,x ∈ l
 |[],_,h=>by simp[joinT] at h
 |l::r,f,h=>by
   simp only[joinT,Yy] at h
   rcases h with h|h
   ·cases f
    ·simp only[cond_false,Yw] at h
     rcases h with h|h
     ·exact .inl h
     ·exact .inr ⟨l,Yd,h⟩
    ·exact .inr ⟨l,Yd,h⟩
   ·rcases Q6L h with h|⟨m,h1,h2⟩
    ·exact .inl h
    ·exact .inr ⟨m,Yc _ h1,h2⟩
theorem Qa0{b:Bool}{l:List Str}{x:Str}(h:x ∈ parT b l):x.length<=1\/x ∈ l:=by
 cases b
 ·exact .inr h
 ·simp only[parT,cond_true,Yw,Yy,List.not_mem_nil,or_false] at h
  rcases h with rfl|h|rfl
  ·exact .inl (by simp)
  ·exact .inr h
  ·exact .inl (by simp)
theorem Q6o{L:List (List Str)}{i:Nat}{x:Str}(h:x ∈ L.getD i []):∃ l ∈ L,x ∈ l:=by
 rw[List.getD_eq_getElem?_getD] at h
 cases hl:L[i]? with
 |none=>rw[hl] at h;simp at h
 |some l=>rw[hl] at h;exact⟨l,Ys hl,h⟩
theorem Qo1{nm:Str}(h:tokB nm=true):nm.length<=65536:=by
 unfold tokB lxScan at h
 by_cases hl:(nm.length:Int)>65536
 ·rw[decide_eq_true hl] at h
  simp at h
 ·omega
theorem QmB{nm:Str}{len:Nat}(h:tellN nm len=true):nm.length<=65536:=by
 unfold tellN at h
 cases h1:decide (nm=[105,110,116]) with
 |true=>rw[of_decide_eq_true h1];simp
 |false=>
   cases h2:decide (nm=[98,111,111,108]) with
   |true=>rw[of_decide_eq_true h2];simp
   |false=>
     cases h3:decide (nm=[117,110,105,116]) with
     |true=>rw[of_decide_eq_true h3];simp
     |false=>
       cases h4:decide (nm=[101,120,110]) with
       |true=>rw[of_decide_eq_true h4];simp
       |false=>
         cases h5:decide (nm=[114,101,102]) with
         |true=>rw[of_decide_eq_true h5];simp
         |false=>
           cases h6:decide (nm=[45,62]) with
           |true=>rw[of_decide_eq_true h6];simp
           |false=>
             cases h7:decide (nm=[42]) with
             |true=>rw[of_decide_eq_true h7];simp
             |false=>
               rw[h1,h2,h3,h4,h5,h6,h7] at h
               simp only[Bool.or_self,cond_false,Yf] at h
               exact Qo1 h.1
theorem Qeh{t:Ty}(h:tellB t=true):t.name.length<=65536:=by
 unfold tellB at h
 cases hk:decide (t.kind=1) with
 |true=>
   rw[hk] at h
   simp only[cond_true,Yf,decide_eq_true_eq] at h
   rw[h.2.2.1];simp
 |false=>
   rw[hk] at h
   simp only[cond_false] at h
   cases h2:(!decide (t.kind=2) || !decide (t.n=0)) with
   |true=>rw[h2] at h;cases h
   |false=>rw[h2] at h;exact QmB h
theorem QmA{t:Ty}(hk:decide (t.kind=1)=true)(h:tellB t=true):0<=t.n/\t.n<=1000:=by
 unfold tellB at h
 rw[hk] at h
 simp only[cond_true,Yf,decide_eq_true_eq] at h
 exact⟨h.1,h.2.1⟩
theorem Qnr{n:Int}(h0:0<=n)(h:n<2^62):(letT n).length<=22:=by
 unfold letT
 have:=Go.Lib.itoa_length_le (n / 26) (by omega) (by omega)
 cases decide (n>25)<;>simp<;>omega
mutual
theorem Qj3:∀ (t:Ty) (lv:Int),allTy tellB t=true->∀ x ∈ typT t lv,x.length<=65536
 |.mk k n nm ags nl,lv,h,x,hx=>by
   simp only[allTy,Yf] at h
   have hnm:=Qeh h.1
   simp only[Ty.name] at hnm
   have hk:=Qgv ags
   have sub:∀ lv,(∃ l ∈ typTs ags lv,x ∈ l)->x.length<=65536:=λlv ⟨l,h1,h2⟩=>hk lv h.2 l h1 x h2
   simp only[typT] at hx
   cases h1:decide (k=1) with
   |true=>
     rw[h1] at hx
     simp only[cond_true,List.mem_singleton] at hx
     subst hx
     have ht:=QmA (t:=.mk k n nm ags nl) h1 h.1
     simp only[Ty.n] at ht
     have:=Qnr (n:=n) ht.1 (by have:=ht.2;omega)
     simp only[Ya];omega
   |false=>
     rw[h1] at hx
     cases h2:decide (nm=[45,62]) with
     |true=>
       rw[h2] at hx
       simp only[cond_true,cond_false] at hx
       rcases Qa0 hx with hx|hx
       ·omega
       ·simp only[Yy,List.mem_singleton] at hx
        rcases hx with (hx|rfl)|hx
        ·exact sub 1 (Q6o hx)
        ·simp
        ·exact sub 0 (Q6o hx)
     |false=>
       rw[h2] at hx
       cases h3:decide (nm=[42]) with
       |true=>
         rw[h3] at hx
         simp only[cond_true,cond_false] at hx
         rcases Qa0 hx with hx|hx
         ·omega
         ·rcases Q6L hx with rfl|hx
          ·simp
          ·exact sub 2 hx
       |false=>
         rw[h3] at hx
         cases h4:decide (ags.length=0) with
         |true=>
           rw[h4] at hx
           simp only[cond_true,cond_false,List.mem_singleton] at hx
           subst hx;exact hnm
         |false=>
           rw[h4] at hx
           cases h5:decide (ags.length=1) with
           |true=>
             rw[h5] at hx
             simp only[cond_true,cond_false,Yy,List.mem_singleton] at hx
             rcases hx with hx|rfl
             ·exact sub 2 (Q6o hx)
             ·exact hnm
           |false=>
             rw[h5] at hx
             simp only[cond_false,Yy,Yw,List.not_mem_nil,or_false] at hx
             rcases hx with (rfl|hx|rfl)|rfl
             ·simp
             ·rcases Q6L hx with rfl|hx
              ·simp
              ·exact sub 0 hx
             ·simp
             ·exact hnm
theorem Qgv:∀ (l:List Ty) (lv:Int),allTys tellB l=true->∀ q ∈ typTs l lv,∀ x ∈ q,x.length<=65536
 |[],_,_,q,hq,_,_=>by cases hq
 |t::l,lv,h,q,hq,x,hx=>by
   simp only[allTys,Yf] at h
   simp only[typTs,Yw] at hq
   rcases hq with rfl|hq
   ·exact Qj3 t lv h.1 x hx
   ·exact Qgv l lv h.2 q hq x hx
end
theorem Qbk{M:Nat}:∀ {l:List Str},(∀ x ∈ l,x.length<=M)->tokSum l<=l.length*(M+1)
 |[],_=>by simp[tokSum]
 |s::l,h=>by
   have h1:=h s Yd
   have h2:=Qbk (l:=l) λx hx=>h x (Yc _ hx)
   rw[Q4l,Ya,Nat.add_mul];omega
end Go.Am
namespace Go.Proofs.YtgfhplcmcdimiaaGreatDoor
open Go Go.Am
set_option maxRecDepth 4000
theorem QjS{t:Ty}(h:tellB t=true):shpB t=true:=by
 unfold tellB at h
 unfold shpB
 cases hk:decide (t.kind=1) with
 |true=>
   rw[hk] at h
   simp only[cond_true,Yf,decide_eq_true_eq] at h |-
   omega
 |false=>
   rw[hk] at h
   simp only[cond_false] at h |-
   cases h2:(!decide (t.kind=2) || !decide (t.n=0)) with
   |true=>rw[h2] at h;cases h
   |false=>
     rw[h2] at h
     cases h3:decide (t.name=[45,62]) with
     |false=>simp
     |true=>
       have hn:=of_decide_eq_true h3
       simp only[cond_false,hn] at h
       simpa [tellN] using h
mutual
theorem Qkz:∀ t:Ty,allTy tellB t=true->allTy shpB t=true
 |.mk k n nm l nl,h=>by
   simp only[allTy,Yf] at h |-
   exact⟨QjS h.1,QiT l h.2⟩
theorem QiT:∀ l:List Ty,allTys tellB l=true->allTys shpB l=true
 |[],_=>rfl
 |t::l,h=>by
   simp only[allTys,Yf] at h |-
   exact⟨Qkz t h.1,QiT l h.2⟩
end
theorem Qfp(t:Ty)(s:St)(h:t.size<2^40)(hn:NamesTy t):Ret (cw (.f Q47) [t.enc] s) s (.str (typeT t)):=by
 obtain⟨s1,m',b,e1,d1,l1,v1,-⟩:=Qgs s.locs.length t.size t (Yg _) h hn 256 (St.addLoc s (.var [.val (.int .i64 256)])) (by simp[AtL,St.addLoc]) (by decide) (by decide)
 have hb:b=toldB t:=by
  unfold toldB
  rw[Bool.eq_iff_iff,d1]
  simp only[Yf,decide_eq_true_eq]
  constructor<;>rintro⟨g1,g2⟩<;>exact⟨by omega,g2⟩
 subst hb
 have g1:Grew s s1:=Moves.toGrew (Moves.since (A:=[]) (h:=[]) (Moves.grew [] [] ((Grew.refl s).addLoc _)) v1 (λi hi=>.inr (by simp only[List.mem_singleton] at hi;omega)) (by simp))
 rw[Qbf]
 simp only[go_sem,Nat.reduceAdd,Nat.reduceLeDiff,Ty.cells_eq,Ty.enc] at e1 |-
 unfold typeT
 cases hb:toldB t with
 |false=>
   rw[hb] at e1
   simp only[go_sem,e1]
   exact⟨s1,rfl,g1⟩
 |true=>
   have hb2:=hb
   unfold toldB at hb2
   simp only[Yf,decide_eq_true_eq] at hb2
   obtain⟨y,s2,e2,g2,h2⟩:=Q4E t.size t (Yg _) (by omega) (Qkz t hb2.2) 0 s1
   obtain⟨v,av,hv⟩:=h2.av
   have hl:=Q1i t 0
   have hs:=Qbk (Qj3 t 0 hb2.2)
   have hs2:(typT t 0).length*(65536+1)<=1536*(65536+1):=Nat.mul_le_mul_right _ (by omega)
   obtain⟨s3,e3,g3⟩:=Q3S (typT t 0) v hv (by omega) s2
   rw[hb] at e1
   simp only[go_sem,Ty.enc,Ty.cells_eq] at e2
   simp only[go_sem,e1,e2,QW av,e3]
   exact⟨s3,rfl,(g1.trans g2).trans g3⟩
end Go.Proofs.YtgfhplcmcdimiaaGreatDoor
namespace Go.Am
open Go
def varB(pb:Int->Bool)(u:Ty):Bool:=!decide (u.kind=1) || pb u.n
end Go.Am
namespace Go.Proofs.YtgfhplcmcdimiaaGreatDoor
open Go Go.Am
set_option maxRecDepth 4000
end Go.Proofs.YtgfhplcmcdimiaaGreatDoor
namespace Go.Am
open Go
theorem Qm6{k n:Int}{s:Str}{l:List Ty}{b:Bool}(h:goodB (.mk k n s l b)=true)(hk:k=1):0<=n/\s=[]/\l=[]:=by
 have h:goodC k n s l.length (lowB s)=true:=h
 unfold goodC at h
 simp only[decide_eq_true hk,cond_true,Yf,decide_eq_true_eq] at h
 exact⟨h.1.1,h.1.2,List.eq_nil_of_length_eq_zero (by omega)⟩
theorem Ty.size_pos(t:Ty):1<=t.size:=by cases t;simp only[Ty.size];omega
section
variable {σ:Type} (to:Int->σ->Ty × σ) (B:Nat)
end
end Go.Am
namespace Go.Am
open Go
theorem Qnm{k n:Int}{s:Str}{l:List Ty}{b:Bool}(h:goodB (.mk k n s l b)=true)(hk:decide (k=1)=true):0<=n/\s=[]/\l=[]:=Qm6 h (of_decide_eq_true hk)
theorem Qdj{p:Int->Bool}{k n:Int}{s:Str}{l:List Ty}{b:Bool}(h:varB p (.mk k n s l b)=true)(hk:decide (k=1)=true):p n=true:=by
 have h:(!decide (k=1) || p n)=true:=h
 rw[hk] at h
 exact h
end Go.Am
namespace Go.Am
open Go
def sub(av bv:Int)(σ:Int->Ty)(n:Int):Ty:=bif decide (n<av) then σ n else tvar (n - av+bv)
structure Sch where
 vars:Int
 ty:Ty
namespace Sch
def cells(x:Sch):List AV:=.int .i64 x.vars::x.ty.cells
abbrev enc(x:Sch):AV:=.agg x.cells
end Sch
end Go.Am
namespace Go.Am
open Go
def smaB(n:Int):Bool:=decide (n≥97)&&decide (n<=122)
def greB(n:Int):Bool:=decide (n≥65)&&decide (n<=90)
def hasP(s t:Str):Bool:=decide (t.length<=s.length)&&decide (s.take t.length=t)
def lxCloses(s:Str):Bool:=match s with
 |a::b::_=>decide (a=42)&&decide (b=41)
 |_=>false
theorem Qdy(s:Str):hasP s [40,42]=lxOpens s:=by
 match s with
 |[]=>rfl
 |[_]=>rfl
 |a::b::r=>simp[hasP,lxOpens,Bool.decide_and]
theorem Qjx(s:Str):hasP s [42,41]=lxCloses s:=by
 match s with
 |[]=>rfl
 |[_]=>rfl
 |a::b::r=>simp[hasP,lxCloses,Bool.decide_and]
def runLen(s:Str):Nat:=bif firC (s.headD 0) then (s.takeWhile amoC).length else 0
def numS:Int->Str->Int
 |acc,[]=>acc
 |acc,c::r=>numS (if 1099511627776<10*acc+(c.toNat:Int) - 48 then 1099511627776 else 10*acc+(c.toNat:Int) - 48) r
theorem lxDigs{c:UInt8}(h:digC c=true):(48:Int)<=c.toNat/\(c.toNat:Int)<=57:=by
 simp only[digC,digB,Yf,decide_eq_true_eq] at h
 omega
theorem Qkq:∀ (r:Str) (acc:Int),r.all digC=true->0<=acc->acc*10 ^ r.length<=numV acc r
 |[],acc,_,_=>by simp[numV]
 |c::r,acc,h,h0=>by
   simp only[List.all_cons,Yf] at h
   have hb:=lxDigs h.1
   have:=Qkq r (10*acc+((c.toNat:Int) - 48)) h.2 (by omega)
   refine Int.le_trans ?_ this
   rw[Ya,Int.pow_succ,Int.mul_comm (10 ^ r.length) 10,<-Int.mul_assoc]
   exact Int.mul_le_mul_of_nonneg_right (by omega) (Int.pow_nonneg (by decide))
theorem Qkp:∀ (r:Str) (a:Int),r.all digC=true->0<=a->numS (if 1099511627776<a then 1099511627776 else a) r=if 1099511627776<numV a r then 1099511627776 else numV a r
 |[],a,_,_=>rfl
 |c::r,a,h,h0=>by
   simp only[List.all_cons,Yf] at h
   have hb:=lxDigs h.1
   have:=Qkp r (10*a+((c.toNat:Int) - 48)) h.2 (by omega)
   rw[numS,numV,<-this]
   congr 1
   split<;>split<;>split<;>omega
theorem Qkr:∀ (r:Str) (acc:Int),r.all digC=true->0<=acc->numV acc r<(acc+1)*10 ^ r.length
 |[],acc,_,_=>by simp[numV];omega
 |c::r,acc,h,h0=>by
   simp only[List.all_cons,Yf] at h
   have hb:=lxDigs h.1
   have:=Qkr r (10*acc+((c.toNat:Int) - 48)) h.2 (by omega)
   refine Int.lt_of_lt_of_le this ?_
   rw[Ya,Int.pow_succ,Int.mul_comm (10 ^ r.length) 10,<-Int.mul_assoc]
   exact Int.mul_le_mul_of_nonneg_right (by omega) (Int.pow_nonneg (by decide))
def badR(t:Str)(m:Bool):Bool:=decide ((t.length:Int)>1)&&decide (t.headD 0=48) || decide (numS 0 t>1073741824) || decide (numS 0 t=1073741824) && !m
theorem Qk6(t:Str)(m:Bool)(h0:t≠[])(hd:t.all digC=true):badR t m = !(numA t m).2/\((numA t m).2=true->numS 0 t=(numA t m).1):=by
 have hs:=Qkp t 0 hd (by decide)
 rw[show (if (1099511627776:Int)<0 then (1099511627776:Int) else 0)=0 from rfl] at hs
 unfold badR numA
 cases h1:decide ((t.length:Int)>1)&&decide (t.headD 0=48)
 ·cases h2:decide ((t.length:Int)>10)
  ·have hlt:=Qkr t 0 hd (by decide)
   have hp:(10:Int) ^ t.length<=10 ^ 10:=by
    have h3:t.length<=10:=by simp at h2;omega
    exact_mod_cast Nat.pow_le_pow_right (n:=10) (by decide) h3
   have he:numS 0 t=numV 0 t:=by rw[hs,if_neg (by omega)]
   rw[he]
   simp only[Yt,cond_false]
   refine⟨?_,λ_=>trivial⟩
   generalize numV 0 t=v
   cases m
   ·by_cases g1:v>1073741824<;>by_cases g2:v=1073741824<;>by_cases g3:v<1073741824<;>simp[g1,g2,g3]<;>omega
   ·by_cases g1:v>1073741824<;>by_cases g2:v=1073741824<;>by_cases g3:v<1073741824<;>simp[g1,g2,g3]<;>omega
  ·simp only[Bool.or_true,cond_true]
   have h3:10<t.length:=by simp at h2;omega
   obtain⟨c,r,rfl⟩:=List.exists_cons_of_ne_nil h0
   simp only[List.all_cons,Yf] at hd
   have hb:=lxDigs hd.1
   have hne:c≠48:=by
    intro e
    subst e
    simp at h1
    simp only[Ya] at h3
    omega
   have hge:=Qkq r ((c.toNat:Int) - 48) hd.2 (by omega)
   have hc:(1:Int)<=(c.toNat:Int) - 48:=by
    have:(c.toNat:Int)≠48:=λe=>hne (UInt8.toNat_inj.1 (by show _=48;omega))
    omega
   have hp:(10:Int) ^ 10<=10 ^ r.length:=by
    have h4:10<=r.length:=by simp only[Ya] at h3;omega
    exact_mod_cast Nat.pow_le_pow_right (n:=10) (by decide) h4
   have hv:(10:Int) ^ 10<=numV 0 (c::r):=by
    refine Int.le_trans hp (Int.le_trans ?_ (show _<=numV (10*0+((c.toNat:Int) - 48)) r from by simpa using hge))
    have:=Int.mul_le_mul_of_nonneg_right hc (show (0:Int)<=10 ^ r.length from Int.pow_nonneg (by decide))
    omega
   rw[hs]
   refine⟨?_,λh=>by cases h⟩
   have:decide ((if (1099511627776:Int)<numV 0 (c::r) then (1099511627776:Int) else numV 0 (c::r))>1073741824)=true:=by
    rw[decide_eq_true_eq]
    split<;>omega
   rw[this]
   rfl
 ·simp only[Yx,cond_true,Bool.not_false,true_and]
  exact λh=>by cases h
def signR(s:Str):Str:=lsigns.foldl (λt w=>bif hasP s w&&decide (w.length>t.length) then w else t) []
theorem QnS(s:Str):signR s=signA s:=by
 match s with
 |[]=>rfl
 |[a]=>
   by_cases h1:a=33
   ·subst h1;rfl
   by_cases h2:a=40
   ·subst h2;rfl
   by_cases h3:a=41
   ·subst h3;rfl
   by_cases h4:a=42
   ·subst h4;rfl
   by_cases h5:a=43
   ·subst h5;rfl
   by_cases h6:a=44
   ·subst h6;rfl
   by_cases h7:a=45
   ·subst h7;rfl
   by_cases h8:a=58
   ·subst h8;rfl
   by_cases h9:a=59
   ·subst h9;rfl
   by_cases h10:a=60
   ·subst h10;rfl
   by_cases h11:a=61
   ·subst h11;rfl
   by_cases h12:a=95
   ·subst h12;rfl
   by_cases h13:a=124
   ·subst h13;rfl
   by_cases h14:a=126
   ·subst h14;rfl
   simp[signR,signA,lsigns,hasL,hasP, *]
 |a::b::r=>
   by_cases k1:b=61
   ·subst k1
    by_cases h0:a=33
    ·subst h0;simp[signR,signA,lsigns,hasL,hasP, *]
    by_cases h1:a=40
    ·subst h1;simp[signR,signA,lsigns,hasL,hasP, *]
    by_cases h2:a=41
    ·subst h2;simp[signR,signA,lsigns,hasL,hasP, *]
    by_cases h3:a=42
    ·subst h3;simp[signR,signA,lsigns,hasL,hasP, *]
    by_cases h4:a=43
    ·subst h4;simp[signR,signA,lsigns,hasL,hasP, *]
    by_cases h5:a=44
    ·subst h5;simp[signR,signA,lsigns,hasL,hasP, *]
    by_cases h6:a=45
    ·subst h6;simp[signR,signA,lsigns,hasL,hasP, *]
    by_cases h7:a=58
    ·subst h7;simp[signR,signA,lsigns,hasL,hasP, *]
    by_cases h8:a=59
    ·subst h8;simp[signR,signA,lsigns,hasL,hasP, *]
    by_cases h9:a=60
    ·subst h9;simp[signR,signA,lsigns,hasL,hasP, *]
    by_cases h10:a=61
    ·subst h10;simp[signR,signA,lsigns,hasL,hasP, *]
    by_cases h11:a=95
    ·subst h11;simp[signR,signA,lsigns,hasL,hasP, *]
    by_cases h12:a=124
    ·subst h12;simp[signR,signA,lsigns,hasL,hasP, *]
    by_cases h13:a=126
    ·subst h13;simp[signR,signA,lsigns,hasL,hasP, *]
    simp[signR,signA,lsigns,hasL,hasP, *]
   by_cases k2:b=62
   ·subst k2
    by_cases h0:a=33
    ·subst h0;simp[signR,signA,lsigns,hasL,hasP, *]
    by_cases h1:a=40
    ·subst h1;simp[signR,signA,lsigns,hasL,hasP, *]
    by_cases h2:a=41
    ·subst h2;simp[signR,signA,lsigns,hasL,hasP, *]
    by_cases h3:a=42
    ·subst h3;simp[signR,signA,lsigns,hasL,hasP, *]
    by_cases h4:a=43
    ·subst h4;simp[signR,signA,lsigns,hasL,hasP, *]
    by_cases h5:a=44
    ·subst h5;simp[signR,signA,lsigns,hasL,hasP, *]
    by_cases h6:a=45
    ·subst h6;simp[signR,signA,lsigns,hasL,hasP, *]
    by_cases h7:a=58
    ·subst h7;simp[signR,signA,lsigns,hasL,hasP, *]
    by_cases h8:a=59
    ·subst h8;simp[signR,signA,lsigns,hasL,hasP, *]
    by_cases h9:a=60
    ·subst h9;simp[signR,signA,lsigns,hasL,hasP, *]
    by_cases h10:a=61
    ·subst h10;simp[signR,signA,lsigns,hasL,hasP, *]
    by_cases h11:a=95
    ·subst h11;simp[signR,signA,lsigns,hasL,hasP, *]
    by_cases h12:a=124
    ·subst h12;simp[signR,signA,lsigns,hasL,hasP, *]
    by_cases h13:a=126
    ·subst h13;simp[signR,signA,lsigns,hasL,hasP, *]
    simp[signR,signA,lsigns,hasL,hasP, *]
   by_cases h0:a=33
   ·subst h0;simp[signR,signA,lsigns,hasL,hasP, *]
   by_cases h1:a=40
   ·subst h1;simp[signR,signA,lsigns,hasL,hasP, *]
   by_cases h2:a=41
   ·subst h2;simp[signR,signA,lsigns,hasL,hasP, *]
   by_cases h3:a=42
   ·subst h3;simp[signR,signA,lsigns,hasL,hasP, *]
   by_cases h4:a=43
   ·subst h4;simp[signR,signA,lsigns,hasL,hasP, *]
   by_cases h5:a=44
   ·subst h5;simp[signR,signA,lsigns,hasL,hasP, *]
   by_cases h6:a=45
   ·subst h6;simp[signR,signA,lsigns,hasL,hasP, *]
   by_cases h7:a=58
   ·subst h7;simp[signR,signA,lsigns,hasL,hasP, *]
   by_cases h8:a=59
   ·subst h8;simp[signR,signA,lsigns,hasL,hasP, *]
   by_cases h9:a=60
   ·subst h9;simp[signR,signA,lsigns,hasL,hasP, *]
   by_cases h10:a=61
   ·subst h10;simp[signR,signA,lsigns,hasL,hasP, *]
   by_cases h11:a=95
   ·subst h11;simp[signR,signA,lsigns,hasL,hasP, *]
   by_cases h12:a=124
   ·subst h12;simp[signR,signA,lsigns,hasL,hasP, *]
   by_cases h13:a=126
   ·subst h13;simp[signR,signA,lsigns,hasL,hasP, *]
   simp[signR,signA,lsigns,hasL,hasP, *]
end Go.Am
namespace Go.Am
open Go
def skipF:Nat->Nat->Str->Nat × Bool × Str
 |0,i,s=>(i,true,s)
 |_+1,i,[]=>(i,true,[])
 |n+1,i,c::r=>
   bif blankC c then skipF n (i+1) r
   else bif lxOpens (c::r) then (match lxCom 0 (c::r) with|some k=>skipF n (i+k) ((c::r).drop k)|none=>(i,false,c::r))
   else (i,true,c::r)
theorem Qa6:∀ (n i:Nat) (s:Str),∃ k,(skipF n i s).2.2=s.drop k/\(skipF n i s).1=i+k/\k<=s.length
 |0,i,s=>⟨0,rfl,rfl,Nat.zero_le _⟩
 |_+1,i,[]=>⟨0,rfl,rfl,Yg _⟩
 |n+1,i,c::r=>by
   unfold skipF
   cases blankC c
   ·simp only[cond_false]
    cases lxOpens (c::r)
    ·exact⟨0,rfl,rfl,Nat.zero_le _⟩
    ·simp only[cond_true]
     cases hc:lxCom 0 (c::r) with
     |none=>exact⟨0,rfl,rfl,Nat.zero_le _⟩
     |some k=>
       have hk:=Q5z _ _ _ hc
       obtain⟨j,h1,h2,h3⟩:=Qa6 n (i+k) ((c::r).drop k)
       simp only[List.length_drop] at h3
       exact⟨k+j,by rw[h1,List.drop_drop],by rw[h2];omega,by omega⟩
   ·simp only[cond_true]
    obtain⟨j,h1,h2,h3⟩:=Qa6 n (i+1) r
    exact⟨j+1,h1,by rw[h2];omega,by simp only[Ya];omega⟩
theorem Qda:∀ (n i:Nat) (s:Str),s.length<n->(skipF n i s).2.1=true->(skipF n i s).2.2=[]\/∃ c r,(skipF n i s).2.2=c::r/\blankC c=false/\lxOpens (c::r)=false
 |0,_,_,h,_=>by omega
 |_+1,i,[],_,_=>.inl rfl
 |n+1,i,c::r,h,ho=>by
   unfold skipF at ho |-
   simp only[Ya] at h
   cases hb:blankC c
   ·rw[hb] at ho
    simp only[cond_false] at ho |-
    cases hp:lxOpens (c::r)
    ·exact .inr ⟨c,r,rfl,hb,hp⟩
    ·rw[hp] at ho
     simp only[cond_true] at ho |-
     cases hc:lxCom 0 (c::r) with
     |none=>rw[hc] at ho;cases ho
     |some k=>
       rw[hc] at ho
       have hk:=Q5z _ _ _ hc
       exact Qda n (i+k) ((c::r).drop k) (by simp only[List.length_drop,Ya];omega) ho
   ·rw[hb] at ho
    simp only[cond_true] at ho |-
    exact Qda n (i+1) r (by omega) ho
theorem Qbh:∀ (n i:Nat) (s:Str) (acc:List LTok),s.length<n->
  ((skipF n i s).2.1=false->scanF n i s acc=([],12,((skipF n i s).1:Int)))/\((skipF n i s).2.1=true->∀ m,(skipF n i s).2.2.length<m->scanF n i s acc=scanF m (skipF n i s).1 (skipF n i s).2.2 acc)
 |0,_,_,_,h=>by omega
 |n+1,i,[],acc,_=>⟨λh=>(by cases h),λ_ m hm=>by cases m with|zero=>simp at hm|succ m=>rfl⟩
 |n+1,i,c::r,acc,h=>by
   simp only[Ya] at h
   unfold skipF
   cases hb:blankC c
   ·simp only[cond_false]
    cases hp:lxOpens (c::r)
    ·simp only[cond_false]
     exact⟨λh=>(by cases h),λ_ m hm=>Q7S _ _ _ _ _ (by simp only[Ya];omega) hm⟩
    ·simp only[cond_true]
     cases hc:lxCom 0 (c::r) with
     |none=>
       refine⟨λ_=>?_,λh=>by cases h⟩
       unfold scanF
       rw[hb,hp,hc]
       rfl
     |some k=>
       have hk:=Q5z _ _ _ hc
       have:=Qbh n (i+k) ((c::r).drop k) acc (by simp only[List.length_drop,Ya];omega)
       have e:scanF (n+1) i (c::r) acc=scanF n (i+k) ((c::r).drop k) acc:=by
        rw[scanF,hb,hp,hc];rfl
       rw[e]
       exact this
   ·simp only[cond_true]
    have:=Qbh n (i+1) r acc (by omega)
    have e:scanF (n+1) i (c::r) acc=scanF n (i+1) r acc:=by rw[scanF,hb];rfl
    rw[e]
    exact this
end Go.Am
namespace Go.Am
open Go
def leadD(u:Nat):Str:=if u=0 then [] else Go.Lib.decDigits u
theorem Q9R(u:Nat):leadD (u / 10)++[UInt8.ofNat (48+u % 10)]=Go.Lib.decDigits u:=by
 rw[Go.Lib.decDigits]
 unfold leadD
 by_cases h:u<10
 ·rw[if_pos (by omega),dif_pos h,Nat.mod_eq_of_lt h];rfl
 ·rw[if_neg (by omega),dif_neg h]
end Go.Am
namespace Go.Proofs.YtgfhplcmcdimiaaGreatDoor
open Go Go.Am
set_option maxRecDepth 4000
theorem QfF(m:Nat)(h:m<256):convS (C.ti Za) (C.ti Qb) (.val (.int .u64 m))=some (.val (.int .u8 m)):=by
 have k1:(C.ti Za).k = .int .u64:=by kernel_rfl
 have k2:(C.ti Qb).k = .int .u8:=by kernel_rfl
 have w:IntKind.u8.wrap (m:Int)=m:=by simp[IntKind.wrap,IntKind.bits,IntKind.signed];omega
 simp only[convS,k1,k2,w]
theorem Q9G(m:Nat)(h:m<256):convS (C.ti QQ) (C.ti Q0) (.full [.int .u8 m]) (.int .u8)=some (.val (.str [UInt8.ofNat m])):=by
 have k1:(C.ti QQ).k = .slice Qb:=by kernel_rfl
 have k2:(C.ti Q0).k = .str:=by kernel_rfl
 simp only[convS,convStr,k1,k2,Slot.list?,u8s,Yh,Yo,Int.toNat_natCast]
theorem Qc8(u:Nat)(h:u<2^63):(u:Int).tmod 10=((u % 10:Nat):Int)/\IntKind.u64.wrap (48+((u % 10:Nat):Int))=((48+u % 10:Nat):Int)/\IntKind.u64.wrap ((u:Int).tdiv 10)=((u / 10:Nat):Int):=by
 refine⟨?_,?_,?_⟩
 ·rw[Int.tmod_eq_emod_of_nonneg (by omega)];omega
 ·simp only[IntKind.wrap,IntKind.bits,IntKind.signed];simp;omega
 ·rw[Int.tdiv_eq_ediv_of_nonneg (by omega)]
  simp only[IntKind.wrap,IntKind.bits,IntKind.signed];simp;omega
theorem QdH(n:Int)(hn:0<=n)(s:St):∀ (k u:Nat) (acc:Str),u<=k->u<2^63->(leadD u).length+acc.length<2^40->
  Q2O (.val (.int .i64 n)) (.val (.int .u64 u)) (.val (.str acc)) s=some (.ret (.val (.str (leadD u++acc))),s):=by
 have hneg:decide (n<0)=false:=decide_eq_false (by omega)
 intro k
 induction k with
 |zero=>
   intro u acc hk hu hl
   obtain rfl:u=0:=by omega
   have z:decide (((0:Nat):Int)>0)=false:=rfl
   rw[Q4N]
   simp only[go_sem,Int.reduceEq,ne_eq,not_false_eq_true,z,hneg]
   rfl
 |succ k ih=>
   intro u acc hk hu hl
   by_cases h0:u=0
   ·subst h0
    have z:decide (((0:Nat):Int)>0)=false:=rfl
    rw[Q4N]
    simp only[go_sem,Int.reduceEq,ne_eq,not_false_eq_true,z,hneg]
    rfl
   ·obtain⟨f1,f2,f3⟩:=Qc8 u hu
    have z:decide ((u:Int)>0)=true:=decide_eq_true (by omega)
    have e1:=QfF (48+u % 10) (by omega)
    have e2:=Q9G (48+u % 10) (by omega)
    have hs:leadD u=leadD (u / 10)++[UInt8.ofNat (48+u % 10)]:=by rw[Q9R];unfold leadD;rw[if_neg h0]
    rw[hs,Yb,Yl] at hl
    have a1:binS (C.ti Q0) .add (.val (.str [UInt8.ofNat (48+u % 10)])) (.val (.str acc))=some (.val (.str (UInt8.ofNat (48+u % 10)::acc))):=Zw (by simp;omega)
    have e3:=ih (u / 10) (UInt8.ofNat (48+u % 10)::acc) (by omega) (by omega) (by simp only[Ya];omega)
    rw[Q4N]
    simp only[go_sem,Int.reduceEq,Nat.reduceAdd,ne_eq,not_false_eq_true,z,f1,f2,f3,e1,e2,a1,e3]
    rw[hs];simp
theorem Q5E(n:Int)(h0:0<=n)(h:n<2^62)(s:St):cw (.f Q12) [.int .i64 n] s=some (.ret (.val (.str (Go.Lib.itoa n))),s):=by
 obtain⟨u,rfl⟩:=Int.eq_ofNat_of_zero_le h0
 have hneg:decide ((u:Int)<0)=false:=decide_eq_false (by omega)
 obtain⟨f1,f2,f3⟩:=Qc8 u (by omega)
 have e1:=QfF (48+u % 10) (by omega)
 have e2:=Q9G (48+u % 10) (by omega)
 have k0:convS (C.ti Q1) (C.ti Za) (.val (.int .i64 u))=some (.val (.int .u64 u)):=by
  have k1:(C.ti Za).k = .int .u64:=by kernel_rfl
  have k2:(C.ti Q1).k = .int .i64:=by kernel_rfl
  have w:IntKind.u64.wrap (u:Int)=u:=by simp only[IntKind.wrap,IntKind.bits,IntKind.signed];simp;omega
  simp only[convS,k1,k2,w]
 have hlen:=Go.Lib.itoa_length_le (u:Int) (by omega) (by omega)
 rw[Go.Lib.itoa_nonneg,<-Q9R,Yb,Yl] at hlen
 have e3:=QdH u h0 s (u / 10) (u / 10) [UInt8.ofNat (48+u % 10)] (Yg _) (by omega) (by simp only[Yl];omega)
 rw[Q9R] at e3
 rw[Go.Lib.itoa_nonneg,QgH]
 simp only[go_sem,Int.reduceEq,Nat.reduceAdd,ne_eq,not_false_eq_true,k0,hneg,QcK,f1,f2,f3,e1,e2,e3]
theorem Q9p(n:Int)(h0:0<=n)(h:n<2^63)(s:St):cw (.f Q46) [.int .i64 n] s=some (.ret (.val (.str (letT n))),s):=by
 have a1:n.tmod 26=n % 26:=Int.tmod_eq_emod_of_nonneg h0
 have a2:n.tdiv 26=n / 26:=Int.tdiv_eq_ediv_of_nonneg h0
 have b1:IntKind.i64.wrap (97+n % 26)=97+n % 26:=wrap64 (by omega) (by omega)
 have b2:IntKind.i64.wrap (n / 26)=n / 26:=wrap64 (by omega) (by omega)
 have e1:=Q5E (n / 26) (by omega) (by omega) s
 obtain⟨m,hm⟩:=Int.eq_ofNat_of_zero_le (show 0<=97+n % 26 by omega)
 have e2:=Q9G m (by omega)
 have k0:convS (C.ti Q1) (C.ti Qb) (.val (.int .i64 (97+n % 26)))=some (.val (.int .u8 m)):=by
  have k1:(C.ti Qb).k = .int .u8:=by kernel_rfl
  have k2:(C.ti Q1).k = .int .i64:=by kernel_rfl
  have w:IntKind.u8.wrap (97+n % 26)=m:=by rw[hm];simp[IntKind.wrap,IntKind.bits,IntKind.signed];omega
  simp only[convS,k1,k2,w]
 have hl:=Qi0 (n / 26) (by omega) (by omega)
 have hb:UInt8.ofNat (97+n % 26).toNat=UInt8.ofNat m:=by rw[hm];rfl
 rw[QiD]
 unfold letT
 rw[hb]
 cases hn:decide (n>25) with
 |false=>simp only[go_sem,Int.reduceEq,Nat.reduceAdd,ne_eq,not_false_eq_true,a1,b1,k0,e2,hn]
 |true=>
   have c1:binS (C.ti Q0) .add (.val (.str [UInt8.ofNat m])) (.val (.str (Go.Lib.itoa (n / 26))))=some (.val (.str (UInt8.ofNat m::Go.Lib.itoa (n / 26)))):=Zw (by simp;omega)
   simp only[go_sem,Int.reduceEq,Nat.reduceAdd,ne_eq,not_false_eq_true,a1,a2,b1,b2,k0,e2,hn,e1,c1]
end Go.Proofs.YtgfhplcmcdimiaaGreatDoor
namespace Go.Am
open Go
def joinS(sep:Str):List Str->Bool->Str
 |[],_=>[]
 |s::r,f=>(bif f then s else sep++s)++joinS sep r false
def parS(b:Bool)(s:Str):Str:=bif b then 40::(s++[41]) else s
mutual
def txt10(vars:Int):Ty->Str
 |.mk k n nm ags _=>
   bif decide (k=1) then (bif decide (n<vars) then 39::letT n else 95::letT (n - vars))
   else bif decide (ags.length=0) then nm
   else bif decide (nm=[45,62]) then (ats10 vars ags 1).getD 0 []++([32,45,62,32]++(ats10 vars ags 0).getD 1 [])
   else bif decide (nm=[42]) then joinS [32,42,32] (ats10 vars ags 2) true
   else bif decide (ags.length=1) then (ats10 vars ags 2).getD 0 []++(32::nm)
   else 40::(joinS [44,32] (ats10 vars ags 0) true++(41::32::nm))
def ats10(vars:Int):List Ty->Int->List Str
 |[],_=>[]
 |t::l,lv=>parS (decide (levelT t<lv)) (txt10 vars t)::ats10 vars l lv
end
def at10(vars:Int)(t:Ty)(lv:Int):Str:=parS (decide (levelT t<lv)) (txt10 vars t)
theorem Q8A(vars:Int)(lv:Int):∀ l:List Ty,ats10 vars l lv=l.map λt=>at10 vars t lv
 |[]=>rfl
 |t::l=>by simp only[ats10,Yh,Q8A vars lv l,at10]
structure NiceT (l:List Str):Prop where
 fst:∃ s r,l=s::r/\hasL glueR s=false
 lst:∃ q z,l=q++[z]/\hasL glueL z=false
theorem Qm4(z:Str)(b:List Str):∀ (q:List Str) (p:Option Str),textGo p (q++z::b)=textGo p (q++[z])++textGo (some z) b
 |[],p=>by simp[textGo]
 |s::q,p=>by simp only[Yk,textGo,Qm4 z b q,Yj]
theorem NiceT.app{l:List Str}(h:NiceT l):∃ z,hasL glueL z=false/\∀ p b,textGo p (l++b)=textGo p l++textGo (some z) b:=by
 obtain⟨q,z,rfl,hz⟩:=h.lst
 exact⟨z,hz,λp b=>by rw[Yj,List.singleton_append,Qm4]⟩
theorem NiceT.some{l:List Str}(h:NiceT l)(q:Str):textGo (some q) l=bif hasL glueL q then textB l else 32::textB l:=by
 obtain⟨s,r,rfl,hs⟩:=h.fst
 simp only[textB,textGo,sepB,hs,Bool.not_false,Bool.and_true,cond_false]
 cases hasL glueL q<;>rfl
theorem NiceT.one{s:Str}(h1:hasL glueR s=false)(h2:hasL glueL s=false):NiceT [s]:=⟨⟨s,[],rfl,h1⟩,⟨[],s,rfl,h2⟩⟩
theorem NiceT.cat{a b c:List Str}(ha:NiceT a)(hc:NiceT c):NiceT (a++(b++c)):=by
 obtain⟨s,r,rfl,h1⟩:=ha.fst
 obtain⟨q,z,rfl,h2⟩:=hc.lst
 exact⟨⟨s,r++(b++(q++[z])),by simp,h1⟩,⟨(s::r)++(b++q),z,by simp,h2⟩⟩
theorem NiceT.par{l:List Str}(b:Bool)(h:NiceT l):NiceT (parT b l):=by
 cases b with
 |false=>exact h
 |true=>exact⟨⟨[40],l++[[41]],rfl,by decide⟩,⟨[40]::l,[41],by simp[parT],by decide⟩⟩
theorem Q1g{l:List Str}(b:Bool)(h:NiceT l):textB (parT b l)=parS b (textB l):=by
 cases b with
 |false=>rfl
 |true=>
   obtain⟨z,hz,ha⟩:=h.app
   show textGo none ([40]::(l++[[41]]))=40::(textB l++[41])
   have h1:=h.some [40]
   rw[show hasL glueL [40]=true by decide,cond_true] at h1
   simp only[textGo,sepB,cond_false]
   rw[ha,h1]
   simp only[textGo,sepB]
   rw[show hasL glueR [41]=true by decide]
   simp
theorem QnZ{a b:List Str}(m:Str)(ha:NiceT a)(hb:NiceT b)(h1:hasL glueR m=false)(h2:hasL glueL m=false):textB (a++([m]++b))=textB a++(32::(m++32::textB b)):=by
 obtain⟨z,hz,h⟩:=ha.app
 unfold textB at *
 rw[h]
 simp only[List.singleton_append,textGo,sepB,h1,hz,Bool.not_false,Bool.and_self,cond_true]
 rw[hb.some m,h2]
 rfl
theorem QiZ{a:List Str}(m:Str)(ha:NiceT a)(h1:hasL glueR m=false):textB (a++[m])=textB a++(32::m):=by
 obtain⟨z,hz,h⟩:=ha.app
 unfold textB at *
 rw[h]
 simp only[textGo,sepB,h1,hz,Bool.not_false,Bool.and_self,cond_true,Yr]
theorem Q9w(sign sep:Str)(hg:hasL glueL sign=false)(hsep:∀ z,hasL glueL z=false->textGo (some z) [sign]++[32]=sep):∀ (L:List (List Str)) (z:Str),(∀ l ∈ L,NiceT l)->hasL glueL z=false->textGo (some z) (joinT sign L false)=joinS sep (L.map textB) false
 |[],z,_,_=>rfl
 |l::L,z,hL,hz=>by
   have hl:=hL l Yd
   obtain⟨w,hw,h⟩:=hl.app
   have ih:=Q9w sign sep hg hsep L w (λx hx=>hL x (Yc _ hx)) hw
   have e:=hsep z hz
   simp only[textGo,Yr] at e
   simp only[joinT,cond_false,Yk,textGo,h,ih,Yh,joinS,hl.some sign,hg]
   rw[<-e]
   simp
theorem Q3D(sign sep:Str)(hg:hasL glueL sign=false)(hsep:∀ z,hasL glueL z=false->textGo (some z) [sign]++[32]=sep)(L:List (List Str))(hL:∀ l ∈ L,NiceT l):textB (joinT sign L true)=joinS sep (L.map textB) true:=by
 cases L with
 |nil=>rfl
 |cons l L=>
   have hl:=hL l Yd
   obtain⟨w,hw,h⟩:=hl.app
   have ih:=Q9w sign sep hg hsep L w (λx hx=>hL x (Yc _ hx)) hw
   unfold textB at *
   simp only[joinT,cond_true,h,ih,Yh,joinS]
theorem QnP:∀ z,hasL glueL z=false->textGo (some z) [[42]]++[32]=[32,42,32]:=by
 intro z hz
 simp only[textGo,sepB,hz]
 rw[show hasL glueR [42]=false by decide];rfl
theorem Q8M:∀ z,hasL glueL z=false->textGo (some z) [[44]]++[32]=[44,32]:=by
 intro z hz
 simp only[textGo,sepB,hz]
 rw[show hasL glueR [44]=true by decide];rfl
theorem Qg9(sign:Str):∀ (L:List (List Str)) (f:Bool),L≠[]->(∀ l ∈ L,NiceT l)->∃ q z,joinT sign L f=q++[z]/\hasL glueL z=false
 |[l],f,_,hL=>by
   obtain⟨q,z,rfl,hz⟩:=(hL l Yd).lst
   cases f with
   |true=>exact⟨q,z,by simp[joinT],hz⟩
   |false=>exact⟨sign::q,z,by simp[joinT],hz⟩
 |l::m::L,f,_,hL=>by
   obtain⟨q,z,e,hz⟩:=Qg9 sign (m::L) false (by simp) (λx hx=>hL x (Yc _ hx))
   exact⟨(bif f then l else sign::l)++q,z,by rw[joinT,e,Yj],hz⟩
theorem NiceT.join(sign:Str){L:List (List Str)}(h:L≠[])(hL:∀ l ∈ L,NiceT l):NiceT (joinT sign L true):=by
 refine⟨?_,Qg9 sign L true h hL⟩
 cases L with
 |nil=>exact absurd rfl h
 |cons l L=>
   obtain⟨s,r,rfl,hs⟩:=(hL l Yd).fst
   exact⟨s,r++joinT sign L false,by simp[joinT],hs⟩
theorem Ql2:∀ w ∈ glueL++glueR,((givenB w).2.2 || lowB w)=false:=by decide +kernel
theorem Qmj{nm:Str}(h:((givenB nm).2.2 || lowB nm)=true):hasL glueL nm=false/\hasL glueR nm=false:=by
 have hw:∀ w ∈ glueL++glueR,nm≠w:=λw hm e=>by
  have:=Ql2 w hm
  rw[<-e,h] at this;cases this
 unfold hasL
 rw[List.any_eq_false,List.any_eq_false]
 exact⟨λw hm=>by simpa using hw w (Yq _ hm),λw hm=>by simpa using hw w (Yp _ hm)⟩
theorem Qcx{k n:Int}{nm:Str}{l:List Ty}{b:Bool}(h:goodB (.mk k n nm l b)=true)(hk:decide (k=1)=false):k=2/\n=0/\((givenB nm).1<=l.length/\(l.length:Int)<=(givenB nm).2.1)/\((givenB nm).2.2 || lowB nm)=true:=by
 have h:goodC k n nm l.length (lowB nm)=true:=h
 unfold goodC at h
 rw[hk,cond_false] at h
 cases h2:decide (k=2) with
 |false=>rw[h2] at h;cases h
 |true=>
   rw[h2] at h
   simp only[cond_true,Yf,decide_eq_true_eq] at h
   exact⟨of_decide_eq_true h2,h.1.1.1,⟨h.1.1.2,h.1.2⟩,h.2⟩
theorem QhY:givenB [45,62]=(2,2,true):=by decide +kernel
theorem QkY:givenB [42]=(2,8,true):=by decide +kernel
theorem QkQ:∀ u:Nat,(Go.Lib.decDigits u).all amoC=true:=by
 intro u
 induction u using Nat.strongRecOn with
 |_ u ih=>
   have hd:∀ m,m<10->amoC (UInt8.ofNat (48+m))=true:=by
    intro m hm
    have:m=0\/m=1\/m=2\/m=3\/m=4\/m=5\/m=6\/m=7\/m=8\/m=9:=by omega
    rcases this with rfl|rfl|rfl|rfl|rfl|rfl|rfl|rfl|rfl|rfl<;>decide
   rw[Go.Lib.decDigits]
   by_cases h:u<10
   ·rw[dif_pos h]
    simp only[List.all_cons,List.all_nil,Bool.and_true]
    exact hd u h
   ·rw[dif_neg h,List.all_append,ih (u / 10) (by omega)]
    simp only[List.all_cons,List.all_nil,Bool.and_true,Bool.true_and]
    exact hd _ (by omega)
theorem Qad(n:Int):hasL glueL (39::letT n)=false/\hasL glueR (39::letT n)=false:=by
 unfold hasL glueL glueR
 simp
end Go.Am
namespace Go.Am
open Go
def VarOK(t:Ty):Prop:=allTy (varB λn=>decide (0<=n)&&decide (n<=9223372036854775807)) t=true
end Go.Am
namespace Go.Am
open Go
theorem QaR:∀ l:List TNode,firstBad l = .zero->∀ n ∈ l,n.bad.kind=0
 |[],_,n,hn=>by cases hn
 |u::l,h,n,hn=>by
   rw[firstBad] at h
   by_cases hu:u.bad.kind=0
   ·rw[decide_eq_true hu,cond_true] at h
    rcases List.mem_cons.1 hn with rfl|hn
    ·exact hu
    ·exact QaR l h n hn
   ·rw[decide_eq_false hu,cond_false] at h
    rw[h] at hu
    exact absurd rfl hu
end Go.Am
namespace Go.Am
open Go
theorem QjM{l:List TNode}{D:Int}(h:rightN l D = .zero):firstBad l = .zero:=by
 unfold rightN at h
 cases h1:decide (countN l>8192) with
 |true=>rw[h1,cond_true] at h;cases h
 |false=>
   rw[h1,cond_false] at h
   cases h2:decide (D>100) with
   |true=>rw[h2,cond_true] at h;cases h
   |false=>rw[h2,cond_false] at h;exact h
theorem wrong0{n:TNode}(h:n.bad.kind=0):n.wrong.1=0:=by
 unfold TNode.bad mkBad at h
 by_cases e:n.wrong.1=0
 ·exact e
 ·rw[decide_eq_false e,cond_false] at h;exact h
theorem QjN{l:List TNode}{D:Int}(h:rightN l D = .zero):∀ n ∈ l,n.wrong.1=0:=λn hn=>wrong0 (QaR l (QjM h) n hn)
theorem Qaj:∀ l:List TNode,(firstBad l).kind=0->firstBad l = .zero
 |[],_=>rfl
 |n::l,h=>by
   rw[firstBad] at h |-
   by_cases e:n.bad.kind=0
   ·rw[decide_eq_true e,cond_true] at h |-;exact Qaj l h
   ·rw[decide_eq_false e,cond_false] at h;exact absurd h e
theorem Qlc{l:List TNode}{D:Int}:(rightN l D).kind=0↔rightN l D = .zero:=by
 constructor
 ·unfold rightN
  cases decide (countN l>8192) with
  |true=>intro h;cases h
  |false=>
    cases decide (D>100) with
    |true=>intro h;cases h
    |false=>exact Qaj l
 ·intro h;rw[h];rfl
structure DecIs (k:Int) (nm:Str) (p nl nc nf:Int) (inn:Bool):Prop where
 kind:k=1\/k=2\/k=3\/k=4
 val:k=1->nc=1/\¬ nf>0/\¬ nl>0
 fn:k=2->¬ nc>0/\¬ nl>0/\nf>0
 data:k=3->¬ nc>0/\¬ nf>0/\0<=p/\p<=8/\lowB nm=true/\nl>0/\nl<=64
 exn:k=4->¬ nc>0/\¬ nf>0/\nl=1
 bare:k≠3->p=0/\nm=[]
 inn:inn=true->k=1\/k=2
theorem QoO{k:Int}{nm:Str}{p nl nc nf:Int}{inn:Bool}(h:wrongDecC k nm p nl nc nf inn=0):DecIs k nm p nl nc nf inn:=by
 unfold wrongDecC at h
 by_cases h1:k=1
 ·subst h1
  simp only[decide_true,cond_true,Int.reduceEq,decide_false,cond_false] at h
  grind [DecIs]
 ·by_cases h2:k=2
  ·subst h2
   simp only[decide_true,cond_true,Int.reduceEq,decide_false,cond_false] at h
   grind [DecIs]
  ·by_cases h3:k=3
   ·subst h3
    simp only[decide_true,cond_true,Int.reduceEq,decide_false,cond_false] at h
    grind [DecIs]
   ·by_cases h4:k=4
    ·subst h4
     simp only[decide_true,cond_true,Int.reduceEq,decide_false,cond_false] at h
     grind [DecIs]
    ·simp only[decide_eq_false h1,decide_eq_false h2,decide_eq_false h3,decide_eq_false h4,cond_false,Bool.not_false,Yx,cond_true] at h
     cases h
theorem QaK{d:Dec}{inn:Bool}(h:wrongDecB d inn=0):DecIs d.kind d.name d.params d.cons.length d.case.length d.funs.length inn:=QoO h
theorem len0{α:Type}{l:List α}(h:¬ ((l.length:Int)>0)):l=[]:=List.eq_nil_of_length_eq_zero (by omega)
end Go.Am
namespace Go.Proofs.YtgfhplcmcdimiaaGreatDoor
open Go Go.Am
def RN(l:List TNode):Prop:=∀ n ∈ l,n.wrong.1=0
theorem RN.l{a b:List TNode}(h:RN (a++b)):RN a:=λn hn=>h n (Yq _ hn)
theorem RN.r{a b:List TNode}(h:RN (a++b)):RN b:=λn hn=>h n (Yp _ hn)
theorem RN.t{x:TNode}{a:List TNode}(h:RN (x::a)):RN a:=λn hn=>h n (Yc _ hn)
theorem RN.exps:∀ {l:List Exp},RN (nodesExps l)->∀ e ∈ l,RN (nodesExp e)
 |x::l,h,e,he=>by
   simp only[nodesExps] at h
   rcases List.mem_cons.1 he with rfl|he
   ·exact h.l
   ·exact h.r.exps e he
theorem RN.cases:∀ {l:List Case},RN (nodesCases l)->∀ e ∈ l,RN (nodesCase e)
 |x::l,h,e,he=>by
   simp only[nodesCases] at h
   rcases List.mem_cons.1 he with rfl|he
   ·exact h.l
   ·exact h.r.cases e he
theorem RN.decs{i:Bool}:∀ {l:List Dec},RN (nodesDecs i l)->∀ e ∈ l,RN (nodesDec i e)
 |x::l,h,e,he=>by
   simp only[nodesDecs] at h
   rcases List.mem_cons.1 he with rfl|he
   ·exact h.l
   ·exact h.r.decs e he
theorem RN.funs:∀ {l:List Fun},RN (nodesFuns l)->∀ e ∈ l,RN (nodesCase e.case)
 |x::l,h,e,he=>by
   simp only[nodesFuns] at h
   rcases List.mem_cons.1 he with rfl|he
   ·cases e;simp only[nodesFun] at h;exact h.l.t
   ·exact h.r.funs e he
end Go.Proofs.YtgfhplcmcdimiaaGreatDoor
namespace Go.Am
open Go
def digT(n:Int):List Str:=bif decide (n<0) then [[126],Go.Lib.itoa (-n)] else [Go.Lib.itoa n]
def digS(n:Int):Str:=bif decide (n<0) then 126::Go.Lib.itoa (-n) else Go.Lib.itoa n
mutual
def patT:Pat->Int->List Str
 |.mk k _ nm n kids _,lv=>
   bif decide (k=2) then [nm]
   else bif decide (k=3) then digT n
   else bif decide (k=4) then (bif decide (kids.length>0) then parT (decide (1<lv)) ([nm]++(patTs kids 2).getD 0 []) else [nm])
   else bif decide (k=5) then [40]::(joinT [44] (patTs kids 0) true++[[41]])
   else bif decide (k=6) then parT (decide (0<lv)) ([nm,[97,115]]++(patTs kids 0).getD 0 [])
   else [[95]]
def patTs:List Pat->Int->List (List Str)
 |[],_=>[]
 |p::l,lv=>patT p lv::patTs l lv
end
def patLv(p:Pat):Int:=bif decide (p.kind=6) then 0 else bif decide (p.kind=4)&&decide (p.kids.length>0) then 1 else 2
mutual
def patS:Pat->Str
 |.mk k _ nm n kids _=>
   bif decide (k=1) then [95]
   else bif decide (k=3) then digS n
   else bif decide (k=6) then nm++([32,97,115,32]++(patSs kids 0).getD 0 [])
   else bif decide (k=5) then 40::(joinS [44,32] (patSs kids 0) true++[41])
   else bif decide (kids.length>0) then nm++(32::(patSs kids 2).getD 0 [])
   else nm
def patSs:List Pat->Int->List Str
 |[],_=>[]
 |p::l,lv=>parS (decide (patLv p<lv)) (patS p)::patSs l lv
end
theorem Q51(lv:Int):∀ l:List Pat,patTs l lv=l.map λp=>patT p lv
 |[]=>rfl
 |p::l=>by simp only[patTs,Yh,Q51 lv l]
theorem Q6N(lv:Int):∀ l:List Pat,patSs l lv=l.map λp=>parS (decide (patLv p<lv)) (patS p)
 |[]=>rfl
 |p::l=>by simp only[patSs,Yh,Q6N lv l]
def levE(e:Exp):Int:=
 bif decide (e.kind=12) || decide (e.kind=5) || decide (e.kind=8) || decide (e.kind=9) then 0
 else bif decide (e.kind=18) then 1 else bif decide (e.kind=11) then 2 else bif decide (e.kind=15) then 3 else bif decide (e.kind=14) then 4
 else bif decide (e.kind=6) || decide (e.kind=16) || decide (e.kind=17) || decide (e.kind=19) then 8
 else bif decide (e.kind=13) then (bif decide (e.n≥6) then 5 else bif decide (e.n<=2) then 6 else 7)
 else bif decide (e.kind=3)&&decide (e.kids.length>0) then 8 else 9
mutual
def openE:Exp->Bool
 |.mk k _ _ _ kids _ _ _ _ _=>
   bif decide (k=5) || decide (k=9) || decide (k=11) then true
   else bif decide (k=12) || decide (k=8) then (openEs kids).getLastD false
   else bif decide (k=18) then decide ((kids.map levE).getD 1 0>0)&&(openEs kids).getD 1 false
   else false
def openEs:List Exp->List Bool
 |[]=>[]
 |e::l=>openE e::openEs l
end
def opN(n:Int):Str:=[[],[43],[45],[42],[100,105,118],[109,111,100],[61],[60,62],[60],[60,61]].getD n.toNat []
def bareE(e:Exp):Bool:=decide (e.kind=3)&&(decide (e.kids.length=0) && !decide (e.name=[40,41]))
def caseT:List (List Str × List Str × Bool)->Bool->List (List Str)
 |[],_=>[]
 |(p,e,o)::r,f=>(p++([[61,62]]++parT (!r.isEmpty&&o) e))::caseT r false
def conT(c:Con):List Str:=bif c.has then [c.name,[111,102]]++typT c.arg 0 else [c.name]
def varT(i:Nat):Str:=39::letT (i:Int)
def parmT(n:Int):List Str:=bif decide (n>0) then parT (decide (n>1)) (joinT [44] ((List.range n.toNat).map λi=>[varT i]) true) else []
def atT(l:List (List Str × Int))(i:Nat)(lv:Int):List Str:=parT (decide ((l.getD i ([],9)).2<lv)) (l.getD i ([],9)).1
mutual
def expT:Exp->List Str
 |.mk k _ nm n kids _ cases _ decs _=>
   bif decide (k=1) then digT n
   else bif decide (k=2) then [nm]
   else bif decide (k=3) then (bif decide (kids.length>0) then [nm]++atT (expTs kids) 0 9 else [nm])
   else bif decide (k=4) then [40]::(joinT [44] ((expTs kids).map (·.1)) true++[[41]])
   else bif decide (k=10) then [40]::(joinT [59] ((expTs kids).map (·.1)) true++[[41]])
   else bif decide (k=5) then [[102,110]]++joinT [124] (caseT (caseTs cases) true) true
   else bif decide (k=6) then parT (bareE (kids.headD (.mk 0 0 [] 0 [] true [] true [] true))) (atT (expTs kids) 0 8)++atT (expTs kids) 1 9
   else bif decide (k=7) then [[108,101,116]]++((decTs decs).flatten++([[105,110]]++(((expTs kids).getD 0 ([],9)).1++[[101,110,100]])))
   else bif decide (k=8) then [[105,102]]++(((expTs kids).getD 0 ([],9)).1++([[116,104,101,110]]++(((expTs kids).getD 1 ([],9)).1++([[101,108,115,101]]++((expTs kids).getD 2 ([],9)).1))))
   else bif decide (k=9) then [[99,97,115,101]]++(((expTs kids).getD 0 ([],9)).1++([[111,102]]++joinT [124] (caseT (caseTs cases) true) true))
   else bif decide (k=12) then [[114,97,105,115,101]]++((expTs kids).getD 0 ([],9)).1
   else bif decide (k=11) then atT (expTs kids) 0 3++([[104,97,110,100,108,101]]++joinT [124] (caseT (caseTs cases) true) true)
   else bif decide (k=18) then parT (decide ((kids.headD (.mk 0 0 [] 0 [] true [] true [] true)).kind=11)) (atT (expTs kids) 0 2)++([[58,61]]++atT (expTs kids) 1 1)
   else bif decide (k=15) then atT (expTs kids) 0 4++([[111,114,101,108,115,101]]++atT (expTs kids) 1 3)
   else bif decide (k=14) then atT (expTs kids) 0 5++([[97,110,100,97,108,115,111]]++atT (expTs kids) 1 4)
   else bif decide (k=13) then (bif decide (n≥6) then atT (expTs kids) 0 6++([opN n]++atT (expTs kids) 1 6)
    else bif decide (n<=2) then atT (expTs kids) 0 6++([opN n]++atT (expTs kids) 1 7) else atT (expTs kids) 0 7++([opN n]++atT (expTs kids) 1 8))
   else bif decide (k=16) then [[114,101,102]]++atT (expTs kids) 0 9
   else bif decide (k=17) then [[33]]++atT (expTs kids) 0 9
   else bif decide (k=19) then [[112,114,105,110,116]]++atT (expTs kids) 0 9
   else [[114,101,97,100],[40],[41]]
def expTs:List Exp->List (List Str × Int)
 |[]=>[]
 |e::l=>(expT e,levE e)::expTs l
def caseTs:List Case->List (List Str × List Str × Bool)
 |[]=>[]
 |c::l=>caseT1 c::caseTs l
def caseT1:Case->List Str × List Str × Bool
 |.mk p e=>(patT p 0,expT e,openE e)
def decT:Dec->List Str
 |.mk k _ nm params cons _ cases _ funs _=>
   bif decide (k=1) then [[118,97,108]]++(((caseTs cases).headD ([],[],false)).1++([[61]]++((caseTs cases).headD ([],[],false)).2.1))
   else bif decide (k=2) then [[102,117,110]]++joinT [97,110,100] (funTs funs) true
   else bif decide (k=4) then [[101,120,99,101,112,116,105,111,110]]++(cons.map conT).headD []
   else [[100,97,116,97,116,121,112,101]]++(parmT params++([nm,[61]]++joinT [124] (cons.map conT) true))
def decTs:List Dec->List (List Str)
 |[]=>[]
 |d::l=>decT d::decTs l
def funTs:List Fun->List (List Str)
 |[]=>[]
 |f::l=>funT1 f::funTs l
def funT1:Fun->List Str
 |.mk nm _ c=>funC nm c
def funC(nm:Str):Case->List Str
 |.mk p e=>[nm]++(patT p 2++([[61]]++expT e))
end
end Go.Am