/- A part of the proof: SLex4, SShow5, SShow6, SSch1, SSch2, SSch3, SSch4, SRef1, PTree2, SRef2, SRef5, SRef8, SRefT1, SRef10c, SArr. -/
import Derived.Test.YtobelgghegmhhaaGreatDoorM6
import Derived.Test.YtobelgghegmhhaaGreatDoorM7
import Derived.Test.YtobelgghegmhhaaGreatDoorM8
import Derived.Test.YtobelgghegmhhaaGreatDoorM9
import Derived.Test.YtobelgghegmhhaaGreatDoorM10
import Derived.Lib.IndexMore
set_option linter.unusedVariables false
set_option linter.unusedSimpArgs false
open Bool renaming and_eq_true→Ya
open List renaming mem_cons_of_mem→Yb,mem_cons_self→Yc,length_append→Ye,length_cons→Yg,length_map→Yh,map_cons→Yi,length_singleton→Yj,cons_append→Yk,map_nil→Yn,nil_append→Yo,length_nil→Yp,append_assoc→Yr
open Nat renaming le_refl→Yd
namespace Go.Proofs.YtobelgghegmhhaaGreatDoor
open Go Go.Am
set_option maxRecDepth 4000
theorem LTok.cells_mk(k p:Int)(t:Str)(n:Int):(LTok.mk k p t n).cells=[.int .i64 k,.int .i64 p,.str t,.int .i64 n]:=rfl
theorem tokAcc{s0 s:St}{x:Slot}{A:List LTok}{b:LTok}(a:AccR Qg s0 s x (A.map LTok.enc))(b1:A.length<2^29) :
  ∃ x' s',appendS Qg (C.ti Qg) s x (.full [b.enc])=some (x',s')/\AccR Qg s0 s' x' ((A++[b]).map LTok.enc):=
 AccR.appendF (B:=[b]) a rfl (λa=>by rw[Q8c];exact LTok.cells_len a) (by rw[Q8c];decide) (by simp;omega) (by rw[QcW];decide)
theorem Q5t(acc:List LTok)(x:Slot)(s0 s:St)(a:AccR Qg s0 s x (acc.map LTok.enc))(k p:Int) :
  ∃ nl s',Q0n [.val (.int .i64 0),.val (.int .i64 0),.val (.str [])] x [.val (.int .i64 k),.val (.int .i64 p),.val (.str [])] s=some (.ret (.val (.tup [encS nl ((bif decide (k=0) then acc else []).map LTok.enc),badEnc k p])),s')/\Grew s0 s':=by
 rw[Q9v]
 obtain⟨nl,hx⟩:=a.av
 simp only[go_sem,Int.reduceLT,Int.reduceNeg,Nat.reduceAdd,Nat.reduceLeDiff]
 cases decide (k=0)
 ·simp only[go_sem,Int.reduceNeg]
  exact⟨true,s,rfl,a.grew⟩
 ·simp only[go_sem,Qa2 hx]
  exact⟨nl,s,rfl,a.grew⟩
theorem QeB{acc:List LTok}{x:Slot}(h:x.list? = some (acc.map LTok.enc))(h0:0<acc.length):ixS 4 x (.val (.int .i64 ((acc.length:Int) - 1)))=some (.val (.cp (acc.getLastD .zero).cells)):=by
 have hne:acc≠[]:=List.length_pos_iff.1 h0
 have e:(acc.length:Int) - 1=((acc.length - 1:Nat):Int):=by omega
 rw[e]
 have hg:acc[acc.length - 1]? = some (acc.getLastD .zero):=by
  rw[<-List.getLast?_eq_getElem?,List.getLast?_eq_some_getLast hne,List.getLastD_eq_getLast?,List.getLast?_eq_some_getLast hne]
  rfl
 exact Q2M (v:=LTok.enc (acc.getLastD .zero)) h (by rw[List.getElem?_map,hg];rfl) (LTok.cells_len _) (by decide)
theorem QfW(L:Str)(hl:L.length<=65536)(s0:St):∀ (fuel:Nat) (suf pre:Str) (acc:List LTok) (x:Slot) (s:St) (i:Nat),suf.length<fuel->pre++suf=L->i=pre.length->AccR Qg s0 s x (acc.map LTok.enc)->acc.length<=pre.length->
  ∃ nl s',Q0o (.val (.str L)) [.val (.int .i64 0),.val (.int .i64 0),.val (.str [])] x [.val (.int .i64 0),.val (.int .i64 0),.val (.str [])] (.val (.int .i64 (i:Int))) s =
    some (.ret (.val (.tup [encS nl ((scanF fuel i suf acc).1.map LTok.enc),badEnc (scanF fuel i suf acc).2.1 (scanF fuel i suf acc).2.2])),s')/\Grew s0 s':=by
 intro fuel
 induction fuel with
 |zero=>intro suf pre acc x s i h;omega
 |succ n ih=>
   intro suf pre acc x s i hf h hi a hacc
   subst hi
   have hL:pre.length+suf.length=L.length:=by rw[<-h];simp
   rw[Q9w]
   match suf,hf,h,hL with
   |[],_,h,hL=>
     have hb:decide ((pre.length:Int)<(L.length:Int))=false:=by simp;simp at hL;omega
     simp only[go_sem,Nat.reduceAdd,Nat.reduceLeDiff,hb]
     exact Q5t acc x s0 s a 0 0
   |c::r,hf,h,hL=>
     simp only[Yg] at hL hf
     have hc:L[pre.length]? = some c:=by rw[<-h];simp
     have hb:decide ((pre.length:Int)<(L.length:Int))=true:=by simp;omega
     have hfrom:=Q7r (t:=C.ti Q0) Qi (l:=L) (i:=pre.length) (by omega)
     have hdrop:L.drop pre.length=c::r:=by rw[<-h];simp
     rw[hdrop] at hfrom
     have hpre:=Q9q (c::r) [40,42] s
     have hop:(decide (([40,42]:Str).length<=(c::r).length)&&decide ((c::r).take ([40,42]:Str).length=[40,42]))=lxOpens (c::r):=by
      cases r with
      |nil=>rfl
      |cons b r=>simp[lxOpens,Bool.decide_and]
     rw[hop] at hpre
     have hrem:=Q8A pre (c::r) (by rw[h];omega) s
     rw[h] at hrem
     simp only[go_sem,Int.reduceNeg,Nat.reduceAdd,Nat.reduceLeDiff,hb,Q0Q Qi hc,Q9t,Qgz,hfrom,hpre,hrem,a.list?]
     unfold scanF
     cases hbl:blankC c
     ·simp only[go_sem,Int.reduceNeg]
      cases hop2:lxOpens (c::r)
      ·simp only[go_sem,Int.reduceNeg]
       cases hge:decide (acc.length≥16384)
       ·have hge':decide ((acc.length:Int)≥16384)=false:=by simp at hge |-;omega
        have hone:=Qca (c::r) (tildeL acc) (by simp) (by simp;omega) s
        have hp:=Qhb (c::r) (tildeL acc) (by simp)
        simp only[go_sem,hge']
        rcases Nat.eq_zero_or_pos acc.length with h0|h0
        case' inl=>
         have hz:decide ((acc.length:Int)>0)=false:=by simp[h0]
         have ht:tildeL acc=false:=by unfold tildeL;rw[decide_eq_false (by omega)];rfl
         rw[ht] at hone hp |-
         simp only[go_sem,Nat.reduceAdd,Nat.reduceLeDiff,hz,hone]
         generalize oneA (c::r) false=z at hp
        case' inr=>
         have hz:decide ((acc.length:Int)>0)=true:=by simp;omega
         have ht:tildeL acc=decide ((acc.getLastD .zero).text=[126]):=by unfold tildeL;rw[decide_eq_true h0];rfl
         rw[ht] at hone hp |-
         simp only[go_sem,hz]
         rw[wrap64 (by omega) (by omega),QeB a.list? h0]
         simp only[go_sem,Nat.reduceAdd,Nat.reduceLeDiff,hone,LTok.cells]
         generalize oneA (c::r) (decide ((acc.getLastD .zero).text=[126]))=z at hp
        all_goals
         obtain⟨e,k,p,t,m⟩:=z
         simp only[go_sem,LTok.cells_mk]
         cases he:decide (e=0)
         ·simp only[go_sem,Nat.reduceAdd,Nat.reduceLeDiff,LTok.enc,LTok.cells_mk]
          have:=Q5t acc x s0 s a e pre.length
          rw[he] at this
          exact this
         ·obtain⟨hp1,hp2,hp3⟩:=hp (of_decide_eq_true he)
          simp only at hp1 hp2 hp3
          obtain⟨x',s',ha,a'⟩:=tokAcc (b:=⟨k,pre.length,t,m⟩) a (by omega)
          have ht1:=hp1.length_le
          have ht0:0<t.length:=List.length_pos_iff.2 hp2
          simp only[Yg] at ht1
          simp only[LTok.enc,LTok.cells_mk] at ha
          simp only[go_sem,Nat.reduceAdd,Nat.reduceLeDiff,LTok.enc,LTok.cells_mk,ha]
          rw[wrap64 (by omega) (by omega)]
          exact ih ((c::r).drop t.length) (pre++(c::r).take t.length) _ x' s' (pre.length+t.length) (by simp;omega) (by rw[Yr,List.take_append_drop,h]) (by simp;omega) a' (by simp;omega)
       ·have hge':decide ((acc.length:Int)≥16384)=true:=by simp at hge |-;omega
        simp only[go_sem,hge']
        exact Q5t acc x s0 s a 4 pre.length
      ·simp only[go_sem,Int.reduceNeg]
       cases hcom:lxCom 0 (c::r) with
       |none=>
         simp only[go_sem,Int.reduceLT,Int.reduceNeg,Nat.reduceAdd,Nat.reduceLeDiff]
         exact Q5t acc x s0 s a 12 pre.length
       |some k=>
         have hk:=Q8n _ _ _ hcom
         simp only[Yg] at hk
         have hneg:decide (((pre.length+k:Nat):Int)<0)=false:=by simp;omega
         simp only[go_sem,hneg]
         exact ih ((c::r).drop k) (pre++(c::r).take k) acc x s (pre.length+k) (by simp;omega) (by rw[Yr,List.take_append_drop,h]) (by simp;omega) a (by simp;omega)
     ·simp only[go_sem,Int.reduceNeg]
      rw[wrap64 (by omega) (by omega)]
      exact ih r (pre++[c]) acc x s (pre.length+1) (by omega) (by simp[h]) (by simp) a (by simp;omega)
theorem QaR(L:Str)(hl:L.length<2^60)(s:St):∃ nl s',cw (.f Q2a) [.str L] s=some (.ret (.val (.tup [encS nl ((lxScan L).1.map LTok.enc),badEnc (lxScan L).2.1 (lxScan L).2.2])),s')/\Grew s s':=by
 rw[Qdf]
 unfold lxScan
 simp only[go_sem,Int.reduceLT,Int.reduceNeg,Nat.reduceAdd,Nat.reduceLeDiff]
 cases hb:decide ((L.length:Int)>65536)
 ·simp only[go_sem,Int.reduceNeg]
  exact QfW L (by simp at hb;omega) s (L.length+1) L [] [] (.val .nils) s 0 (by omega) rfl rfl (AccR.nil _ _) (by simp)
 ·simp only[go_sem,Int.reduceNeg]
  exact⟨true,s,rfl,.refl s⟩
open Go Go.Am
set_option maxRecDepth 4000
section
variable (L:Nat)
def AtL(m:Int)(s:St):Prop:=s.locs[L]? = some (.var [.val (.int .i64 m)])
def ToldOK(t:Ty):Prop:=∀ m s,AtL L m s->0<=m->m<2^40->∃ s' m' b,cw (.f Q10) [t.enc,.vp L 0] s=some (.ret (.val (.bool b)),s')/\(b=true↔(t.size:Int)<=m/\allTy tellB t=true)/\AtL L m' s'/\Moves [L] [] [] s s'/\(b=true->m'=m - t.size)/\-1<=m'/\m'<=m
theorem QaI(l:List Ty)(x:Slot)(hx:x.list? = some (l.map Ty.enc))(hl:l.length<2^40):∀ (suf pre:List Ty) (m:Int) (s:St) (i:Nat),pre++suf=l->i=pre.length->(∀ t ∈ suf,ToldOK L t)->AtL L m s->0<=m->m<2^40->
  ∃ s' m' r,Qs x (.val (.fn Q01 [.cp [.vp L 0]])) (.val (.int .i64 l.length)) (.val (.int .i64 i)) s=some (.ret (.val (.int .i64 r)),s')/\(r<0↔(Ty.sizes suf:Int)<=m/\allTys tellB suf=true)/\AtL L m' s'/\Moves [L] [] [] s s'/\(r<0->m'=m - Ty.sizes suf)/\-1<=m'/\m'<=m
 |[],pre,m,s,i,h,hi,H,hL,h0,h1=>by
   subst hi
   refine⟨s,m,-1,?_,?_,hL,.refl _ _ _,by simp[Ty.sizes],by omega,Int.le_refl _⟩
   ·rw[Qt];simp only[go_sem,Int.reduceNeg,Ql (by simpa using h)]
   ·simp[Ty.sizes,allTys,h0]
 |t::suf,pre,m,s,i,h,hi,H,hL,h0,h1=>by
   subst hi
   obtain⟨f1,f2,f3⟩:=Qh hx h (by omega) (Ty.cells_len t) (by decide)
   obtain⟨s1,m1,b,e1,d1,l1,v1,q1,b1,b1'⟩:=H t Yc m s hL h0 h1
   have e2:cw (.f Q01) [t.enc,.cp [.vp L 0]] s=some (.ret (.val (.bool (!b))),s1):=by
    rw[Q9O]
    simp only[go_sem,Nat.reduceAdd,Nat.reduceLeDiff,e1]
   rw[Qt]
   simp only[go_sem,Int.reduceNeg,Nat.reduceLeDiff,f1,f2,f3,e2]
   have hsz:Ty.sizes (t::suf)=t.size+Ty.sizes suf:=rfl
   have hall:allTys tellB (t::suf)=(allTy tellB t&&allTys tellB suf):=rfl
   cases b with
   |true=>
     have hm1:=q1 rfl
     have hd:=d1.1 rfl
     obtain⟨s2,m2,r,e3,d3,l3,v3,q3,b3,b3'⟩:=QaI l x hx hl suf (pre++[t]) m1 s1 (pre.length+1) (by simpa using h) (by simp) (λw hw=>H w (Yb _ hw)) l1 (by omega) (by omega)
     refine⟨s2,m2,r,by simp only[go_sem,e3],?_,l3,v1.trans v3,λhr=>by rw[q3 hr,hm1,hsz];omega,b3,by omega⟩
     rw[d3,hsz,hall,hd.2,Bool.true_and,hm1]
     constructor<;>rintro⟨g1,g2⟩<;>exact⟨by omega,g2⟩
   |false=>
     refine⟨s1,m1,pre.length,by simp only[go_sem],?_,l1,v1,λhr=>by omega,b1,b1'⟩
     constructor
     ·intro hr;omega
     ·rintro⟨h2,h3⟩
      rw[hall,Ya] at h3
      exact absurd (d1.2 ⟨by omega,h3.1⟩) (by simp)
theorem QiB(t:Ty)(HV:∀ u ∈ t.args,ToldOK L u)(hl:t.args.length<2^40)(ok:Bool)(m:Int)(s:St)(hL:AtL L m s)(h0:0<=m)(h1:m<2^40) :
  ∃ s' m' b,Z4 (t.cells.map .val) (.val (.cp [.vp L 0])) (.val (.bool ok)) s=some (.ret (.val (.bool b)),s')/\(b=true↔ok=true/\(Ty.sizes t.args:Int)<=m/\allTys tellB t.args=true)/\AtL L m' s'/\Moves [L] [] [] s s'/\(b=true->m'=m - Ty.sizes t.args)/\-1<=m'/\m'<=m:=by
 have c:=Ty.cells_eq t
 rw[Q8Y]
 cases ok with
 |false=>
   simp only[go_sem,Int.reduceNeg,Nat.reduceAdd,Nat.reduceLeDiff,c]
   exact⟨s,m,false,rfl,by simp,hL,.refl _ _ _,by simp,by omega,by omega⟩
 |true=>
   obtain⟨s2,m2,r,e3,d3,l3,v3,q3,b3,b3'⟩:=QaI L t.args (.val (encS t.nl (t.args.map Ty.enc))) (Qe _ _) hl t.args [] m s 0 rfl rfl HV hL h0 h1
   have e4:cw (.f Qn) [encS t.nl (t.args.map Ty.enc),.fn Q01 [.cp [.vp L 0]]] s=some (.ret (.val (.bool (decide (r≥0)))),s2):=by
    rw[Zc]
    have:cw (.f QK) [encS t.nl (t.args.map Ty.enc),.fn Q01 [.cp [.vp L 0]]] s=some (.ret (.val (.int .i64 r)),s2):=by
     rw[ZE];simp only[go_sem]
     exact e3
    simp only[go_sem,this]
   refine⟨s2,m2,!decide (r≥0),by simp only[go_sem,Nat.reduceAdd,Nat.reduceLeDiff,c,e4],?_,l3,v3,λhr=>?_,b3,b3'⟩
   ·simp only[Bool.not_eq_true',decide_eq_false_iff_not,true_and]
    rw[<-d3];omega
   ·simp only[Bool.not_eq_true',decide_eq_false_iff_not] at hr
    exact q3 (by omega)
def tellJ(four:Bool)(nm:Str)(len:Nat):Bool:=
 bif four then decide (len=0)
 else bif decide (nm=[114,101,102]) then decide (len=1)
 else bif decide (nm=[45,62]) then decide (len=2)
 else bif decide (nm=[42]) then decide (2<=len)&&decide (len<=8)
 else tokB nm&&decide (len<=8)
theorem Q6R(n m:Nat):decide ((n:Int)=(m:Int))=decide (n=m):=by
 by_cases h:n=m
 ·subst h;simp
 ·rw[decide_eq_false h,decide_eq_false (by omega)]
theorem QiA(t:Ty)(hn:t.name.length<2^60)(four:Bool)(s:St):∃ s',Grew s s'/\Zp (t.cells.map .val) (.val (.cp [.vp L 0])) (.val (.int .i64 t.args.length)) (.val (.str t.name)) (.val (.bool four)) s=Z4 (t.cells.map .val) (.val (.cp [.vp L 0])) (.val (.bool (tellJ four t.name t.args.length))) s':=by
 have c:=Ty.cells_eq t
 have k0:=Q6R t.args.length 0
 have k1:=Q6R t.args.length 1
 have k2:=Q6R t.args.length 2
 have k3:decide ((t.args.length:Int)≥2)=decide (2<=t.args.length):=by
  by_cases h:2<=t.args.length
  ·rw[decide_eq_true h,decide_eq_true (by omega)]
  ·rw[decide_eq_false h,decide_eq_false (by omega)]
 have k4:decide ((t.args.length:Int)<=8)=decide (t.args.length<=8):=by
  by_cases h:t.args.length<=8
  ·rw[decide_eq_true h,decide_eq_true (by omega)]
  ·rw[decide_eq_false h,decide_eq_false (by omega)]
 rw[show ((0:Nat):Int)=0 from rfl] at k0
 rw[show ((1:Nat):Int)=1 from rfl] at k1
 rw[show ((2:Nat):Int)=2 from rfl] at k2
 rw[Q8X]
 unfold tellJ
 cases four with
 |true=>simp only[go_sem,k0];exact⟨s,.refl s,rfl⟩
 |false=>
   cases h1:decide (t.name=[114,101,102]) with
   |true=>simp only[go_sem,h1,k1];exact⟨s,.refl s,rfl⟩
   |false=>
     cases h2:decide (t.name=[45,62]) with
     |true=>simp only[go_sem,h1,h2,k2];exact⟨s,.refl s,rfl⟩
     |false=>
       cases h3:decide (t.name=[42]) with
       |true=>simp only[go_sem,h1,h2,h3,k3,k4];exact⟨s,.refl s,rfl⟩
       |false=>
         obtain⟨nl,s',e1,g1⟩:=QaR t.name hn s
         simp only[go_sem,Nat.reduceAdd,Nat.reduceLeDiff,h1,h2,h3,c,e1,badEnc]
         refine⟨s',g1,?_⟩
         cases hb:decide ((lxScan t.name).2.1=0) with
         |false=>
           have hT:tokB t.name=false:=by unfold tokB;rw[hb];rfl
           simp only[go_sem,hb,hT]
         |true=>
           have z0:decide (((0:Nat):Int)=1)=false:=rfl
           rcases hq:(lxScan t.name).1 with _|⟨tk,r⟩
           ·have hT:tokB t.name=false:=by unfold tokB;rw[hq];simp
            simp only[go_sem,hb,hq,Yn,Yp,z0,hT]
           ·cases r with
            |cons u r=>
              have hT:tokB t.name=false:=by unfold tokB;rw[hq];simp
              have z1:decide (((r.length+1+1:Nat):Int)=1)=false:=by simp;omega
              simp only[go_sem,hb,hq,Yi,Yg,Yh,z1,hT]
            |nil=>
              obtain⟨tk,tp,tx,tn⟩:=tk
              have hT:tokB t.name=(decide (tk=2)&&decide (tx=t.name)):=by unfold tokB;rw[hb,hq];rfl
              have z2:decide (((0+1:Nat):Int)=1)=true:=rfl
              have f0:ixS 4 (.val (.sl [LTok.enc ⟨tk,tp,tx,tn⟩])) (.val (.int .i64 0))=some (.val (.cp [.int .i64 tk,.int .i64 tp,.str tx,.int .i64 tn])):=by
               have:=Q2M (x:=.val (.sl [LTok.enc ⟨tk,tp,tx,tn⟩])) (k:=.i64) (n:=0) (sz:=4) (l:=[LTok.enc ⟨tk,tp,tx,tn⟩]) rfl rfl (LTok.cells_len _) (by decide)
               exact this
              rw[hT]
              simp only[go_sem,Nat.reduceAdd,hb,hq,Yi,Yn,Yg,Yp,z2,f0]
              cases hk:decide (tk=2) with
              |false=>simp only[go_sem,hk]
              |true=>
                cases ht:decide (tx=t.name) with
                |false=>simp only[go_sem,hk,ht]
                |true=>simp only[go_sem,hk,ht,k4]
theorem QaJ:∀ (k:Nat) (t:Ty),t.size<=k->t.size<2^40->NamesTy t->ToldOK L t
 |0,t,h,_,_=>by cases t;simp only[Ty.size] at h;omega
 |k+1,t,h,h',hn=>λm s hL h0 h1=>by
   have hsz:Ty.sizes t.args+1=t.size:=by cases t;simp only[Ty.size,Ty.args]
   have hl:=Ty.len_sizes t.args
   have hnm:t.name.length<2^40:=by cases t;exact hn.name
   have HV:∀ u ∈ t.args,ToldOK L u:=λu hu=>by
    cases t with
    |mk kd n nm l nl=>
      have h2:=Ty.mem_sizes hu
      simp only[Ty.args] at hsz hu h2
      exact QaJ k u (by omega) (by omega) (hn.arg hu)
   have hall:allTy tellB t=(tellB t&&allTys tellB t.args):=by cases t;rfl
   have hL':AtL L (m - 1) { s with locs:=s.locs.set L (.var [.val (.int .i64 (m - 1))]) }:=Q1L hL
   have hM':Moves [L] [] [] s { s with locs:=s.locs.set L (.var [.val (.int .i64 (m - 1))]) }:=(Moves.refl _ _ _).setLoc (.inl (by simp)) _
   have w1:IntKind.i64.wrap (m - 1)=m - 1:=wrap64 (by omega) (by omega)
   have hst:=Q2B (c:=[.val (.int .i64 (m - 1))]) hL (off:=0) (by simp)
   simp only[go_sem,Nat.reduceAdd] at hst
   have c:=Ty.cells_eq t
   have j0:=λfour=>QiA L t (by omega) four { s with locs:=s.locs.set L (.var [.val (.int .i64 (m - 1))]) }
   have d0:=Q6R t.args.length 0
   rw[show ((0:Nat):Int)=0 from rfl] at d0
   rw[QcE]
   rw[c] at j0
   simp only[go_sem,Int.reduceNeg,Nat.reduceAdd,Nat.reduceLeDiff,c,QS hL,w1,hst,QS hL']
   by_cases hm:m - 1<0
   ·rw[decide_eq_true hm]
    refine⟨_,m - 1,false,by simp only[go_sem],?_,hL',hM',by simp,by omega,by omega⟩
    constructor
    ·intro h;cases h
    ·rintro⟨g1,_⟩;omega
   ·rw[decide_eq_false hm]
    have dm:∀ {x:Int},-1<=x->x<=m - 1->-1<=x/\x<=m:=λh1 h2=>⟨h1,by omega⟩
    cases hk:decide (t.kind=1) with
    |true=>
      have hB:tellB t=(decide (t.n≥0)&&(decide (t.n<=1000)&&(decide (t.name=[])&&decide (t.args.length=0)))):=by unfold tellB;rw[hk];rfl
      have hz:tellB t=true->t.args=[]:=λh=>by
       rw[hB] at h
       simp only[Ya,decide_eq_true_eq] at h
       exact List.eq_nil_of_length_eq_zero h.2.2.2
      have hs1:tellB t=true->t.size=1:=λh=>by rw[<-hsz,hz h];rfl
      refine⟨_,m - 1,tellB t,?_,?_,hL',hM',λh=>by rw[hs1 h];rfl,by omega,by omega⟩
      ·rw[hB]
       cases h1:decide (t.n≥0) with
       |false=>simp only[go_sem,hk,h1]
       |true=>
         cases h2:decide (t.n<=1000) with
         |false=>simp only[go_sem,hk,h1,h2]
         |true=>
           cases h3:decide (t.name=[]) with
           |false=>simp only[go_sem,hk,h1,h2,h3]
           |true=>simp only[go_sem,hk,h1,h2,h3,d0]
      ·rw[hall]
       constructor
       ·intro h
        refine⟨by rw[hs1 h];omega,?_⟩
        rw[h,hz h];rfl
       ·rintro⟨_,g2⟩
        simp only[Ya] at g2
        exact g2.1
    |false=>
      have hB:tellB t=bif !decide (t.kind=2) || !decide (t.n=0) then false else tellN t.name t.args.length:=by unfold tellB;rw[hk];rfl
      cases h2:decide (t.kind=2) with
      |false=>
        have hF:tellB t=false:=by rw[hB,h2];rfl
        refine⟨_,m - 1,false,by simp only[go_sem,hk,h2],?_,hL',hM',by simp,by omega,by omega⟩
        rw[hall,hF];simp
      |true=>
        cases h3:decide (t.n=0) with
        |false=>
          have hF:tellB t=false:=by rw[hB,h2,h3];rfl
          refine⟨_,m - 1,false,by simp only[go_sem,hk,h2,h3],?_,hL',hM',by simp,by omega,by omega⟩
          rw[hall,hF];simp
        |true=>
          have hT:∀ four,tellN t.name t.args.length=tellJ four t.name t.args.length->∀ s',Grew { s with locs:=s.locs.set L (.var [.val (.int .i64 (m - 1))]) } s'->∃ s2 m' b,Z4 (t.cells.map .val) (.val (.cp [.vp L 0])) (.val (.bool (tellJ four t.name t.args.length))) s'=some (.ret (.val (.bool b)),s2)/\(b=true↔(t.size:Int)<=m/\allTy tellB t=true)/\AtL L m' s2/\Moves [L] [] [] s s2/\(b=true->m'=m - t.size)/\-1<=m'/\m'<=m:=λfour hf s' g=>by
           obtain⟨s2,m2,b,e2,d2,l2,v2,q2,b2,b2'⟩:=QiB L t HV (by omega) (tellJ four t.name t.args.length) (m - 1) s' (g.loc hL') (by omega) (by omega)
           refine⟨s2,m2,b,e2,?_,l2,(hM'.trans (.grew _ _ g)).trans v2,λh=>by rw[q2 h];omega,b2,by omega⟩
           rw[d2,hall,hB,h2,h3,<-hf]
           simp only[Bool.not_true,Bool.or_self,cond_false,Ya]
           constructor
           ·rintro⟨x1,x2,x3⟩;exact⟨by omega,x1,x3⟩
           ·rintro⟨x1,x2,x3⟩;exact⟨x2,by omega,x3⟩
          rw[c] at hT
          have fin:∀ four,tellN t.name t.args.length=tellJ four t.name t.args.length->∃ s2 m' b,Zp ([AV.int .i64 t.kind,.int .i64 t.n,.str t.name,encS t.nl (t.args.map Ty.enc)].map .val) (.val (.cp [.vp L 0])) (.val (.int .i64 t.args.length)) (.val (.str t.name)) (.val (.bool four)) { s with locs:=s.locs.set L (.var [.val (.int .i64 (m - 1))]) }=some (.ret (.val (.bool b)),s2)/\(b=true↔(t.size:Int)<=m/\allTy tellB t=true)/\AtL L m' s2/\Moves [L] [] [] s s2/\(b=true->m'=m - t.size)/\-1<=m'/\m'<=m:=λfour hf=>by
           obtain⟨s',g,e⟩:=j0 four
           rw[e]
           exact hT four hf s' g
          unfold tellN at fin
          cases n1:decide (t.name=[105,110,116]) with
          |true=>
            obtain⟨s2,m2,b,e2,r⟩:=fin true (by rw[n1];rfl)
            exact⟨s2,m2,b,by simp only[go_sem,hk,h2,h3,n1] at e2 |-;exact e2,r⟩
          |false=>
            cases n2:decide (t.name=[98,111,111,108]) with
            |true=>
              obtain⟨s2,m2,b,e2,r⟩:=fin true (by rw[n1,n2];rfl)
              exact⟨s2,m2,b,by simp only[go_sem,hk,h2,h3,n1,n2] at e2 |-;exact e2,r⟩
            |false=>
              cases n3:decide (t.name=[117,110,105,116]) with
              |true=>
                obtain⟨s2,m2,b,e2,r⟩:=fin true (by rw[n1,n2,n3];rfl)
                exact⟨s2,m2,b,by simp only[go_sem,hk,h2,h3,n1,n2,n3] at e2 |-;exact e2,r⟩
              |false=>
                obtain⟨s2,m2,b,e2,r⟩:=fin (decide (t.name=[101,120,110])) (by rw[n1,n2,n3];rfl)
                exact⟨s2,m2,b,by simp only[go_sem,hk,h2,h3,n1,n2,n3] at e2 |-;exact e2,r⟩
end
end Go.Proofs.YtobelgghegmhhaaGreatDoor
namespace Go.Am
open Go
theorem Q6f{sign:Str}{x:Str}:∀ {L:List (List Str)} {f:Bool},x ∈ joinT sign L f->x=sign\/∃ l ∈ L,x ∈ l
 |[],_,h=>by simp[joinT] at h
 |l::r,f,h=>by
   simp only[joinT,List.mem_append] at h
   rcases h with h|h
   ·cases f
    ·simp only[cond_false,List.mem_cons] at h
     rcases h with h|h
     ·exact .inl h
     ·exact .inr ⟨l,Yc,h⟩
    ·exact .inr ⟨l,Yc,h⟩
   ·rcases Q6f h with h|⟨m,h1,h2⟩
    ·exact .inl h
    ·exact .inr ⟨m,Yb _ h1,h2⟩
theorem Qcs{b:Bool}{l:List Str}{x:Str}(h:x ∈ parT b l):x.length<=1\/x ∈ l:=by
 cases b
 ·exact .inr h
 ·simp only[parT,cond_true,List.mem_cons,List.mem_append,List.not_mem_nil,or_false] at h
  rcases h with rfl|h|rfl
  ·exact .inl (by simp)
  ·exact .inr h
  ·exact .inl (by simp)
theorem Q7H{L:List (List Str)}{i:Nat}{x:Str}(h:x ∈ L.getD i []):∃ l ∈ L,x ∈ l:=by
 rw[List.getD_eq_getElem?_getD] at h
 cases hl:L[i]? with
 |none=>rw[hl] at h;simp at h
 |some l=>rw[hl] at h;exact⟨l,List.mem_of_getElem? hl,h⟩
theorem Qhx{nm:Str}(h:tokB nm=true):nm.length<=65536:=by
 unfold tokB lxScan at h
 by_cases hl:(nm.length:Int)>65536
 ·rw[decide_eq_true hl] at h
  simp at h
 ·omega
theorem Qgb{nm:Str}{len:Nat}(h:tellN nm len=true):nm.length<=65536:=by
 unfold tellN at h
 cases h1:decide (nm=[105,110,116]) with
 |true=>rw[of_decide_eq_true h1];simp
 |false=>
   cases h2:decide (nm=[98,111,111,108]) with
   |true=>rw[of_decide_eq_true h2];simp
   |false=>
     cases h3:decide (nm=[117,110,105,116]) with
     |true=>rw[of_decide_eq_true h3];simp
     |false=>
       cases h4:decide (nm=[101,120,110]) with
       |true=>rw[of_decide_eq_true h4];simp
       |false=>
         cases h5:decide (nm=[114,101,102]) with
         |true=>rw[of_decide_eq_true h5];simp
         |false=>
           cases h6:decide (nm=[45,62]) with
           |true=>rw[of_decide_eq_true h6];simp
           |false=>
             cases h7:decide (nm=[42]) with
             |true=>rw[of_decide_eq_true h7];simp
             |false=>
               rw[h1,h2,h3,h4,h5,h6,h7] at h
               simp only[Bool.or_self,cond_false,Ya] at h
               exact Qhx h.1
theorem QeR{t:Ty}(h:tellB t=true):t.name.length<=65536:=by
 unfold tellB at h
 cases hk:decide (t.kind=1) with
 |true=>
   rw[hk] at h
   simp only[cond_true,Ya,decide_eq_true_eq] at h
   rw[h.2.2.1];simp
 |false=>
   rw[hk] at h
   simp only[cond_false] at h
   cases h2:(!decide (t.kind=2) || !decide (t.n=0)) with
   |true=>rw[h2] at h;cases h
   |false=>rw[h2] at h;exact Qgb h
theorem Qga{t:Ty}(hk:decide (t.kind=1)=true)(h:tellB t=true):0<=t.n/\t.n<=1000:=by
 unfold tellB at h
 rw[hk] at h
 simp only[cond_true,Ya,decide_eq_true_eq] at h
 exact⟨h.1,h.2.1⟩
theorem Qc2{n:Int}(h0:0<=n)(h:n<2^62):(letT n).length<=22:=by
 unfold letT
 have:=Go.Lib.itoa_length_le (n / 26) (by omega) (by omega)
 cases decide (n>25)<;>simp<;>omega
mutual
theorem QcQ:∀ (t:Ty) (lv:Int),allTy tellB t=true->∀ x ∈ typT t lv,x.length<=65536
 |.mk k n nm ags nl,lv,h,x,hx=>by
   simp only[allTy,Ya] at h
   have hnm:=QeR h.1
   simp only[Ty.name] at hnm
   have hk:=QaM ags
   have sub:∀ lv,(∃ l ∈ typTs ags lv,x ∈ l)->x.length<=65536:=λlv ⟨l,h1,h2⟩=>hk lv h.2 l h1 x h2
   simp only[typT] at hx
   cases h1:decide (k=1) with
   |true=>
     rw[h1] at hx
     simp only[cond_true,List.mem_singleton] at hx
     subst hx
     have ht:=Qga (t:=.mk k n nm ags nl) h1 h.1
     simp only[Ty.n] at ht
     have:=Qc2 (n:=n) ht.1 (by have:=ht.2;omega)
     simp only[Yg];omega
   |false=>
     rw[h1] at hx
     cases h2:decide (nm=[45,62]) with
     |true=>
       rw[h2] at hx
       simp only[cond_true,cond_false] at hx
       rcases Qcs hx with hx|hx
       ·omega
       ·simp only[List.mem_append,List.mem_singleton] at hx
        rcases hx with (hx|rfl)|hx
        ·exact sub 1 (Q7H hx)
        ·simp
        ·exact sub 0 (Q7H hx)
     |false=>
       rw[h2] at hx
       cases h3:decide (nm=[42]) with
       |true=>
         rw[h3] at hx
         simp only[cond_true,cond_false] at hx
         rcases Qcs hx with hx|hx
         ·omega
         ·rcases Q6f hx with rfl|hx
          ·simp
          ·exact sub 2 hx
       |false=>
         rw[h3] at hx
         cases h4:decide (ags.length=0) with
         |true=>
           rw[h4] at hx
           simp only[cond_true,cond_false,List.mem_singleton] at hx
           subst hx;exact hnm
         |false=>
           rw[h4] at hx
           cases h5:decide (ags.length=1) with
           |true=>
             rw[h5] at hx
             simp only[cond_true,cond_false,List.mem_append,List.mem_singleton] at hx
             rcases hx with hx|rfl
             ·exact sub 2 (Q7H hx)
             ·exact hnm
           |false=>
             rw[h5] at hx
             simp only[cond_false,List.mem_append,List.mem_cons,List.not_mem_nil,or_false] at hx
             rcases hx with (rfl|hx|rfl)|rfl
             ·simp
             ·rcases Q6f hx with rfl|hx
              ·simp
              ·exact sub 0 hx
             ·simp
             ·exact hnm
theorem QaM:∀ (l:List Ty) (lv:Int),allTys tellB l=true->∀ q ∈ typTs l lv,∀ x ∈ q,x.length<=65536
 |[],_,_,q,hq,_,_=>by cases hq
 |t::l,lv,h,q,hq,x,hx=>by
   simp only[allTys,Ya] at h
   simp only[typTs,List.mem_cons] at hq
   rcases hq with rfl|hq
   ·exact QcQ t lv h.1 x hx
   ·exact QaM l lv h.2 q hq x hx
end
theorem QaH{M:Nat}:∀ {l:List Str},(∀ x ∈ l,x.length<=M)->tokSum l<=l.length*(M+1)
 |[],_=>by simp[tokSum]
 |s::l,h=>by
   have h1:=h s Yc
   have h2:=QaH (l:=l) λx hx=>h x (Yb _ hx)
   rw[Q4C,Yg,Nat.add_mul];omega
end Go.Am
namespace Go.Proofs.YtobelgghegmhhaaGreatDoor
open Go Go.Am
set_option maxRecDepth 4000
theorem Qdr{t:Ty}(h:tellB t=true):shpB t=true:=by
 unfold tellB at h
 unfold shpB
 cases hk:decide (t.kind=1) with
 |true=>
   rw[hk] at h
   simp only[cond_true,Ya,decide_eq_true_eq] at h |-
   omega
 |false=>
   rw[hk] at h
   simp only[cond_false] at h |-
   cases h2:(!decide (t.kind=2) || !decide (t.n=0)) with
   |true=>rw[h2] at h;cases h
   |false=>
     rw[h2] at h
     cases h3:decide (t.name=[45,62]) with
     |false=>simp
     |true=>
       have hn:=of_decide_eq_true h3
       simp only[cond_false,hn] at h
       simpa [tellN] using h
mutual
theorem Qe2:∀ t:Ty,allTy tellB t=true->allTy shpB t=true
 |.mk k n nm l nl,h=>by
   simp only[allTy,Ya] at h |-
   exact⟨Qdr h.1,QcF l h.2⟩
theorem QcF:∀ l:List Ty,allTys tellB l=true->allTys shpB l=true
 |[],_=>rfl
 |t::l,h=>by
   simp only[allTys,Ya] at h |-
   exact⟨Qe2 t h.1,QcF l h.2⟩
end
theorem Q4W(t:Ty)(s:St)(h:t.size<2^40)(hn:NamesTy t):Ret (cw (.f Q2U) [t.enc] s) s (.str (typeT t)):=by
 obtain⟨s1,m',b,e1,d1,l1,v1,-⟩:=QaJ s.locs.length t.size t (Yd _) h hn 256 (St.addLoc s (.var [.val (.int .i64 256)])) (by simp[AtL,St.addLoc]) (by decide) (by decide)
 have hb:b=toldB t:=by
  unfold toldB
  rw[Bool.eq_iff_iff,d1]
  simp only[Ya,decide_eq_true_eq]
  constructor<;>rintro⟨g1,g2⟩<;>exact⟨by omega,g2⟩
 subst hb
 have g1:Grew s s1:=Moves.toGrew (Moves.since (A:=[]) (h:=[]) (Moves.grew [] [] ((Grew.refl s).addLoc _)) v1 (λi hi=>.inr (by simp only[List.mem_singleton] at hi;omega)) (by simp))
 rw[QcC]
 simp only[go_sem,Nat.reduceAdd,Nat.reduceLeDiff,Ty.cells_eq,Ty.enc] at e1 |-
 unfold typeT
 cases hb:toldB t with
 |false=>
   rw[hb] at e1
   simp only[go_sem,e1]
   exact⟨s1,rfl,g1⟩
 |true=>
   have hb2:=hb
   unfold toldB at hb2
   simp only[Ya,decide_eq_true_eq] at hb2
   obtain⟨y,s2,e2,g2,h2⟩:=Q5G t.size t (Yd _) (by omega) (Qe2 t hb2.2) 0 s1
   obtain⟨v,av,hv⟩:=h2.av
   have hl:=Q1s t 0
   have hs:=QaH (QcQ t 0 hb2.2)
   have hs2:(typT t 0).length*(65536+1)<=1536*(65536+1):=Nat.mul_le_mul_right _ (by omega)
   obtain⟨s3,e3,g3⟩:=Q9N (typT t 0) v hv (by omega) s2
   rw[hb] at e1
   simp only[go_sem,Ty.enc,Ty.cells_eq] at e2
   simp only[go_sem,e1,e2,ZY av,e3]
   exact⟨s3,rfl,(g1.trans g2).trans g3⟩
open Go Go.Am
set_option maxRecDepth 4000
section
variable {σ:Type} (to:Int->σ->Ty × σ) (g:Nat) (caps:List AV) (A:List Nat) (R:σ->List Nat->St->Prop) (P:σ->Prop) (V:Nat)
def rebFn:AV:=.fn Zm [.cp [.fn g caps],.vp V 0]
def RbOK(t:Ty):Prop:=
 ∀ st h s,R st h s->P (chTy to t st).2->∃ s' h',cw (.f Zm) [t.enc,.cp [.fn g caps],.vp V 0] s=some (.ret (.val (chTy to t st).1.enc),s')/\R (chTy to t st).2 h' s'/\Moves A h h' s s'
variable {to g caps A R P V}
theorem Q6s(H:ToOK to g caps A R P)(HV:∀ st h s,R st h s->s.locs[V]? = some (.var [.val (rebFn g caps V)]))(t:Ty)(hl:t.args.length<2^28)(s0:St)(h0:List Nat)(z:List Slot)(hz:z.length=4):∀ (suf pre B:List Ty) (x:Slot) (st:σ) (h:List Nat) (s:St) (i:Nat),AccH Q2 s0.toks.length h s x (B.map Ty.enc)->Moves A h0 h s0 s->R st h s->P (chTys to suf st).2->pre++suf=t.args->i=pre.length->B.length=pre.length->(∀ t ∈ suf,RbOK to g caps A R P V t)->
  ∃ s' h',Ze (.val (.vp V 0)) z [.val (.int .i64 t.kind),.val (.int .i64 t.n),.val (.str t.name),x] (.val (encS t.nl (t.args.map Ty.enc))) (.val (.int .i64 t.args.length)) (.val (.int .i64 i)) s=some (.ret (.val (Ty.mk t.kind t.n t.name (B++(chTys to suf st).1) true).enc),s')/\R (chTys to suf st).2 h' s'/\Moves A h0 h' s0 s'
 |[],pre,B,x,st,h,s,i,hA,hM,hR,hP,hpre,hi,hn,HC=>by
   subst hi
   refine⟨s,h,?_,hR,hM⟩
   rw[Q1K];simp only[go_sem,Nat.reduceAdd,Nat.reduceLeDiff,Ql (by simpa using hpre),ZY hA.av,chTys,hz]
   simp only[Ty.enc];rw[Ty.cells_mk]
 |u::suf,pre,B,x,st,h,s,i,hA,hM,hR,hP,hpre,hi,hn,HC=>by
   subst hi
   obtain⟨f1,f2,f3⟩:=Qh (x:=.val (encS t.nl (t.args.map Ty.enc))) (Qe _ _) hpre (by omega) (Ty.cells_len u) (by decide)
   have hlen:pre.length<t.args.length:=by rw[<-hpre];simp
   simp only[chTys] at hP
   obtain⟨s1,h1,e1,r1,m1⟩:=HC u Yc st h s hR (Q3z H suf _ hP)
   obtain⟨x1,s2,e2,a2,m2,l2,t2,b2⟩:=tyAcc (B:=[(chTy to u st).1]) (y:=.full [(chTy to u st).1.enc]) (hA.move m1) (hM.trans m1) (H.held _ _ _ r1) rfl (by simp only[Yj];omega)
   have r2:=H.stab _ _ _ s2 r1 l2 t2
   obtain⟨s3,h3,e3,r3,m3⟩:=Q6s H HV t hl s0 h0 z hz suf (pre++[u]) (B++[(chTy to u st).1]) x1 (chTy to u st).2 h1 s2 (pre.length+1) a2 m2 r2 hP (by simpa using hpre) (by simp) (by simp[hn]) (λw hw=>HC w (Yb _ hw))
   refine⟨s3,h3,?_,r3,m3⟩
   have c1:=a2.cellOk
   have q1:=QS (t:=C.ti Qk) (off:=0) (HV _ _ _ hR)
   rw[Q1K];simp only[go_sem,Nat.reduceAdd,Nat.reduceLeDiff,f1,f2,f3,q1,rebFn,e1,e2,c1,chTys] at e3 |-
   exact e3
theorem Q4T(H:ToOK to g caps A R P)(HV:∀ st h s,R st h s->s.locs[V]? = some (.var [.val (rebFn g caps V)])):∀ (k:Nat) (t:Ty),t.size<=k->WideTy t->RbOK to g caps A R P V t
 |0,.mk _ _ _ _ _,h,_=>by simp only[Ty.size] at h;omega
 |k+1,.mk kd n nm l nl,hs,hs'=>λst h s hR hP=>by
   simp only[Ty.size] at hs
   have hl:=hs'.len
   simp only[chTy] at hP |-
   rw[Q5L]
   by_cases hk:kd=1
   ·rw[decide_eq_true hk,cond_true] at hP
    obtain⟨s1,h1,e1,r1,m1⟩:=H.call n st h s hR hP
    refine⟨s1,h1,?_,by rw[decide_eq_true hk];exact r1,m1⟩
    simp only[go_sem,Nat.reduceAdd,Nat.reduceLeDiff,Ty.enc,decide_eq_true hk,e1,cond_true]
   ·rw[decide_eq_false hk,cond_false] at hP
    obtain⟨s1,h1,e1,r1,m1⟩:=Q6s H HV (.mk kd n nm l nl) (by simp only[Ty.args];omega) s h [.val (.int .i64 0),.val (.int .i64 0),.val (.str []),.val .nils] rfl l [] [] (.val .nils) st h s 0 (.nil _ _ _ _) (.refl _ _ _) hR hP rfl rfl rfl (λt ht=>by
     have:=Ty.mem_sizes ht
     exact Q4T H HV k t (by omega) (hs'.arg ht))
    refine⟨s1,h1,?_,by rw[decide_eq_false hk];exact r1,m1⟩
    rw[show ((0:Nat):Int)=0 from rfl] at e1
    simp only[go_sem,Nat.reduceAdd,Nat.reduceLeDiff,Ty.enc,Ty.kind,Ty.n,Ty.name,Ty.args,Ty.nl,decide_eq_false hk,cond_false] at e1 |-
    exact e1
end
theorem Q0S(n:Int)(s:St):cw (.f ZF) [.int .i64 n] s=some (.ret (.val (tvar n).enc),s):=by
 rw[Q6w]
 simp only[go_sem,Nat.reduceAdd,Nat.reduceLeDiff,tvar,Ty.enc]
def restT(n:Int):Str:=bif decide (n=0) then [] else Go.Lib.itoa n
theorem Q7Y(n:Int)(h:-9223372036854775808<=n/\n<=9223372036854775807)(s:St):cw (.f Q3d) [.int .i64 n] s=some (.ret (.val (.str (restT n))),s):=by
 have e1:=Qag n h s
 rw[Q9M]
 unfold restT
 cases hn:decide (n=0)<;>simp only[go_sem,hn,e1]
end Go.Proofs.YtobelgghegmhhaaGreatDoor
namespace Go.Am
open Go
mutual
def rebT(f:Int->Ty):Ty->Ty
 |.mk k n s l _=>bif decide (k=1) then f n else .mk k n s (rebTs f l) true
def rebTs(f:Int->Ty):List Ty->List Ty
 |[]=>[]
 |t::l=>rebT f t::rebTs f l
end
def varB(pb:Int->Bool)(u:Ty):Bool:=!decide (u.kind=1) || pb u.n
mutual
theorem Qfk(f:Int->Ty)(pb:Int->Bool):∀ (t:Ty) (b:Bool),(chTy (λn (b:Bool)=>(f n,b&&pb n)) t b).1=rebT f t/\(b=true->allTy (varB pb) t=true->(chTy (λn (b:Bool)=>(f n,b&&pb n)) t b).2=true)
 |.mk k n s l nl,b=>by
   obtain⟨h1,h2⟩:=QdJ f pb l b
   simp only[chTy,rebT,allTy,Ya]
   cases hk:decide (k=1) with
   |true=>
     refine⟨rfl,?_⟩
     rintro rfl ⟨g1,_⟩
     have:varB pb (.mk k n s l nl)=pb n:=by unfold varB;rw[show (Ty.mk k n s l nl).kind=k from rfl,hk];rfl
     rw[this] at g1
     simpa using g1
   |false=>
     refine⟨by simp only[cond_false,h1],?_⟩
     rintro rfl ⟨_,g2⟩
     exact h2 rfl g2
theorem QdJ(f:Int->Ty)(pb:Int->Bool):∀ (l:List Ty) (b:Bool),(chTys (λn (b:Bool)=>(f n,b&&pb n)) l b).1=rebTs f l/\(b=true->allTys (varB pb) l=true->(chTys (λn (b:Bool)=>(f n,b&&pb n)) l b).2=true)
 |[],b=>⟨rfl,λh _=>h⟩
 |t::l,b=>by
   obtain⟨h1,h2⟩:=Qfk f pb t b
   obtain⟨h3,h4⟩:=QdJ f pb l (chTy (λn (b:Bool)=>(f n,b&&pb n)) t b).2
   simp only[chTys,rebTs,allTys,Ya]
   refine⟨by rw[h1,h3],?_⟩
   rintro hb ⟨g1,g2⟩
   exact h4 (h2 hb g1) g2
end
end Go.Am
namespace Go.Proofs.YtobelgghegmhhaaGreatDoor
open Go Go.Am
set_option maxRecDepth 4000
theorem Q2E(f:Int->Ty)(pb:Int->Bool)(g:Nat)(caps:List AV)(hx:(C.ext g).isSome=false)(Q:St->Prop)(hQ:∀ s s',Q s->(∀ (i:Nat) (x:Am.Obj),s.locs[i]? = some x->s'.locs[i]? = some x)->Q s')(hf:∀ n s,Q s->pb n=true->Ret (cw (.f g) (.int .i64 n::caps) s) s (f n).enc)(t:Ty)(ht:WideTy t)(hp:allTy (varB pb) t=true)(s:St)(hs:Q s) :
  Ret (cw (.f Q0L) [t.enc,.fn g caps] s) s (rebT f t).enc:=by
 let R:Bool->List Nat->St->Prop:=λ_ h s1=>h=[]/\Q s1/\s1.locs[s.locs.length]? = some (.var [.val (rebFn g caps s.locs.length)])
 have H:ToOK (λn (b:Bool)=>(f n,b&&pb n)) g caps [] R (λb=>b=true):=by
  refine⟨λn st h s1 hR hP=>?_,?_,?_,?_⟩
  ·obtain⟨rfl,h2,h3⟩:=hR
   simp only[Ya] at hP
   obtain⟨s2,e1,g1⟩:=hf n s1 h2 hP.2
   exact⟨s2,[],e1,⟨rfl,hQ _ _ h2 (λi x=>g1.loc),g1.loc h3⟩,.grew _ _ g1⟩
  ·rintro _ _ _ ⟨rfl,_⟩ k hk;cases hk
  ·rintro st h s1 s2 ⟨rfl,h2,h3⟩ hl hk
   exact⟨rfl,hQ _ _ h2 (λi x h=>by rw[hl];exact h),by rw[hl];exact h3⟩
  ·intro n st h
   simp only[Ya] at h
   exact h.1
 have h0:(s.addLoc (.var [.val (rebFn g caps s.locs.length)])).locs[s.locs.length]? = some (.var [.val (rebFn g caps s.locs.length)]):=Q24 s _
 have g0:Grew s (s.addLoc (.var [.val (rebFn g caps s.locs.length)])):=(Grew.refl s).addLoc _
 obtain⟨c1,c2⟩:=Qfk f pb t true
 obtain⟨s1,h1,e1,⟨rfl,r2,r3⟩,m1⟩:=Q4T (V:=s.locs.length) H (λ_ _ _ h=>h.2.2) t.size t (Yd _) ht true [] (s.addLoc (.var [.val (rebFn g caps s.locs.length)])) ⟨rfl,hQ _ _ hs (λi x=>g0.loc),h0⟩ (c2 rfl hp)
 rw[c1] at e1
 have q1:=QS (t:=C.ti Qk) (off:=0) h0
 rw[Q70]
 simp only[rebFn] at e1 q1
 simp only[go_sem,Nat.reduceAdd,Nat.reduceLeDiff,Ty.enc,rebFn,q1,e1] at e1 |-
 exact⟨s1,rfl,g0.trans m1.toGrew⟩
theorem ZG(vars:Int)(t:Ty)(s:St)(h:t.size<2^40)(hn:NamesTy t):Ret (cw (.f ZT) [.agg (.int .i64 vars::t.cells)] s) s (.bool (rightTyB t&&(decide (vars≥0)&&decide (vars<=256)))):=by
 obtain⟨s1,e1,g1⟩:=Q3h t s h hn
 have c:=Ty.cells_eq t
 rw[Q8V]
 simp only[go_sem,Nat.reduceAdd,Nat.reduceLeDiff,c,Ty.enc] at e1 |-
 cases hr:rightTyB t with
 |false=>rw[hr] at e1;simp only[go_sem,e1];exact⟨s1,rfl,g1⟩
 |true=>
   rw[hr] at e1
   cases hv:decide (vars≥0) with
   |false=>simp only[go_sem,e1,hv];exact⟨s1,rfl,g1⟩
   |true=>simp only[go_sem,e1,hv];exact⟨s1,rfl,g1⟩
end Go.Proofs.YtobelgghegmhhaaGreatDoor
namespace Go.Am
open Go
def showF(vars n:Int):Ty:=bif decide (n<vars) then tvar n else ofTy (95::(letT ((n - vars) % 26)++bif decide ((n - vars) / 26=0) then [] else Go.Lib.itoa ((n - vars) / 26))) []
def rightSB(vars:Int)(t:Ty):Bool:=rightTyB t&&(decide (vars≥0)&&decide (vars<=256))
def schemeT(vars:Int)(t:Ty):Str:=bif rightSB vars t then typeT (rebT (showF vars) t) else []
theorem Qf1{n:Int}(h0:0<=n)(h:n<=1000):typeT (tvar n)=39::letT n:=by
 have h1:toldB (tvar n)=true:=by
  simp[toldB,tvar,allTy,allTys,tellB,Ty.size,Ty.sizes,Ty.kind,Ty.n,Ty.name,Ty.args,h0,h]
 unfold typeT
 rw[h1]
 simp[tvar,typT,textB,textGo,sepB]
mutual
theorem Q6r(f:Int->Ty)(hf:∀ n,(f n).size=1):∀ t:Ty,(rebT f t).size<=t.size
 |.mk k n s l b=>by
   have:=Q8J f hf l
   simp only[rebT]
   cases decide (k=1) with
   |true=>simp only[cond_true,hf,Ty.size];omega
   |false=>simp only[cond_false,Ty.size];omega
theorem Q8J(f:Int->Ty)(hf:∀ n,(f n).size=1):∀ l:List Ty,Ty.sizes (rebTs f l)<=Ty.sizes l
 |[]=>by simp[rebTs,Ty.sizes]
 |t::l=>by
   have h1:=Q6r f hf t
   have h2:=Q8J f hf l
   simp only[rebTs,Ty.sizes];omega
end
end Go.Am
namespace Go.Proofs.YtobelgghegmhhaaGreatDoor
open Go Go.Am
set_option maxRecDepth 4000
theorem Qgc(a b:Str)(h:b.length<=a.length)(hp:a.take b.length=b)(s:St):cw (.f Q0M) [.str a,.str b] s=some (.ret (.val (.str (a.drop b.length))),s):=by
 have hb':decide ((a.length:Int)≥(b.length:Int))=true:=by simpa using h
 have h0:cw (.f Qy) [.str a,.str b] s=some (.ret (.val (.bool true)),s):=by
  rw[ZQ]
  simp only[go_sem,hb',Q35 Qi h,hp,decide_true]
 have h1:cw (.f Z0) [.str a,.str b] s=some (.ret (.val (.str (a.drop b.length))),s):=by
  rw[Q1F]
  simp only[go_sem,h0,Q7r Qi h]
 rw[Q4Z]
 simp only[go_sem,h1]
theorem QeL(vars n:Int):(showF vars n).size=1:=by
 unfold showF
 cases decide (n<vars)<;>rfl
theorem QeT(n:Int):NamesTy (tvar n):=by
 intro nd hn
 simp only[tvar,nodesTy,nodesTys,List.mem_singleton] at hn
 subst hn
 show ([]:Str).length<2^40
 decide
theorem Q6v(vars:Int)(t:Ty)(hv:0<=vars/\vars<=256)(n:Int)(hn:0<=n/\n<=9223372036854775807)(s:St):Ret (cw (.f Q1d) [.int .i64 n,.cp (.int .i64 vars::t.cells)] s) s (showF vars n).enc:=by
 rw[Q7W]
 unfold showF
 cases hd:decide (n<vars) with
 |true=>
   have e1:=Q0S n s
   simp only[go_sem,Int.reduceEq,Nat.reduceAdd,Nat.reduceLeDiff,ne_eq,not_false_eq_true,hd,e1,Ty.enc,tvar]
   exact Ret.same _ _
 |false=>
   have hd':=of_decide_eq_false hd
   have w1:IntKind.i64.wrap (n - vars)=n - vars:=wrap64 (by omega) (by omega)
   have a1:(n - vars).tmod 26=(n - vars) % 26:=Int.tmod_eq_emod_of_nonneg (by omega)
   have a2:(n - vars).tdiv 26=(n - vars) / 26:=Int.tdiv_eq_ediv_of_nonneg (by omega)
   have w2:IntKind.i64.wrap ((n - vars) / 26)=(n - vars) / 26:=wrap64 (by omega) (by omega)
   have e1:=λs=>Q0S ((n - vars) % 26) s
   obtain⟨s1,e2,g1⟩:=Q4W (tvar ((n - vars) % 26)) s (show (1:Nat)<2^40 by decide) (QeT _)
   rw[Qf1 (by omega) (by omega)] at e2
   have e3:=Qgc (39::letT ((n - vars) % 26)) [39] (by simp) rfl s1
   have e4:=Q7Y ((n - vars) / 26) (by omega) s1
   have k1:=Qc2 (n:=(n - vars) % 26) (by omega) (by omega)
   have k2:(restT ((n - vars) / 26)).length<=21:=by
    unfold restT
    have:=Go.Lib.itoa_length_le ((n - vars) / 26) (by omega) (by omega)
    cases decide ((n - vars) / 26=0)<;>simp<;>omega
   obtain⟨s2,e5,g2⟩:=QeU (95::(letT ((n - vars) % 26)++restT ((n - vars) / 26))) [] .nils rfl (by decide) (by intro t ht;cases ht) s1
   rw[show ((39::letT ((n - vars) % 26)):Str).drop ([39]:Str).length=letT ((n - vars) % 26) from rfl] at e3
   have b1:binS (C.ti Q0) .add (.val (.str [95])) (.val (.str (letT ((n - vars) % 26))))=some (.val (.str (95::letT ((n - vars) % 26)))):=Q6Q (by simp;omega)
   have b2:binS (C.ti Q0) .add (.val (.str (95::letT ((n - vars) % 26)))) (.val (.str (restT ((n - vars) / 26))))=some (.val (.str (95::(letT ((n - vars) % 26)++restT ((n - vars) / 26))))):=Q6Q (by simp;omega)
   simp only[Ty.enc,ofTy,Yn] at e1 e2 e5
   simp only[go_sem,Int.reduceEq,Nat.reduceAdd,Nat.reduceLeDiff,ne_eq,not_false_eq_true,hd,w1,a1,a2,w2,e1,e2,e3,e4,b1,b2,e5]
   refine⟨s2,?_,g1.trans g2⟩
   rfl
theorem Q7X(vars:Int)(t:Ty)(s:St)(h:t.size<2^28)(hn:NamesTy t)(hw:WideTy t)(hN:NamesTy (rebT (showF vars) t))(hp:allTy (varB λn=>decide (0<=n)&&decide (n<=9223372036854775807)) t=true) :
  Ret (cw (.f Q1W) [.agg (.int .i64 vars::t.cells)] s) s (.str (schemeT vars t)):=by
 obtain⟨s1,e1,g1⟩:=ZG vars t s (by omega) hn
 have c:=Ty.cells_eq t
 rw[Q4V]
 unfold schemeT
 change cw _ _ _=some (.ret (.val (.bool (rightSB vars t))),s1) at e1
 cases hr:rightSB vars t with
 |false=>
   rw[hr] at e1
   simp only[go_sem,Nat.reduceAdd,Nat.reduceLeDiff,c] at e1 |-
   simp only[go_sem,e1]
   exact⟨s1,rfl,g1⟩
 |true=>
   rw[hr] at e1
   unfold rightSB at hr
   simp only[Ya,decide_eq_true_eq] at hr
   have hsz:=Q6r (showF vars) (QeL vars) t
   obtain⟨s2,e2,g2⟩:=Q2E (showF vars) (λn=>decide (0<=n)&&decide (n<=9223372036854775807)) Q1d [.cp (.int .i64 vars::t.cells)] (by kernel_rfl) (λ_=>True) (λ_ _ _ _=>trivial)
    (λn s _ hb=>Q6v vars t hr.2 n (by simpa using hb) s) t hw hp s1 trivial
   obtain⟨s3,e3,g3⟩:=Q4W (rebT (showF vars) t) s2 (by omega) hN
   simp only[go_sem,Nat.reduceAdd,Nat.reduceLeDiff,c,Ty.enc] at e1 e2 e3 |-
   simp only[go_sem,e1,e2,e3]
   exact⟨s3,rfl,(g1.trans g2).trans g3⟩
end Go.Proofs.YtobelgghegmhhaaGreatDoor
namespace Go.Am
open Go
def zeroTy:Ty:=.mk 0 0 [] [] true
def instT(vars:Int)(t:Ty)(l:List Ty):Ty × Int:=
 bif !rightSB vars t || (!decide ((l.length:Int)=vars) || !l.all rightTyB) then (zeroTy,1)
 else bif decide ((putTy t l).size>256) then (zeroTy,4) else (putTy t l,0)
end Go.Am
namespace Go.Proofs.YtobelgghegmhhaaGreatDoor
open Go Go.Am
set_option maxRecDepth 4000
theorem Qae(l:List Ty)(x:Slot)(hx:x.list? = some (l.map Ty.enc))(hl:l.length<2^40)(hn:∀ t ∈ l,t.size<2^40/\NamesTy t):∀ (suf pre:List Ty) (s:St) (i:Nat),pre++suf=l->i=pre.length->
  ∃ s' r,Qs x (.val (.fn Zs [])) (.val (.int .i64 l.length)) (.val (.int .i64 i)) s=some (.ret (.val (.int .i64 r)),s')/\(decide (r≥0) = !suf.all rightTyB)/\Grew s s'
 |[],pre,s,i,h,hi=>by
   subst hi
   refine⟨s,-1,?_,rfl,.refl s⟩
   rw[Qt];simp only[go_sem,Int.reduceNeg,Ql (by simpa using h)]
 |t::suf,pre,s,i,h,hi=>by
   subst hi
   obtain⟨f1,f2,f3⟩:=Qh hx h (by omega) (Ty.cells_len t) (by decide)
   obtain⟨h1,h2⟩:=hn t (by rw[<-h];simp)
   obtain⟨s1,e1,g1⟩:=Q3h t s h1 h2
   have e2:cw (.f Zs) [t.enc] s=some (.ret (.val (.bool (!rightTyB t))),s1):=by
    rw[Q7S]
    simp only[go_sem,Nat.reduceLeDiff,e1]
   rw[Qt]
   simp only[go_sem,Int.reduceNeg,Nat.reduceLeDiff,f1,f2,f3,e2]
   cases hr:rightTyB t with
   |true=>
     obtain⟨s2,r,e3,d3,g3⟩:=Qae l x hx hl hn suf (pre++[t]) s1 (pre.length+1) (by simpa using h) (by simp)
     exact⟨s2,r,by simp only[go_sem,e3],by rw[d3,List.all_cons,hr,Bool.true_and],g1.trans g3⟩
   |false=>
     refine⟨s1,pre.length,by simp only[go_sem],?_,g1⟩
     rw[List.all_cons,hr]
     simp
theorem Q7T(vars:Int)(t:Ty)(l:List Ty)(nl:Bool)(s:St)(h:t.size<2^28)(hn:NamesTy t)(hw:WideTy t)(hl:l.length<2^28)(hls:∀ u ∈ l,u.size<2^40/\NamesTy u/\WideTy u)(hz:(putTy t l).size<2^40) :
  Ret (cw (.f Q3b) [.agg (.int .i64 vars::t.cells),encS nl (l.map Ty.enc)] s) s (.tup [(instT vars t l).1.enc,.int .i64 (instT vars t l).2]):=by
 obtain⟨s1,e1,g1⟩:=ZG vars t s (by omega) hn
 have c:=Ty.cells_eq t
 change cw _ _ _=some (.ret (.val (.bool (rightSB vars t))),s1) at e1
 have z1:∀ k:Int,∀ s':St,Grew s s'->Ret (some (.ret (.val (.tup [zeroTy.enc,.int .i64 k])),s')) s (.tup [zeroTy.enc,.int .i64 k]):=λk s' g=>⟨s',rfl,g⟩
 rw[Q9H]
 unfold instT
 cases hr:rightSB vars t with
 |false=>
   rw[hr] at e1
   simp only[go_sem,Nat.reduceAdd,Nat.reduceLeDiff,c] at e1 |-
   simp only[go_sem,e1,Qe]
   exact z1 1 s1 g1
 |true=>
   rw[hr] at e1
   cases hv:decide ((l.length:Int)=vars) with
   |false=>
     simp only[go_sem,Nat.reduceAdd,Nat.reduceLeDiff,c] at e1 |-
     simp only[go_sem,e1,Qe,Yh,hv]
     exact z1 1 s1 g1
   |true=>
     obtain⟨s2,r,e2,d2,g2⟩:=Qae l (.val (encS nl (l.map Ty.enc))) (Qe _ _) (by omega) (λu hu=>⟨(hls u hu).1,(hls u hu).2.1⟩) l [] s1 0 rfl rfl
     have e4:cw (.f Qn) [encS nl (l.map Ty.enc),.fn Zs []] s1=some (.ret (.val (.bool (decide (r≥0)))),s2):=by
      rw[Zc]
      have:cw (.f QK) [encS nl (l.map Ty.enc),.fn Zs []] s1=some (.ret (.val (.int .i64 r)),s2):=by
       rw[ZE];simp only[go_sem]
       exact e2
      simp only[go_sem,this]
     rw[d2] at e4
     cases ha:l.all rightTyB with
     |false=>
       rw[ha] at e4
       simp only[go_sem,Nat.reduceAdd,Nat.reduceLeDiff,c] at e1 |-
       simp only[go_sem,e1,Qe,Yh,hv,e4]
       exact z1 1 s2 (g1.trans g2)
     |true=>
       rw[ha] at e4
       obtain⟨s3,e5,g3⟩:=Qdx t l nl s2 hw (by omega) (λu hu=>(hls u hu).2.2)
       have e6:=Q6K (putTy t l).size (putTy t l) s3 (Yd _) hz
       have cp:=Ty.cells_eq (putTy t l)
       simp only[go_sem,Nat.reduceAdd,Nat.reduceLeDiff,c,cp,Ty.enc] at e1 e5 e6 |-
       simp only[go_sem,Nat.reduceAdd,Nat.reduceLeDiff,e1,Qe,Yh,hv,e4,e5,e6]
       have hg:decide (((putTy t l).size:Int)>256)=decide ((putTy t l).size>256):=by
        by_cases hq:(putTy t l).size>256
        ·rw[decide_eq_true hq,decide_eq_true (by omega)]
        ·rw[decide_eq_false hq,decide_eq_false (by omega)]
       cases hc:decide ((putTy t l).size>256) with
       |true=>
         rw[hc] at hg
         simp only[go_sem,hg]
         exact z1 4 s3 ((g1.trans g2).trans g3)
       |false=>
         rw[hc] at hg
         simp only[go_sem,hg]
         refine⟨s3,?_,(g1.trans g2).trans g3⟩
         simp only[Bool.not_true,Bool.or_self,cond_false,Ty.enc,cp]
open Go Go.Am
theorem Q6W(n:Int)(c:Bool)(s:St):cw (.f Q2F) [.int .u8 n,.bool c] s=some (.ret (.val (.bool (letterR n c))),s):=by
 rw[Q8M];cases c<;>simp only[go_sem]<;>rfl
theorem Q8N(n:Int)(s:St):cw (.f Q3I) [.int .u8 n] s=some (.ret (.val (.bool (restR n))),s):=by
 rw[Qb0];simp only[go_sem];rfl
theorem Q6X(l:Str)(pre:Str):∀ (suf:Str) (s:St),pre++suf=l->l.length<2^62->Zw (.val (.str l)) (.val (.int .i64 pre.length)) s=some (.ret (.val (.bool (suf.all λc=>restR c.toNat))),s):=by
 intro suf
 induction suf generalizing pre with
 |nil=>
   intro s h hl
   rw[List.append_nil] at h
   subst h
   rw[Q31];simp only[Qbu,Qbs,Q5j Qi,Q3y,Q5b,Q3A]
   rw[Q9r (by simp)]
   rfl
 |cons c suf ih=>
   intro s h hl
   have hc:l[pre.length]? = some c:=by rw[<-h];simp
   have hlt:pre.length<l.length:=by rw[<-h];simp
   have:=ih (pre++[c]) s (by simp[h]) hl
   rw[Q31]
   simp only[Qbu,Qbs,Q5j Qi,Q3y,Q5b,Q3A]
   rw[Q9s (by simpa using hlt),Q0Q Qi hc]
   simp only[go_sem,Q8N]
   rw[wrap64 (by omega) (by omega)]
   have e:(pre.length:Int)+1=((pre++[c]).length:Int):=by simp
   rw[e,this]
   simp only[go_sem,List.all_cons]
   cases restR c.toNat<;>rfl
theorem Q6Y(l:Str)(c:Bool)(s:St)(hl:l.length<2^62):cw (.f Q1t) [.str l,.bool c] s=some (.ret (.val (.bool (shapedR l c))),s):=by
 rw[Q8O]
 cases l with
 |nil=>simp only[go_sem];rfl
 |cons x l=>
   have h:=Q6X (x::l) [x] l s rfl hl
   simp only[go_sem,Yj] at h
   simp only[go_sem,Q6W,ZP Qi (List.cons_ne_nil x l)]
   have h':Zw (.val (.str (x::l))) (.val (.int .i64 1)) s=some (.ret (.val (.bool (l.all λc=>restR c.toNat))),s):=h
   rw[h']
   show ifR _ _ _=some (Out.ret (.val (.bool (!(decide (((l.length+1:Nat):Int)<1) || decide (((l.length+1:Nat):Int)>32) || !letterR (((x::l).headD 0).toNat:Int) c)&&(l.all λc=>restR c.toNat)))),s)
   generalize (decide (((l.length+1:Nat):Int)<1) || decide (((l.length+1:Nat):Int)>32) || !letterR (((x::l).headD 0).toNat:Int) c)=b
   cases b<;>rfl
theorem Q7O(s:St):cw (.f Q39) [] s=some (.ret (.full (wordsR.map .str)),s):=by
 rw[Q9A];simp only[go_sem,Nat.reduceAdd];rfl
theorem Q7P(x:Str)(l:List Str)(pre:List Str):∀ (suf:List Str) (y:Slot) (s:St),y.list? = some (l.map .str)->pre++suf=l->l.length<2^62->Q0B (.val (.str x)) y (.val (.int .i64 pre.length)) s=some (.ret (.val (.bool (amongR x suf))),s):=by
 intro suf
 induction suf generalizing pre with
 |nil=>
   intro y s hy h hl
   rw[List.append_nil] at h
   subst h
   rw[Q3k];simp only[go_sem,hy]
   rw[Q9r (by simp)]
   rfl
 |cons c suf ih=>
   intro y s hy h hl
   have hc:(l.map AV.str)[pre.length]? = some (.str c):=by rw[<-h];simp
   have hlt:pre.length<l.length:=by rw[<-h];simp
   have:=ih (pre++[c]) y s hy (by simp[h]) hl
   rw[Q3k]
   simp only[go_sem,hy]
   rw[Q9s (by simpa using hlt),Q2M (sz:=1) hy hc rfl (by decide)]
   simp only[go_sem,Nat.reduceAdd,Nat.reduceLeDiff]
   rw[wrap64 (by omega) (by omega)]
   have e:(pre.length:Int)+1=((pre++[c]).length:Int):=by simp
   rw[e,this]
   simp only[go_sem,amongR,List.any_cons]
   cases decide (c=x)<;>rfl
theorem Q7Q(x:Str)(l:List Str)(s:St)(hl:l.length<2^62)(nl:Bool):cw (.f Q1S) [.str x,encS nl (l.map .str)] s=some (.ret (.val (.bool (amongR x l))),s):=by
 rw[Q9B]
 exact Q7P x l [] l _ s (by simp only[go_sem]) rfl hl
theorem Q9z(l:Str)(s:St)(hl:l.length<2^62):cw (.f Q4t) [.str l] s=some (.ret (.val (.bool (lowR l))),s):=by
 rw[Qcw]
 have h:=λs=>Q7Q l wordsR s (by decide) false
 rw[Q8s] at h
 simp only[go_sem,Q6Y l _ _ hl,Q7O,h]
 rfl
end Go.Proofs.YtobelgghegmhhaaGreatDoor
namespace Go.Am
open Go
theorem QbK(sub:List UInt8):Go.Lib.contains [] sub=sub.isEmpty:=by
 unfold Go.Lib.contains Go.Lib.index
 cases sub.isEmpty<;>rfl
theorem Q3e(c:UInt8)(s sub:List UInt8):Go.Lib.contains (c::s) sub=(sub.isPrefixOf (c::s) || Go.Lib.contains s sub):=by
 have h:=Go.Lib.index_ge s sub
 unfold Go.Lib.contains
 rw[Go.Lib.index]
 cases sub.isPrefixOf (c::s) with
 |true=>rfl
 |false=>
   simp only[Bool.false_eq_true,if_false,Bool.false_or]
   by_cases h1:Go.Lib.index s sub = -1
   ·rw[h1];rfl
   ·have h2:(Go.Lib.index s sub == -1)=false:=by simpa using h1
    rw[h2]
    simp only[Bool.false_eq_true,if_false]
    congr 1
    rw[eq_iff_iff]
    omega
theorem QaA:∀ (w T x:List UInt8),(∀ c ∈ w,c≠32)->Go.Lib.contains (w++T) (32::x)=Go.Lib.contains T (32::x)
 |[],_,_,_=>rfl
 |c::w,T,x,h=>by
   have hc:((32:UInt8) == c)=false:=by have:=h c (by simp);rw[beq_eq_false_iff_ne];exact λe=>this e.symm
   rw[Yk,Q3e,List.isPrefixOf,hc,Bool.false_and,Bool.false_or]
   exact QaA w T x λd hd=>h d (Yb _ hd)
theorem Q7n:∀ (l w T:List UInt8),(∀ c ∈ l,c≠32)->(∀ c ∈ w,c≠32)->(l++[32]).isPrefixOf (w++32::T)=decide (l=w)
 |[],[],T,_,_=>by simp[List.isPrefixOf]
 |[],c::w,T,_,h=>by
   have hc:((32:UInt8) == c)=false:=by have:=h c (by simp);rw[beq_eq_false_iff_ne];exact λe=>this e.symm
   simp[List.isPrefixOf,hc]
 |a::l,[],T,h,_=>by
   have hc:(a == (32:UInt8))=false:=by have:=h a (by simp);rw[beq_eq_false_iff_ne];exact this
   simp[List.isPrefixOf,hc]
 |a::l,c::w,T,h,g=>by
   have ih:=Q7n l w T (λd hd=>h d (Yb _ hd)) (λd hd=>g d (Yb _ hd))
   rw[Yk,Yk,List.isPrefixOf,ih]
   by_cases hac:a=c
   ·subst hac;simp
   ·have:(a == c)=false:=by rw[beq_eq_false_iff_ne];exact hac
    simp[this,hac]
theorem Qe6(l:Str)(hl:∀ c ∈ l,c≠32):∀ ws:List Str,(∀ w ∈ ws,∀ c ∈ w,c≠32)->Go.Lib.contains (32::(ws.flatMap λw=>w++[32])) (32::(l++[32]))=ws.any λw=>decide (l=w)
 |[],_=>by
   rw[List.flatMap_nil,Q3e,QbK]
   cases l<;>simp[List.isPrefixOf]
 |w::ws,h=>by
   have hw:=h w (by simp)
   have e:(w::ws).flatMap (λw=>w++[32])=w++32::(ws.flatMap λw=>w++[32]):=by simp
   rw[e,Q3e,List.isPrefixOf,beq_self_eq_true,Bool.true_and,Q7n l w _ hl hw,QaA w _ _ hw,Qe6 l hl ws λv hv=>h v (Yb _ hv),List.any_cons]
def wordsAll:List Str:=wordsR++[[116,114,117,101],[102,97,108,115,101],[95]]
theorem QhD:wordsS=32::(wordsAll.flatMap λw=>w++[32]):=by decide +kernel
theorem QdC:∀ w ∈ wordsAll,∀ c ∈ w,c≠32:=by decide +kernel
theorem Qiu(n:Int):restR n = !unrestB n:=by
 simp only[restR,unrestB,smallB,greatB]
 by_cases h1:n≥97<;>by_cases h2:n<=122<;>by_cases h3:n=95<;>by_cases h4:n≥65<;>by_cases h5:n<=90<;>by_cases h6:n<48<;>by_cases h7:n>57<;>by_cases h8:n=39<;>simp[h1,h2,h3,h4,h5,h6,h7,h8]<;>omega
theorem Qax(l:Str)(cap:Bool):shapedR l cap=(!decide (l=[])&&letterR (headB l) cap&&runB l):=by
 have e:((l.drop 1).all λc=>restR c.toNat)=restAll (l.drop 1):=by
  unfold restAll
  congr 1
  funext c
  exact Qiu _
 unfold shapedR runB
 rw[e]
 have e1:decide ((l.length:Int)<1)=decide (l=[]):=by cases l<;>simp;omega
 have e2:decide ((l.length:Int)>32) = !decide (l.length<=32):=by
  by_cases h:l.length<=32
  ·rw[decide_eq_true h,decide_eq_false (by omega)];rfl
  ·rw[decide_eq_false h,decide_eq_true (by omega)];rfl
 rw[e1,e2]
 cases decide (l=[])<;>cases decide (l.length<=32)<;>cases letterR (headB l) cap<;>cases restAll (l.drop 1)<;>rfl
theorem Qh8(l:Str)(h:shapedR l false=true):∀ c ∈ l,c≠32:=by
 rw[Qax] at h
 simp only[Ya] at h
 obtain⟨⟨h0,h1⟩,h2⟩:=h
 cases l with
 |nil=>intro c hc;cases hc
 |cons a l=>
   intro c hc e
   subst e
   rcases List.mem_cons.1 hc with rfl|hc
   ·change letterR 32 false=true at h1
    revert h1;decide
   ·simp only[runB,Ya,restAll,List.drop_one,List.tail_cons,List.all_eq_true] at h2
    have:=h2.1 32 hc
    revert this;decide
theorem Qko(l:Str):lowR l=lowB l:=by
 unfold lowR
 have e:lowB l=(shapedR l false && !Go.Lib.contains wordsS (32::(l++[32]))):=by rw[Qax];rfl
 rw[e]
 cases hs:shapedR l false with
 |false=>rfl
 |true=>
   rw[QhD,Qe6 l (Qh8 l hs) wordsAll QdC]
   unfold wordsAll amongR
   rw[List.any_append]
   have e3:(wordsR.any λw=>decide (w=l))=wordsR.any λw=>decide (l=w):=by congr 1;funext w;congr 1;rw[eq_iff_iff];exact eq_comm
   rw[e3]
   simp only[List.any_cons,List.any_nil]
   cases (wordsR.any λw=>decide (l=w))<;>cases decide (l=[95])<;>cases decide (l=[116,114,117,101])<;>cases decide (l=[102,97,108,115,101])<;>rfl
end Go.Am
namespace Go.Proofs.YtobelgghegmhhaaGreatDoor
open Go Go.Am
set_option maxRecDepth 4000
def argsR(nm:Str):Int × Int:=
 bif decide (nm=[105,110,116]) || decide (nm=[98,111,111,108]) || decide (nm=[117,110,105,116]) || decide (nm=[101,120,110]) then (0,0) else bif decide (nm=[114,101,102]) then (1,1) else bif decide (nm=[45,62]) then (2,2) else bif decide (nm=[42]) then (2,8) else (0,8)
theorem Q8K(nm:Str)(s:St):cw (.f Q2d) [.str nm] s=some (.ret (.val (.tup [.int .i64 (argsR nm).1,.int .i64 (argsR nm).2])),s):=by
 rw[QaY]
 simp only[go_sem,Q7N]
 delta argsR
 generalize decide (nm=[105,110,116])=x1
 generalize decide (nm=[98,111,111,108])=x2
 generalize decide (nm=[117,110,105,116])=x3
 generalize decide (nm=[101,120,110])=x4
 generalize decide (nm=[114,101,102])=x5
 generalize decide (nm=[45,62])=x6
 generalize decide (nm=[42])=x7
 cases x1<;>cases x2<;>cases x3<;>cases x4<;>cases x5<;>cases x6<;>cases x7<;>rfl
open Go Go.Am
set_option maxRecDepth 4000
abbrev Nodes(r:Res)(s:St)(l:List TNode):Prop:=RetA r Qz s (l.map TNode.enc)
abbrev NAcc(s0 s:St)(x:Slot)(l:List TNode):Prop:=AccR Qz s0 s x (l.map TNode.enc)
theorem nacc{s0 s:St}{x y:Slot}{A B:List TNode}(h:NAcc s0 s x A)(hy:y.list? = some (B.map TNode.enc))(b:A.length+B.length<2^30):∃ x' s',appendS Qz (C.ti Qz) s x y=some (x',s')/\NAcc s0 s' x' (A++B):=
 AccR.appendF h hy (λa=>by rw[Q3i];exact TNode.cells_len a) (by rw[Q3i];decide) b (by rw[Q5T];decide)
theorem Q4f(a:Int)(t:Ty)(hl:t.args.length<2^40)(s0:St):∀ (suf pre:List Ty) (A:List TNode) (x:Slot) (s:St) (i:Nat),NAcc s0 s x A->pre++suf=t.args->i=pre.length->(∀ t ∈ suf,∀ s,Nodes (cw (.f Zl) [t.enc,.int .i64 a] s) s (nodesTy a t))->A.length+Ty.sizes suf<2^30->
  Nodes (Q0Y (.val (.int .i64 a)) (t.cells.map .val) x (.val (.int .i64 i)) s) s0 (A++nodesTys a suf)
 |[],pre,A,x,s,i,hx,h,hi,H,hb=>by
   subst hi
   rw[Q3U];simp only[go_sem,Nat.reduceAdd,Nat.reduceLeDiff,Ty.cells_eq,Ql (by simpa using h),nodesTys]
   exact RetA.mk hx
 |u::suf,pre,A,x,s,i,hx,h,hi,H,hb=>by
   subst hi
   obtain⟨f1,f2,f3⟩:=Qh (x:=.val (encS t.nl (t.args.map Ty.enc))) (Qe _ _) h (by omega) (Ty.cells_len u) (by decide)
   obtain⟨y,s1,e1,g1⟩:=H u (Yc) s
   have hlen:=Q7l a u
   simp only[Ty.sizes] at hb
   obtain⟨x',s2,e2,g2⟩:=nacc (hx.move g1.grew) g1.list? (by omega)
   have:=Q4f a t hl s0 suf (pre++[u]) (A++nodesTy a u) x' s2 (pre.length+1) g2 (by simpa using h) (by simp) (λw hw=>H w (Yb _ hw)) (by rw[Ye];omega)
   rw[Q3U];rw[Ty.cells_eq] at this |-;simp only[go_sem,Nat.reduceAdd,Nat.reduceLeDiff,f1,f2,f3,e1,e2] at this |-
   simp only[nodesTys]
   exact this
theorem Q4g:∀ (m:Nat) (a:Int) (t:Ty) (s:St),t.size<=m->t.size<2^28->Nodes (cw (.f Zl) [t.enc,.int .i64 a] s) s (nodesTy a t)
 |0,a,.mk _ _ _ _ _,_,h,_=>by simp only[Ty.size] at h;omega
 |m+1,a,.mk k n nm l nl,s,h,h'=>by
   simp only[Ty.size] at h h'
   have hl:=Ty.len_sizes l
   have:=Q4f a (.mk k n nm l nl) (by simp only[Ty.args];omega) s l [] [.ty (.mk k n nm l nl) a] (.full [(TNode.ty (.mk k n nm l nl) a).enc]) s 0 (AccR.full _ _ _) rfl rfl (λu hu s=>by have:=Ty.mem_sizes hu;exact Q4g m a u s (by omega) (by omega)) (by simp only[Yj];omega)
   rw[QaZ];simp only[go_sem,Nat.reduceAdd,Nat.reduceLeDiff,Ty.enc,TNode.cells,Dec.zero,Exp.zero,Pat.zero,Fun.zero,Case.zero,Con.zero,Ty.zero,Con.cells,TNode.enc,nodesTy] at this |-
   exact this
end Go.Proofs.YtobelgghegmhhaaGreatDoor
namespace Go.Am
open Go
@[go_sem] theorem Qr5(b:Bool)(sz:Nat)(x:Slot)(r:List Slot):gd b (fullO (bslS sz (gdV b x::r)))=gd b (fullO (bslS sz (x::r))):=by cases b<;>rfl
end Go.Am
namespace Go.Proofs.YtobelgghegmhhaaGreatDoor
open Go Go.Am
set_option maxRecDepth 4000
theorem Qix{α:Type}{L M pre pre' suf':List α}(h:pre++[]=L)(g:pre'++suf'=M)(hp:pre'.length=pre.length)(he:M.length=L.length):suf'=[]:=by
 have h1:=congrArg List.length h
 have h2:=congrArg List.length g
 simp only[Ye,Yp] at h1 h2
 exact List.eq_nil_of_length_eq_zero (by omega)
theorem Qhr{α:Type}{L M pre pre' suf suf':List α}{t:α}(h:pre++t::suf=L)(g:pre'++suf'=M)(hp:pre'.length=pre.length)(he:M.length=L.length):∃ u r,suf'=u::r:=by
 have h1:=congrArg List.length h
 have h2:=congrArg List.length g
 simp only[Ye,Yg] at h1 h2
 cases suf' with
 |nil=>simp only[Yp] at h2;omega
 |cons u r=>exact⟨u,r,rfl⟩
def RSameTy(t:Ty):Prop:=∀ u s,cw (.f Q0r) [t.enc,u.enc] s=some (.ret (.val (.bool (eqTy t u))),s)
theorem Q5F(t u:Ty)(hl:t.args.length<2^40)(he:u.args.length=t.args.length):∀ (suf suf' pre pre':List Ty) (s:St) (i:Nat),pre++suf=t.args->pre'++suf'=u.args->i=pre.length->pre'.length=pre.length->(∀ t ∈ suf,RSameTy t)->
  Q0c (t.cells.map .val) (u.cells.map .val) (.val (.int .i64 i)) s=some (.ret (.val (.bool (eqTys suf suf'))),s)
 |[],suf',pre,pre',s,i,h,g,hi,hp,H=>by
   subst hi
   obtain rfl:=Qix h g hp he
   rw[Q30];simp only[go_sem,Nat.reduceAdd,Nat.reduceLeDiff,Ty.cells_eq,Ql (by simpa using h),eqTys]
 |x::suf,suf',pre,pre',s,i,h,g,hi,hp,H=>by
   subst hi
   obtain⟨y,suf',rfl⟩:=Qhr h g hp he
   obtain⟨f1,f2,f3⟩:=Qh (x:=.val (encS t.nl (t.args.map Ty.enc))) (Qe _ _) h (by omega) (Ty.cells_len x) (by decide)
   obtain⟨-,g2,-⟩:=Qh (x:=.val (encS u.nl (u.args.map Ty.enc))) (Qe _ _) g (by omega) (Ty.cells_len y) (by decide)
   rw[hp] at g2
   have e1:=H x (Yc) y s
   have ih:=Q5F t u hl he suf suf' (pre++[x]) (pre'++[y]) s (pre.length+1) (by simpa using h) (by simpa using g) (by simp) (by simp[hp]) (λw hw=>H w (Yb _ hw))
   rw[Q30];rw[Ty.cells_eq,Ty.cells_eq] at ih |-;simp only[go_sem,Nat.reduceAdd,Nat.reduceLeDiff,f1,f2,f3,g2,e1] at ih |-
   simp only[go_sem,ih,eqTys]
   cases eqTy x y<;>rfl
theorem Q6u:∀ (m:Nat) (t:Ty),t.size<=m->t.size<2^40->RSameTy t
 |0,.mk _ _ _ _ _,h,_=>by simp only[Ty.size] at h;omega
 |m+1,.mk k n nm l nl,h,h'=>λu s=>by
   obtain⟨k',n',nm',l',nl'⟩:=u
   simp only[Ty.size] at h h'
   have hl:=Ty.len_sizes l
   rw[Q8L]
   by_cases he:l'.length=l.length
   ·have e1:=Q5F (.mk k n nm l nl) (.mk k' n' nm' l' nl') (by simp only[Ty.args];omega) he l l' [] [] s 0 rfl rfl rfl rfl (λt ht=>by have:=Ty.mem_sizes ht;exact Q6u m t (by omega) (by omega))
    simp only[go_sem] at e1
    rw[show ((0:Nat):Int)=0 from rfl] at e1
    simp only[go_sem,Nat.reduceAdd,Nat.reduceLeDiff,Ty.enc,e1,eqTy,decide_eq_true (show ((l.length:Int)=l'.length) by omega)]
    generalize decide (k=k')=b1
    generalize decide (n=n')=b2
    generalize decide (nm=nm')=b3
    cases b1<;>cases b2<;>cases b3<;>rfl
   ·simp only[go_sem,Nat.reduceAdd,Nat.reduceLeDiff,Ty.enc,eqTy,Q66 l l' (λh=>he h.symm),decide_eq_false (show ¬ ((l.length:Int)=l'.length) by omega)]
end Go.Proofs.YtobelgghegmhhaaGreatDoor
namespace Go.Am
open Go
end Go.Am
namespace Go.Proofs.YtobelgghegmhhaaGreatDoor
open Go Go.Am
set_option maxRecDepth 4000
def tnd(u:Ty):AV:=(TNode.ty u 0).enc
theorem Qiy(u:Ty):(tnd u).cells.length=47:=TNode.cells_len (.ty u 0)
theorem Qco(t:Ty)(s:St)(h:t.size<2^28):RetA (cw (.f Zl) [t.enc,.int .i64 0] s) Qz s ((preTy t).map tnd):=by
 have:=Q4g _ 0 t s (Yd _) h
 unfold Nodes at this
 rw[Q2W,List.map_map] at this
 exact this
theorem Q8Q(t:Ty)(s:St)(h:t.size<2^28):Ret (cw (.f Q3J) [t.enc] s) s (.int .i64 t.size):=by
 obtain⟨x,s1,e1,a1⟩:=Qco t s h
 have hx:=a1.list?
 refine⟨s1,?_,a1.grew⟩
 rw[Qb2]
 simp only[go_sem,Nat.reduceLeDiff,Ty.enc] at e1 |-
 simp only[go_sem,e1,hx,Yh,Q6q]
theorem Q4i(t u:Ty)(s:St)(h:t.size<2^40):cw (.f Q2e) [t.enc,u.enc] s=some (.ret (.val (.bool (eqTy t u))),s):=by
 have e1:=Q6u _ t (Yd _) h u s
 rw[Qb1]
 simp only[go_sem,Nat.reduceLeDiff,Ty.enc] at e1 |-
 simp only[go_sem,Nat.reduceAdd,Nat.reduceLeDiff,e1]
theorem Q8R(t:Ty)(s:St)(hl:t.name.length<2^40):cw (.f Q3K) [t.enc] s=some (.ret (.val (.bool (goodB t))),s):=by
 have e1:=λs=>Q9z t.name s (by omega)
 have e2:=Q8K t.name
 unfold goodB goodC
 rw[Qb3]
 simp only[go_sem,Nat.reduceAdd,Nat.reduceLeDiff,Ty.enc,Ty.cells_eq,e1,e2,Qko]
 congr 5
 have hlow:(decide (t.name=[105,110,116]) || decide (t.name=[98,111,111,108]) || decide (t.name=[117,110,105,116]) || decide (t.name=[101,120,110]))=true->lowB t.name=true:=by
  intro h
  simp only[Bool.or_eq_true,decide_eq_true_eq] at h
  rcases h with ((h|h)|h)|h<;>rw[h]<;>decide +kernel
 cases decide (t.kind=1) with
 |true=>rfl
 |false=>
   revert hlow
   delta givenB argsR
   generalize decide (t.name=[105,110,116])=x1
   generalize decide (t.name=[98,111,111,108])=x2
   generalize decide (t.name=[117,110,105,116])=x3
   generalize decide (t.name=[101,120,110])=x4
   generalize decide (t.name=[114,101,102])=x5
   generalize decide (t.name=[45,62])=x6
   generalize decide (t.name=[42])=x7
   generalize lowB t.name=lw
   generalize decide (t.kind=2)=a
   generalize decide (t.n=0)=b
   intro hlow
   generalize (x1 || x2 || x3 || x4)=y at hlow |-
   cases y<;>cases x5<;>cases x6<;>cases x7<;>cases lw<;>first|(simp at hlow;done)|(cases a<;>cases b<;>simp)
theorem Q4h(L:List Ty)(x:Slot)(hx:x.list? = some (L.map tnd))(hl:L.length<2^40):∀ (suf pre:List Ty) (s:St) (i:Nat),pre++suf=L->i=pre.length->(∀ t ∈ suf,t.name.length<2^40)->
  Q0d x (.val (.int .i64 i)) s=some (.ret (.val (.bool (suf.all goodB))),s)
 |[],pre,s,i,h,hi,H=>by
   subst hi
   rw[Q32];simp only[go_sem,hx,Ql (by simpa using h)];rfl
 |t::suf,pre,s,i,h,hi,H=>by
   subst hi
   obtain⟨f1,f2,f3⟩:=Qh hx h (by omega) (Qiy t) (by decide)
   have e1:=Q8R t s (H t Yc)
   have ih:=Q4h L x hx hl suf (pre++[t]) s (pre.length+1) (by simpa using h) (by simp) (λw hw=>H w (Yb _ hw))
   rw[Q32]
   simp only[go_sem,Ty.enc] at e1
   simp only[go_sem,Nat.reduceLeDiff,Nat.reduceSub,hx,f1,f2,f3,tnd,TNode.enc,TNode.cells,Dec.cells_len,Exp.cells_len,Pat.cells_len,e1,ih,List.all_cons]
   cases goodB t<;>rfl
theorem Q6Z(t:Ty)(s:St)(h:t.size<2^28)(hn:NamesTy t):Ret (cw (.f Q1u) [t.enc] s) s (.bool (allTy goodB t)):=by
 obtain⟨x,s1,e1,a1⟩:=Qco t s h
 have e2:=Q4h (preTy t) x a1.list? (by rw[Q6q];omega) (preTy t) [] s1 0 rfl rfl hn.pre
 refine⟨s1,?_,a1.grew⟩
 rw[show ((0:Nat):Int)=0 from rfl] at e2
 rw[Q8P]
 simp only[go_sem,Nat.reduceLeDiff,Ty.enc] at e1 |-
 simp only[go_sem,e1,e2,Q9Z]
theorem Q7R(t:Ty)(s:St)(h:t.size<2^28)(hn:NamesTy t):Ret (cw (.f Q3a) [t.enc] s) s (.bool (rightTyB t)):=by
 obtain⟨s1,e1,g1⟩:=Q8Q t s h
 obtain⟨s2,e2,g2⟩:=Q6Z t s1 h hn
 rw[Q9E]
 have hd:decide ((t.size:Int)<=256)=decide (t.size<=256):=by rw[Bool.eq_iff_iff,decide_eq_true_iff,decide_eq_true_iff];omega
 simp only[go_sem,Nat.reduceLeDiff,Ty.enc] at e1 e2 |-
 simp only[go_sem,e1,e2,hd,rightTyB]
 cases decide (t.size<=256) with
 |true=>simp only[go_sem];exact⟨_,rfl,g1.trans g2⟩
 |false=>simp only[go_sem];exact⟨_,rfl,g1⟩
end Go.Proofs.YtobelgghegmhhaaGreatDoor
namespace Go.Am
open Go
def hasI(l:List Int)(n:Int):Bool:=l.any λm=>decide (m=n)
def levelT(t:Ty):Int:=bif decide (t.kind=2)&&decide (t.name=[45,62]) then 0 else bif decide (t.kind=2)&&decide (t.name=[42]) then 1 else 2
end Go.Am
namespace Go.Proofs.YtobelgghegmhhaaGreatDoor
open Go Go.Am
set_option maxRecDepth 4000
open Go Go.Am
set_option maxRecDepth 4000
def plainV:AV->Bool
 |.vs _ _ _ _ _=>false
 |.agg _=>false
 |_=>true
theorem Q2r(v:AV)(l:List AV):flatL (v::l)=v.cells++flatL l:=by simp[flatL]
theorem Q4a{sz:Nat}:∀ {l:List AV},(∀ v ∈ l,v.cells.length=sz)->(flatL l).length=l.length*sz
 |[],_=>by simp[flatL]
 |v::l,h=>by
   rw[Q2r,Ye,Q4a λw hw=>h w (Yb _ hw),h v Yc,Yg,Nat.succ_mul,Nat.add_comm]
theorem Q5d{sz:Nat}:∀ {l:List AV} {i:Nat} {v:AV},(∀ v ∈ l,v.cells.length=sz)->l[i]? = some v->∃ a b,flatL l=a++(v.cells++b)/\a.length=i*sz
 |[],i,v,_,h=>by simp at h
 |w::l,0,v,h,g=>by
   simp at g;subst g
   exact⟨[],flatL l,by rw[Q2r];rfl,by simp⟩
 |w::l,i+1,v,h,g=>by
   obtain⟨a,b,e,k⟩:=Q5d (l:=l) (i:=i) (v:=v) (λw hw=>h w (Yb _ hw)) (by simpa using g)
   refine⟨w.cells++a,b,by rw[Q2r,e,Yr],?_⟩
   rw[Ye,h w Yc,k,Nat.succ_mul,Nat.add_comm]
def Holds(s:St)(loc:Nat)(l:List AV):Prop:=s.locs[loc]? = some (.var ((flatL l).map .val))
theorem Holds.ld{s:St}{loc:Nat}{l:List AV}(h:Holds s loc l){t:TI}(hs:∀ v ∈ l,v.cells.length=t.size){i:Nat}{v:AV}(hv:l[i]? = some v):ldV t false s (.val (.vp loc (i*t.size)))=ofSlots t (v.cells.map .val):=by
 obtain⟨a,b,e,k⟩:=Q5d hs hv
 have hv':=hs v (List.mem_of_getElem? hv)
 unfold Holds at h
 simp only[ldV,cond_false,h,e,List.map_append]
 rw[List.drop_left' (by simpa using k),List.take_left' (by simpa using hv')]
theorem Holds.st{s:St}{loc:Nat}{l:List AV}(h:Holds s loc l){sz:Nat}(hs:∀ v ∈ l,v.cells.length=sz){i:Nat}{v:AV}(hv:l[i]? = some v):stV s (.val (.vp loc (i*sz))) (v.cells.map .val)=some s:=by
 obtain⟨a,b,e,k⟩:=Q5d hs hv
 unfold Holds at h
 simp only[stV,h,e,List.map_append]
 have:putAt (List.map Slot.val a++(List.map Slot.val v.cells++List.map Slot.val b)) (i*sz) (List.map Slot.val v.cells)=some (List.map Slot.val a++(List.map Slot.val v.cells++List.map Slot.val b)):=by
  unfold putAt
  rw[if_pos (by simp only[Ye,Yh,k];omega),List.take_left' (by simpa using k),List.drop_append,List.drop_of_length_le (by simp only[Yh,k];omega)]
  simp only[Yh,k]
  rw[Nat.add_sub_cancel_left,Yo,List.drop_left' (by simp)]
 rw[this]
 simp only[]
 have hlt:=(List.getElem?_eq_some_iff.1 h)
 obtain⟨hlt,hget⟩:=hlt
 congr 1
 rw[show s.locs.set loc (Obj.var (List.map Slot.val a++(List.map Slot.val v.cells++List.map Slot.val b)))=s.locs from ?_]
 rw[<-List.map_append,<-List.map_append,<-e,<-hget]
 exact List.set_getElem_self hlt
theorem Q0G{s0 s:St}(h:Grew s0 s){k:Nat}(hk:s0.locs.length<=k)(o:Am.Obj):Grew s0 { s with locs:=s.locs.set k o }:=by
 obtain⟨⟨a,ha⟩,hb⟩:=h
 refine⟨⟨a.set (k - s0.locs.length) o,?_⟩,hb⟩
 simp only[ha]
 rw[List.set_append_right _ _ hk]
end Go.Proofs.YtobelgghegmhhaaGreatDoor