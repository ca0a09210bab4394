/- A part of the proof: PExp6, SRx1, SRx2, SRx3. -/
import Derived.Test.YtgfhplcmcdimiaaGreatDoorM12
import Derived.Test.YtgfhplcmcdimiaaGreatDoorM13
import Derived.Test.YtgfhplcmcdimiaaGreatDoorM14
set_option linter.unusedVariables false
set_option linter.unusedSimpArgs false
open Bool renaming and_eq_true→Yf,false_or→Yt,true_or→Yx
open List renaming length_cons→Ya,length_append→Yb,mem_cons_of_mem→Yc,mem_cons_self→Yd,length_nil→Ye,map_cons→Yh,length_map→Yi,append_assoc→Yj,cons_append→Yk,length_singleton→Yl,nil_append→Ym,map_nil→Yo,append_nil→Yr,mem_of_getElem?→Ys,sum_cons→Yv
open Nat renaming le_refl→Yg
namespace Go.Am
open Go
theorem lbc{b:Bool}{x y:Str}{N:Nat}(h:b=true->x.length<=N)(g:b=false->y.length<=N):(bif b then x else y).length<=N:=by
 cases b
 ·exact g rfl
 ·exact h rfl
theorem Q0D(b:Bool)(s:Str):(parS b s).length<=s.length+2:=by cases b<;>simp[parS]
theorem Q3P{nm:Str}(h:lowB nm=true):nm.length<=32:=Q94 (by rw[h,Bool.or_true])
theorem QeG{nm:Str}(h:capB nm=true):nm.length<=32:=by
 unfold capB runB at h
 simp only[Yf,decide_eq_true_eq] at h
 exact h.2.2
theorem QbD{nm:Str}(h:conB nm=true):nm.length<=32:=by
 unfold conB at h
 simp only[Bool.or_eq_true,decide_eq_true_eq] at h
 rcases h with ((h|rfl)|rfl)|rfl
 ·exact QeG h
 ·decide
 ·decide
 ·decide
theorem QhI{n:Int}(h:isIntB n=true):(digS n).length<=22:=by
 unfold isIntB at h
 simp only[Yf,decide_eq_true_eq] at h
 unfold digS
 refine lbc (λhd=>?_) (λhd=>?_)
 ·have:=Go.Lib.itoa_length_le (-n) (by omega) (by omega)
  simp only[Ya];omega
 ·have:=Go.Lib.itoa_length_le n (by omega) (by omega)
  omega
theorem Qb5{l:List Pat}(H:∀ p ∈ l,(patS p).length+20<=500*p.size)(lv:Int):((patSs l lv).map (·.length)).sum+18*l.length<=500*Pat.sizes l:=by
 rw[Q6N]
 induction l with
 |nil=>simp[Pat.sizes]
 |cons p l ih=>
   have h1:=H p Yd
   have h2:=ih λx hx=>H x (Yc _ hx)
   have h3:=Q0D (decide (patLv p<lv)) (patS p)
   simp only[Yh,Yv,Ya,Pat.sizes]
   omega
theorem Q4M:∀ (m:Nat) (p:Pat),p.size<=m->(∀ n ∈ nodesPat p,n.wrong.1=0)->(patS p).length+20<=500*p.size
 |0,.mk _ _ _ _ _ _,h,_=>by simp only[Pat.size] at h;omega
 |m+1,.mk k a nm n kids b,h,hr=>by
   simp only[Pat.size] at h
   simp only[nodesPat,List.forall_mem_cons] at hr
   have I:PatIs k n nm kids.length:=QdG hr.1
   have HV:∀ u ∈ kids,(patS u).length+20<=500*u.size:=λu hu=>by
    have:=Pat.mem_sizes hu
    exact Q4M m u (by omega) (Go.Proofs.YtgfhplcmcdimiaaGreatDoor.pats_wrong hr.2 u hu)
   have h0:=Qb5 HV 0
   have h2:=Qb5 HV 2
   have g0:=Q2b (patSs kids 0) 0
   have g2:=Q2b (patSs kids 2) 0
   have j0:=ZT [44,32] (patSs kids 0) true
   have hl:(patSs kids 0).length=kids.length:=by rw[Q6N,Yi]
   rw[hl,show ([44,32]:Str).length=2 from rfl] at j0
   have key:(patS (.mk k a nm n kids b)).length<=500*(Pat.sizes kids+1) - 20:=by
    simp only[patS]
    refine lbc (λ_=>by simp only[Yl];omega) λh1=>lbc (λh3=>?_) λh3=>lbc (λh6=>?_) λh6=>lbc (λ_=>by simp only[Ya,Yb,Ye];omega) λh5=>?_
    ·have:=QhI (I.int (of_decide_eq_true h3));omega
    ·have:=Q3P (I.as_ (of_decide_eq_true h6)).1
     simp only[Yb,Ya,Ye];omega
    ·have hk:k=2\/k=4:=by
      have:=I.kind
      have:=of_decide_eq_false h1
      have:=of_decide_eq_false h3
      have:=of_decide_eq_false h6
      have:=of_decide_eq_false h5
      omega
     have hn:nm.length<=32:=by
      rcases hk with hk|hk
      ·exact Q3P (I.var hk)
      ·exact QbD (I.con hk).1
     exact lbc (λ_=>by simp only[Yb,Ya];omega) λ_=>by omega
   simp only[Pat.size];omega
theorem getS3(L:List (Str × Int)):(L.getD 0 ([],9)).1.length+((L.getD 1 ([],9)).1.length+(L.getD 2 ([],9)).1.length)<=(L.map λx=>x.1.length).sum:=by
 match L with
 |[]=>simp
 |[a]=>simp
 |[a,b]=>simp
 |a::b::c::l=>simp only[List.getD_cons_zero,List.getD_cons_succ,Yh,Yv];omega
theorem Qk4(L:List (Str × Int))(i:Nat)(lv:Int):(atS L i lv).length<=(L.getD i ([],9)).1.length+2:=Q0D _ _
theorem Qb1(L:List (Str × Int)):((L.map (·.1)).map (·.length)).sum=(L.map λx=>x.1.length).sum:=by rw[List.map_map];rfl
theorem Q6G:∀ (X:List (Str × Str × Bool)) (f:Bool),((caseS X f).map (·.length)).sum+4*(caseS X f).length<=(X.map λx=>x.1.length+x.2.1.length+10).sum
 |[],f=>by simp[caseS]
 |(p,e,o)::X,f=>by
   have h1:=Q6G X false
   have h2:=Q0D (!X.isEmpty&&o) e
   simp only[caseS,Yh,Yv,Ya,Yb,Ye]
   omega
theorem QfU{l:List Exp}(H:∀ e ∈ l,(expS e).length+20<=500*e.size):((expSs l).map λx=>x.1.length).sum+20*l.length<=500*Exp.sizes l:=by
 rw[Q0k]
 induction l with
 |nil=>simp[Exp.sizes]
 |cons e l ih=>
   have h1:=H e Yd
   have h2:=ih λx hx=>H x (Yc _ hx)
   simp only[Yh,Yv,Ya,Exp.sizes]
   omega
theorem Q9H{l:List Case}(H:∀ c ∈ l,(patS c.pat).length+20<=500*c.pat.size/\(expS c.exp).length+20<=500*c.exp.size):((caseSs l).map λx=>x.1.length+x.2.1.length+10).sum<=500*Case.sizes l:=by
 rw[Q0f]
 induction l with
 |nil=>simp[Case.sizes]
 |cons c l ih=>
   obtain⟨h1,h3⟩:=H c Yd
   have h2:=ih λx hx=>H x (Yc _ hx)
   have h4:c.size=c.pat.size+c.exp.size+1:=by cases c;simp only[Case.size,Case.pat,Case.exp]
   simp only[Yh,Yv,Case.sizes]
   omega
theorem QfN{l:List Dec}(H:∀ d ∈ l,(decS d).length+20<=500*d.size):((decSs l).map (· ++ [32])).flatten.length<=500*Dec.sizes l:=by
 rw[Q6H]
 induction l with
 |nil=>simp[Dec.sizes]
 |cons d l ih=>
   have h1:=H d Yd
   have h2:=ih λx hx=>H x (Yc _ hx)
   simp only[Yh,List.flatten_cons,Yb,Yl,Dec.sizes]
   omega
theorem Qg3{l:List Fun}(H:∀ f ∈ l,f.name.length<=32/\(patS f.case.pat).length+20<=500*f.case.pat.size/\(expS f.case.exp).length+20<=500*f.case.exp.size):((funSs l).map (·.length)).sum+5*(funSs l).length<=500*Fun.sizes l:=by
 rw[Q6J]
 induction l with
 |nil=>simp[Fun.sizes]
 |cons f l ih=>
   obtain⟨h0,h1,h3⟩:=H f Yd
   have h2:=ih λx hx=>H x (Yc _ hx)
   have h4:f.size=f.case.pat.size+f.case.exp.size+2:=by
    cases f with
    |mk nm a c=>cases c;simp only[Fun.size,Case.size,Fun.case,Case.pat,Case.exp]
   have h5:=Q0D (decide (patLv f.case.pat<2)) (patS f.case.pat)
   simp only[Yh,Yv,Ya,Fun.sizes,funS,Yb,Ye]
   omega
theorem QeY(n:Int):(opN n).length<=3:=by
 unfold opN
 match n.toNat with
 |0|1|2|3|4|5|6|7|8|9=>decide
 |m+10=>simp
theorem QlW(k a:Int)(nm:Str)(n:Int)(kids:List Exp)(kb:Bool)(cs:List Case)(cb:Bool)(ds:List Dec)(db:Bool)(I:ExpIs k n nm kids.length cs.length ds.length)
  (HK:∀ e ∈ kids,(expS e).length+20<=500*e.size) (HC:∀ c ∈ cs,(patS c.pat).length+20<=500*c.pat.size/\(expS c.exp).length+20<=500*c.exp.size) (HD:∀ d ∈ ds,(decS d).length+20<=500*d.size):(expS (.mk k a nm n kids kb cs cb ds db)).length+20<=500*(Exp.mk k a nm n kids kb cs cb ds db).size:=by
 have h1:=QfU HK
 have h2:=Q9H HC
 have h3:=QfN HD
 have g:=getS3 (expSs kids)
 have t0:=λlv=>Qk4 (expSs kids) 0 lv
 have t1:=λlv=>Qk4 (expSs kids) 1 lv
 have hl:(expSs kids).length=kids.length:=by rw[Q0k,Yi]
 have j0:=ZT [44,32] ((expSs kids).map (·.1)) true
 have j1:=ZT [59,32] ((expSs kids).map (·.1)) true
 rw[Qb1,Yi,hl] at j0 j1
 have c0:=Q6G (caseSs cs) true
 have j2:=ZT [32,124,32] (caseS (caseSs cs) true) true
 simp only[Ya,Ye] at j0 j1 j2
 have ho:=QeY n
 have key:(expS (.mk k a nm n kids kb cs cb ds db)).length<=500*(Exp.sizes kids+Case.sizes cs+Dec.sizes ds+1) - 20:=by
  rw[expS]
  have a8:=t0 8;have a9:=t0 9;have a3:=t0 3;have a2:=t0 2;have a4:=t0 4;have a5:=t0 5;have a6:=t0 6;have a7:=t0 7
  have b9:=t1 9;have b1:=t1 1;have b3:=t1 3;have b4:=t1 4;have b6:=t1 6;have b7:=t1 7;have b8:=t1 8
  have p1:=λb=>Q0D b ((expSs kids).getD 0 ([],9)).1
  have q1:=p1 (decide (((expSs kids).getD 0 ([],9)).2<2) || decide ((kids.headD (.mk 0 0 [] 0 [] true [] true [] true)).kind=11))
  have q2:=p1 (decide (((expSs kids).getD 0 ([],9)).2<8) || bareE (kids.headD (.mk 0 0 [] 0 [] true [] true [] true)))
  clear t0 t1 HK HC HD p1
  refine lbc (λh=>?_) λ_=>lbc (λh=>?_) λ_=>lbc (λh=>?_) λ_=>?_
  ·have:=QhI (I.int (of_decide_eq_true h));omega
  ·have:=Q3P (I.var (of_decide_eq_true h));omega
  ·have:=QbD (I.con (of_decide_eq_true h)).1
   exact lbc (λ_=>by omega) λ_=>by simp only[Yb,Ya];omega
  refine lbc (λ_=>?_) λ_=>lbc (λ_=>?_) λ_=>lbc (λ_=>?_) λ_=>lbc (λ_=>?_) λ_=>lbc (λ_=>?_) λ_=>lbc (λ_=>?_) λ_=>lbc (λ_=>?_) λ_=>lbc (λ_=>?_) λ_=>lbc (λ_=>?_) λ_=>lbc (λ_=>?_) λ_=>lbc (λ_=>?_) λ_=>lbc (λ_=>?_) λ_=>lbc (λ_=>?_) λ_=>lbc (λ_=>?_) λ_=>lbc (λ_=>?_) λ_=>lbc (λ_=>?_) λ_=>lbc (λ_=>?_) λ_=>lbc (λ_=>?_) λ_=>?_ <;>
   (try simp only[Yb,Ya,Ye])<;>omega
 simp only[Exp.size]
 omega
theorem Qhv{c:Con}(hcap:capB c.name=true)(h:c.has=true->allTy goodB c.arg=true/\VarOK c.arg):(conS c).length+20<=500*c.size:=by
 have hn:=QeG hcap
 have hp:=c.arg.size_pos
 unfold conS Con.size
 refine Nat.le_trans (Nat.add_le_add_right (lbc (N:=36+200*c.arg.size) (λhh=>?_) λ_=>by omega) 20) (by omega)
 obtain⟨hg,hv⟩:=h hh
 have h1:=(QfA hg hv).2
 have h2:=Q9A bigV (by decide) c.arg hg hv
 unfold tyS
 rw[h1]
 simp only[Yb,Ya,Ye]
 omega
theorem QfM{l:List Con}(H:∀ c ∈ l,(conS c).length+20<=500*c.size):((l.map conS).map (·.length)).sum+20*l.length<=500*Con.sizes l:=by
 induction l with
 |nil=>simp[Con.sizes]
 |cons c l ih=>
   have h1:=H c Yd
   have h2:=ih λx hx=>H x (Yc _ hx)
   simp only[Yh,Yv,Ya,Con.sizes]
   omega
theorem Qo9(i:Nat)(h:i<2^40):(varT i).length<=23:=by
 have:=Q7Y (n:=(i:Int)) (by omega) (by omega)
 unfold varT
 simp only[Ya];omega
theorem Qgb(p:Int)(h:0<=p/\p<=8):(parmS p).length<=210:=by
 obtain⟨m,rfl⟩:=Int.eq_ofNat_of_zero_le h.1
 have hm:m<=8:=by omega
 have hs:∀ l:List Nat,(∀ i ∈ l,i<2^40)->((l.map varT).map (·.length)).sum<=23*l.length:=by
  intro l
  induction l with
  |nil=>intro _;simp
  |cons i l ih=>
    intro hl
    have h1:=Qo9 i (hl i Yd)
    have h2:=ih λx hx=>hl x (Yc _ hx)
    simp only[Yh,Yv,Ya];omega
 have h1:=hs (List.range m) (λi hi=>by have:=List.mem_range.1 hi;omega)
 have h2:=ZT [44,32] ((List.range m).map varT) true
 have h3:=Q0D (decide ((m:Int)>1)) (joinS [44,32] ((List.range m).map varT) true)
 simp only[Yi,List.length_range,Ya,Ye] at h1 h2
 unfold parmS
 refine lbc (λ_=>by simp) λ_=>?_
 simp only[Int.toNat_natCast,Yb,Yl]
 omega
theorem QlR(k a:Int)(nm:Str)(p:Int)(cons:List Con)(nb:Bool)(cs:List Case)(cb:Bool)(fs:List Fun)(fb:Bool)(inn:Bool)(I:DecIs k nm p cons.length cs.length fs.length inn)
  (HC:∀ c ∈ cs,(patS c.pat).length+20<=500*c.pat.size/\(expS c.exp).length+20<=500*c.exp.size) (HF:∀ f ∈ fs,f.name.length<=32/\(patS f.case.pat).length+20<=500*f.case.pat.size/\(expS f.case.exp).length+20<=500*f.case.exp.size) (HN:∀ c ∈ cons,(conS c).length+20<=500*c.size) :
  (decS (.mk k a nm p cons nb cs cb fs fb)).length+20<=500*(Dec.mk k a nm p cons nb cs cb fs fb).size:=by
 have h2:=Q9H HC
 have h3:=Qg3 HF
 have h4:=QfM HN
 have j1:=ZT [32,124,32] (cons.map conS) true
 have j2:=ZT [32,97,110,100,32] (funSs fs) true
 simp only[Yi,Ya,Ye] at j1 j2
 have c1:((caseSs cs).headD ([],[],false)).1.length+((caseSs cs).headD ([],[],false)).2.1.length<=500*Case.sizes cs:=by
  cases hq:caseSs cs with
  |nil=>simp
  |cons x l=>
    rw[hq] at h2
    simp only[Yh,Yv,List.headD_cons] at h2 |-
    omega
 have c2:((cons.map conS).headD []).length<=500*Con.sizes cons:=by
  cases cons with
  |nil=>simp
  |cons c l=>
    simp only[Yh,Yv,Ya,List.headD_cons] at h4 |-
    omega
 have key:(decS (.mk k a nm p cons nb cs cb fs fb)).length<=500*(Con.sizes cons+Case.sizes cs+Fun.sizes fs+1) - 20:=by
  rw[decS]
  refine lbc (λ_=>?_) λ_=>lbc (λ_=>?_) λ_=>lbc (λh=>?_) λ_=>?_
  ·simp only[Yb,Ya,Ye];omega
  ·simp only[Yb,Ya,Ye];omega
  ·have hd:=I.data (of_decide_eq_true h)
   have hp:=Qgb p ⟨hd.2.2.1,hd.2.2.2.1⟩
   have hn:=Q3P hd.2.2.2.2.1
   simp only[Yb,Ya,Ye];omega
  ·simp only[Yb,Ya,Ye];omega
 simp only[Dec.size]
 omega
theorem Qdb:∀ m:Nat,(∀ e:Exp,e.size<=m->Go.Proofs.YtgfhplcmcdimiaaGreatDoor.RN (nodesExp e)->(expS e).length+20<=500*e.size)/\(∀ (d:Dec) (i:Bool),d.size<=m->Go.Proofs.YtgfhplcmcdimiaaGreatDoor.RN (nodesDec i d)->(i=true\/NumCons d.cons)->(decS d).length+20<=500*d.size)
 |0=>⟨λe h=>by cases e;simp only[Exp.size] at h;omega,λd i h=>by cases d;simp only[Dec.size] at h;omega⟩
 |m+1=>by
   obtain⟨HE,HD⟩:=Qdb m
   have HC:∀ cs:List Case,Case.sizes cs<=m->Go.Proofs.YtgfhplcmcdimiaaGreatDoor.RN (nodesCases cs)->∀ c ∈ cs,(patS c.pat).length+20<=500*c.pat.size/\(expS c.exp).length+20<=500*c.exp.size:=λcs hs hr c hc=>by
    have h1:=Case.mem_sizes hc
    have h2:=Go.Proofs.YtgfhplcmcdimiaaGreatDoor.RN.cases hr c hc
    cases c with
    |mk p e=>
      simp only[Case.size] at h1
      simp only[nodesCase] at h2
      exact⟨Q4M p.size p (Yg _) h2.l,HE e (by omega) h2.r⟩
   refine⟨λe h hr=>?_,λd i h hr hn=>?_⟩
   ·cases e with
    |mk k a nm n kids kb cs cb ds db=>
      simp only[Exp.size] at h
      simp only[nodesExp] at hr
      have I:ExpIs k n nm kids.length cs.length ds.length:=QaP (hr _ Yd)
      have hr':=hr.t
      refine QlW k a nm n kids kb cs cb ds db I (λe he=>?_) (HC cs (by omega) hr'.r.r) (λd hd=>?_)
      ·have:=Exp.mem_sizes he
       exact HE e (by omega) (Go.Proofs.YtgfhplcmcdimiaaGreatDoor.RN.exps hr'.r.l e he)
      ·have:=Dec.mem_sizes hd
       exact HD d true (by omega) (Go.Proofs.YtgfhplcmcdimiaaGreatDoor.RN.decs hr'.l d hd) (.inl rfl)
   ·cases d with
    |mk k a nm p cons nb cs cb fs fb=>
      simp only[Dec.size] at h
      simp only[nodesDec] at hr
      have I:DecIs k nm p cons.length cs.length fs.length i:=QaK (hr _ Yd)
      have hr':=hr.t
      refine QlR k a nm p cons nb cs cb fs fb i I (HC cs (by omega) hr'.l) (λf hf=>?_) (λc hc=>?_)
      ·have h1:=Fun.mem_sizes hf
       have h2:=Go.Proofs.YtgfhplcmcdimiaaGreatDoor.RN.funs hr'.r.l f hf
       refine⟨Q3P (QeJ hr'.r.l f hf),?_⟩
       cases f with
       |mk nm' a' c'=>
         cases c' with
         |mk p' e'=>
           simp only[Fun.size,Case.size] at h1
           simp only[Fun.case,nodesCase] at h2
           exact⟨Q4M p'.size p' (Yg _) h2.l,HE e' (by omega) h2.r⟩
      ·have h1:∀ n ∈ nodesCon c,n.wrong.1=0:=λn hn=>hr'.r.r n (Q3t hc n hn)
       have hw:wrongConB c=0:=h1 (.con c) (by unfold nodesCon;exact Yd)
       have hcap:capB c.name=true:=by
        unfold wrongConB at hw
        grind
       refine Qhv hcap λhh=>?_
       rcases hn with rfl|hn
       ·have hz:cons=[]:=by
         rcases I.inn rfl with h2|h2
         ·exact len0 (I.val h2).2.2
         ·exact len0 (I.fn h2).2.1
        rw[hz] at hc;cases hc
       ·exact⟨Q87 c.at_ c.arg λn hn=>h1 n (by unfold nodesCon;rw[hh];exact Yc _ hn),hn c hc hh⟩
theorem Q6m{e:Exp}(hr:Go.Proofs.YtgfhplcmcdimiaaGreatDoor.RN (nodesExp e)):(expS e).length+20<=500*e.size:=(Qdb e.size).1 e (Yg _) hr
theorem QhB{d:Dec}{i:Bool}(hr:Go.Proofs.YtgfhplcmcdimiaaGreatDoor.RN (nodesDec i d))(hn:i=true\/NumCons d.cons):(decS d).length+20<=500*d.size:=(Qdb d.size).2 d i (Yg _) hr hn
theorem QmD:∀ (l:List Str) (p:Option Str),tokSum l<=(textGo p l).length+l.length
 |[],p=>by simp[tokSum]
 |s::l,p=>by
   have:=QmD l (some s)
   rw[Q4l]
   have h:s.length<=(bif sepB p s then 32::s else s).length:=by cases sepB p s<;>simp
   simp only[textGo,Yb,Ya]
   omega
theorem Qj0(l:List Str):tokSum l<=(textB l).length+l.length:=QmD l none
end Go.Am
namespace Go.Proofs.YtgfhplcmcdimiaaGreatDoor
open Go Go.Am
set_option maxRecDepth 4000
section
variable {t1 t2 t3 t4 t5:TI} {a b c d e f:Str}
theorem adds2(h:a.length+b.length<=2^62):binS t1 .add (.val (.str a)) (.val (.str b))=some (.val (.str (a++b))):=Zw (by omega)
theorem adds3(h:a.length+b.length+c.length<=2^62):binS t1 .add (.val (.str a)) (.val (.str b))=some (.val (.str (a++b)))/\binS t2 .add (.val (.str (a++b))) (.val (.str c))=some (.val (.str (a++b++c))):=⟨Zw (by omega),Zw (by simp only[Yb];omega)⟩
theorem adds4(h:a.length+b.length+c.length+d.length<=2^62):binS t1 .add (.val (.str a)) (.val (.str b))=some (.val (.str (a++b)))/\binS t2 .add (.val (.str (a++b))) (.val (.str c))=some (.val (.str (a++b++c)))/\binS t3 .add (.val (.str (a++b++c))) (.val (.str d))=some (.val (.str (a++b++c++d))):=⟨Zw (by omega),Zw (by simp only[Yb];omega),Zw (by simp only[Yb];omega)⟩
theorem adds5(h:a.length+b.length+c.length+d.length+e.length<=2^62):binS t1 .add (.val (.str a)) (.val (.str b))=some (.val (.str (a++b)))/\binS t2 .add (.val (.str (a++b))) (.val (.str c))=some (.val (.str (a++b++c)))/\binS t3 .add (.val (.str (a++b++c))) (.val (.str d))=some (.val (.str (a++b++c++d)))/\binS t4 .add (.val (.str (a++b++c++d))) (.val (.str e))=some (.val (.str (a++b++c++d++e))):=⟨Zw (by omega),Zw (by simp only[Yb];omega),Zw (by simp only[Yb];omega),Zw (by simp only[Yb];omega)⟩
theorem adds6(h:a.length+b.length+c.length+d.length+e.length+f.length<=2^62):binS t1 .add (.val (.str a)) (.val (.str b))=some (.val (.str (a++b)))/\binS t2 .add (.val (.str (a++b))) (.val (.str c))=some (.val (.str (a++b++c)))/\binS t3 .add (.val (.str (a++b++c))) (.val (.str d))=some (.val (.str (a++b++c++d)))/\binS t4 .add (.val (.str (a++b++c++d))) (.val (.str e))=some (.val (.str (a++b++c++d++e)))/\binS t5 .add (.val (.str (a++b++c++d++e))) (.val (.str f))=some (.val (.str (a++b++c++d++e++f))):=⟨Zw (by omega),Zw (by simp only[Yb];omega),Zw (by simp only[Yb];omega),Zw (by simp only[Yb];omega),Zw (by simp only[Yb];omega)⟩
end
theorem Q1V(x:Str)(b:Bool)(h:x.length<2^60)(s:St):cw (.f Zc) [.str x,.bool b] s=some (.ret (.val (.str (parS b x))),s):=by
 obtain⟨b1,b2⟩:=adds3 (t1:=C.ti Q0) (t2:=C.ti Q0) (a:=[40]) (b:=x) (c:=[41]) (by simp only[Yl];omega)
 simp only[Yk,Ym] at b1 b2
 rw[Qe7]
 cases b with
 |true=>simp only[go_sem,b1,b2,parS]
 |false=>simp only[go_sem,parS]
theorem Qck(n:Int)(h:isIntB n=true)(s:St):cw (.f Q3I) [.int .i64 n] s=some (.ret (.val (.str (digS n))),s):=by
 have hf:=QeP h
 rw[Qe4]
 unfold digS
 cases hd:decide (n<0) with
 |true=>
   have hd':=of_decide_eq_true hd
   have hw:IntKind.i64.wrap (0 - n) = -n:=by rw[wrap64 (by omega) (by omega)];omega
   have e1:=Q5E (-n) (by omega) (by omega) s
   have hl:=Go.Lib.itoa_length_le (-n) (by omega) (by omega)
   have b1:=adds2 (t1:=C.ti Q0) (a:=[126]) (b:=Go.Lib.itoa (-n)) (by simp only[Yl];omega)
   simp only[Yk,Ym] at b1
   simp only[go_sem,hd,hw,e1,b1]
 |false=>
   have hd':=of_decide_eq_false hd
   have e1:=Q5E n (by omega) (by omega) s
   simp only[go_sem,hd,e1]
theorem QgG(p:Pat)(s:St):cw (.f Q4H) [p.enc] s=some (.ret (.val (.int .i64 (patLv p))),s):=by
 have c:=Pat.cells_eq p
 have hz:decide ((p.kids.length:Int)>0)=decide (p.kids.length>0):=by
  by_cases h:p.kids.length>0
  ·rw[decide_eq_true h,decide_eq_true (by omega)]
  ·rw[decide_eq_false h,decide_eq_false (by omega)]
 rw[QbW]
 unfold patLv
 cases h6:decide (p.kind=6) with
 |true=>simp only[go_sem,Nat.reduceAdd,Nat.reduceLeDiff,c,h6]
 |false=>
   cases h4:decide (p.kind=4) with
   |false=>simp only[go_sem,Nat.reduceAdd,Nat.reduceLeDiff,c,h6,h4]
   |true=>
     cases hk:decide (p.kids.length>0) with
     |true=>rw[hk] at hz;simp only[go_sem,Nat.reduceAdd,Nat.reduceLeDiff,c,h6,h4,Q4,Yi,hz]
     |false=>rw[hk] at hz;simp only[go_sem,Nat.reduceAdd,Nat.reduceLeDiff,c,h6,h4,Q4,Yi,hz]
structure PartP (p:Pat):Prop where
 ok:∀ s,cw (.f Q0q) [p.enc] s=some (.ret (.val (.str (patS p))),s)
 len:(patS p).length<2^40
theorem Q6u{p:Pat}(H:PartP p)(lv:Int)(s:St):cw (.f Q0M) [p.enc,.int .i64 lv] s=some (.ret (.val (.str (parS (decide (patLv p<lv)) (patS p)))),s):=by
 have e1:=H.ok s
 have e2:=QgG p s
 have e3:=λb=>Q1V (patS p) b (by have:=H.len;omega) s
 have c:=Pat.cells_eq p
 rw[QiG]
 simp only[Pat.enc,c] at e1 e2
 simp only[go_sem,Nat.reduceAdd,Nat.reduceLeDiff,c,e1,e2,e3]
theorem Qb6(p:Pat)(hl:p.kids.length<2^40)(H:∀ q ∈ p.kids,PartP q)(s:St):∀ (suf pre:List Pat) (acc:Str) (i:Nat),pre++suf=p.kids->i=pre.length->acc.length+((patSs suf 0).map (·.length)).sum+10*suf.length<2^50->
  Q1e (p.cells.map .val) (.val (.str acc)) (.val (.int .i64 p.kids.length)) (.val (.int .i64 i)) s=some (.ret (.val (.str (40::(acc++joinS [44,32] (patSs suf 0) (decide (pre.length=0))++[41])))),s)
 |[],pre,acc,i,h,hi,hb=>by
   subst hi
   obtain⟨b1,b2⟩:=adds3 (t1:=C.ti Q0) (t2:=C.ti Q0) (a:=[40]) (b:=acc) (c:=[41]) (by simp only[Yl];omega)
   simp only[Yk,Ym] at b1 b2
   rw[Q66]
   simp only[go_sem,Pat.cells_eq p,Qg (by simpa using h),b1,b2,patSs,joinS,Yr]
 |q::suf,pre,acc,i,h,hi,hb=>by
   subst hi
   have c:=Pat.cells_eq p
   have cq:=Pat.cells_eq q
   obtain⟨f1,f2,f3⟩:=Qe (x:=.val (encS p.kb (p.kids.map Pat.enc))) (Q4 _ _) h (by omega) (Pat.cells_len q) (by decide)
   have e1:=Q6u (H q (by rw[<-h];simp)) 0 s
   have hu:patSs (q::suf) 0=parS (decide (patLv q<0)) (patS q)::patSs suf 0:=rfl
   rw[hu] at hb |-
   simp only[Yh,Yv,Ya] at hb
   have hd1:decide ((pre++[q]).length=0)=false:=decide_eq_false (by simp)
   have IH:=λ(acc':Str) (hb':acc'.length+((patSs suf 0).map (·.length)).sum+10*suf.length<2^50)=>Qb6 p hl H s suf (pre++[q]) acc' (pre.length+1) (by simpa using h) (by simp) hb'
   rw[hd1] at IH
   generalize parS (decide (patLv q<0)) (patS q)=y at *
   rw[Q66]
   simp only[Pat.enc,cq] at e1 f2
   cases hz:decide (pre.length=0) with
   |true=>
     have hz':=of_decide_eq_true hz
     have z:decide ((pre.length:Int)>0)=false:=decide_eq_false (by omega)
     have b1:=adds2 (t1:=C.ti Q0) (a:=acc) (b:=y) (by omega)
     have ih:=IH (acc++y) (by simp only[Yb];omega)
     simp only[go_sem,Nat.reduceAdd,Nat.reduceLeDiff,c,f1,f2,f3,z,Q65,e1,b1,joinS,Yj] at ih |-
     exact ih
   |false=>
     have hz':=of_decide_eq_false hz
     have z:decide ((pre.length:Int)>0)=true:=decide_eq_true (by omega)
     obtain⟨b1,b2⟩:=adds3 (t1:=C.ti Q0) (t2:=C.ti Q0) (a:=acc) (b:=[44,32]) (c:=y) (by simp only[Ya,Ye];omega)
     have ih:=IH (acc++[44,32]++y) (by simp only[Yb,Ya,Ye];omega)
     simp only[go_sem,Nat.reduceAdd,Nat.reduceLeDiff,c,f1,f2,f3,z,Q65,e1,b1,b2,joinS,Yj] at ih |-
     exact ih
theorem Qph(p:Pat):patS p =
  bif decide (p.kind=1) then [95]
  else bif decide (p.kind=3) then digS p.n
  else bif decide (p.kind=6) then p.name++([32,97,115,32]++(patSs p.kids 0).getD 0 [])
  else bif decide (p.kind=5) then 40::(joinS [44,32] (patSs p.kids 0) true++[41])
  else bif decide (p.kids.length>0) then p.name++(32::(patSs p.kids 2).getD 0 [])
  else p.name:=by cases p;simp only[patS];rfl
theorem Qis{kids:List Pat}{q:Pat}(h:kids[0]? = some q)(lv:Int):(patSs kids lv).getD 0 []=parS (decide (patLv q<lv)) (patS q):=by
 rw[Q6N]
 simp[List.getD_eq_getElem?_getD,h]
theorem Q97:∀ (m:Nat) (p:Pat),p.size<=m->p.size<2^26->(∀ n ∈ nodesPat p,n.wrong.1=0)->PartP p
 |0,p,h,_,_=>by cases p;simp only[Pat.size] at h;omega
 |m+1,p,h,hb,hr=>by
   have hsz:Pat.sizes p.kids+1=p.size:=by cases p;simp only[Pat.size,Pat.kids]
   have hlen:=Pat.len_sizes p.kids
   have hL:=Q4M p.size p (Yg _) hr
   have hr2:wrongPatB p=0/\∀ nd ∈ nodesPats p.kids,nd.wrong.1=0:=by
    cases p with
    |mk k a nm n kids b=>
      simp only[nodesPat,List.forall_mem_cons] at hr
      exact hr
   have I:=QdG hr2.1
   have HV:∀ q ∈ p.kids,PartP q:=λq hq=>by
    have:=Pat.mem_sizes hq
    exact Q97 m q (by omega) (by omega) (pats_wrong hr2.2 q hq)
   have HL:∀ q ∈ p.kids,(patS q).length+20<=500*q.size:=λq hq=>Q4M q.size q (Yg _) (pats_wrong hr2.2 q hq)
   have S0:=Qb5 HL 0
   have c:=Pat.cells_eq p
   refine⟨λs=>?_,by omega⟩
   rw[Qph,Qd6]
   cases h1:decide (p.kind=1) with
   |true=>simp only[go_sem,Nat.reduceAdd,Nat.reduceLeDiff,c,h1]
   |false=>
     cases h3:decide (p.kind=3) with
     |true=>
       have e1:=Qck p.n (I.int (of_decide_eq_true h3)) s
       simp only[go_sem,Nat.reduceAdd,Nat.reduceLeDiff,c,h1,h3,e1]
     |false=>
       cases h6:decide (p.kind=6) with
       |true=>
         obtain⟨q,hq⟩:∃ q,p.kids[0]? = some q:=⟨p.kids[0]'(by have:=(I.as_ (of_decide_eq_true h6)).2;omega),by simp⟩
         have hqm:=Ys hq
         have f0:=Q9f p hq
         rw[show ((0:Nat):Int)=0 from rfl] at f0
         have e1:=Q6u (HV q hqm) 0 s
         have hn:=Q3P (I.as_ (of_decide_eq_true h6)).1
         have hq2:=Q0D (decide (patLv q<0)) (patS q)
         have hq3:=(HV q hqm).len
         simp only[Qis hq]
         have cq:=Pat.cells_eq q
         simp only[Pat.enc,cq] at e1 f0
         generalize parS (decide (patLv q<0)) (patS q)=y at *
         obtain⟨b1,b2⟩:=adds3 (t1:=C.ti Q0) (t2:=C.ti Q0) (a:=p.name) (b:=[32,97,115,32]) (c:=y) (by simp only[Ya,Ye];omega)
         simp only[go_sem,Nat.reduceAdd,Nat.reduceLeDiff,c,h1,h3,h6,f0,e1,b1,b2]
       |false=>
         cases h5:decide (p.kind=5) with
         |true=>
           have e1:=Qb6 p (by omega) HV s p.kids [] [] 0 rfl rfl (by simp only[Ye];omega)
           rw[show ((0:Nat):Int)=0 from rfl] at e1
           simp only[go_sem,Nat.reduceAdd,Nat.reduceLeDiff,c,h1,h3,h6,h5,Q4,Yi,Ym,Ye,decide_true] at e1 |-
           exact e1
         |false=>
           cases hk:decide (p.kids.length>0) with
           |false=>
             have hk':decide ((p.kids.length:Int)>0)=false:=decide_eq_false (by have:=of_decide_eq_false hk;omega)
             simp only[go_sem,Nat.reduceAdd,Nat.reduceLeDiff,c,h1,h3,h6,h5,Q4,Yi,hk']
           |true=>
             have hk0:=of_decide_eq_true hk
             have hk':decide ((p.kids.length:Int)>0)=true:=decide_eq_true (by omega)
             obtain⟨q,hq⟩:∃ q,p.kids[0]? = some q:=⟨p.kids[0],by simp[hk0]⟩
             have hqm:=Ys hq
             have f0:=Q9f p hq
             rw[show ((0:Nat):Int)=0 from rfl] at f0
             have e1:=Q6u (HV q hqm) 2 s
             have hkn:p.kind=2\/p.kind=4:=by
              have:=I.kind
              have:=of_decide_eq_false h1
              have:=of_decide_eq_false h3
              have:=of_decide_eq_false h6
              have:=of_decide_eq_false h5
              omega
             have hn:p.name.length<=32:=by
              rcases hkn with hk|hk
              ·exact Q3P (I.var hk)
              ·exact QbD (I.con hk).1
             have hq2:=Q0D (decide (patLv q<2)) (patS q)
             have hq3:=(HV q hqm).len
             simp only[Qis hq]
             have cq:=Pat.cells_eq q
             simp only[Pat.enc,cq] at e1 f0
             generalize parS (decide (patLv q<2)) (patS q)=y at *
             obtain⟨b1,b2⟩:=adds3 (t1:=C.ti Q0) (t2:=C.ti Q0) (a:=p.name) (b:=[32]) (c:=y) (by simp only[Ya,Ye];omega)
             simp only[Yj,Yk,Ym] at b1 b2
             simp only[go_sem,Nat.reduceAdd,Nat.reduceLeDiff,c,h1,h3,h6,h5,Q4,Yi,hk',f0,e1,b1,b2]
open Go Go.Am
set_option maxRecDepth 4000
theorem Q5y(e:Exp)(s:St):cw (.f ZK) [e.enc] s=some (.ret (.val (.int .i64 (levE e))),s):=by
 have c:=Exp.cells_eq e
 have hz:decide ((e.kids.length:Int)>0)=decide (e.kids.length>0):=by
  by_cases h:e.kids.length>0
  ·rw[decide_eq_true h,decide_eq_true (by omega)]
  ·rw[decide_eq_false h,decide_eq_false (by omega)]
 rw[Qfk,QeS]
 cases h12:decide (e.kind=12) with
 |true=>simp only[go_sem,Nat.reduceAdd,c,h12,Qy,Yx,cond_true]
 |false=>
 cases h5:decide (e.kind=5) with
 |true=>simp only[go_sem,Nat.reduceAdd,c,h12,h5,Qy,Yx,Bool.or_true,Yt,cond_true]
 |false=>
 cases h8:decide (e.kind=8) with
 |true=>simp only[go_sem,Nat.reduceAdd,c,h12,h5,h8,Qy,Yx,Bool.or_true,Yt,cond_true]
 |false=>
 cases h9:decide (e.kind=9) with
 |true=>simp only[go_sem,Nat.reduceAdd,c,h12,h5,h8,h9,Qy,Yx,Bool.or_true,Yt,cond_true]
 |false=>
 cases h18:decide (e.kind=18) with
 |true=>simp only[go_sem,Nat.reduceAdd,c,h12,h5,h8,h9,h18,Qy,Yx,Bool.or_true,Yt,cond_true,cond_false]
 |false=>
 cases h11:decide (e.kind=11) with
 |true=>simp only[go_sem,Nat.reduceAdd,c,h12,h5,h8,h9,h18,h11,Qy,Yx,Bool.or_true,Yt,cond_true,cond_false]
 |false=>
 cases h15:decide (e.kind=15) with
 |true=>simp only[go_sem,Nat.reduceAdd,c,h12,h5,h8,h9,h18,h11,h15,Qy,Yx,Bool.or_true,Yt,cond_true,cond_false]
 |false=>
 cases h14:decide (e.kind=14) with
 |true=>simp only[go_sem,Nat.reduceAdd,c,h12,h5,h8,h9,h18,h11,h15,h14,Qy,Yx,Bool.or_true,Yt,cond_true,cond_false]
 |false=>
 cases h6:decide (e.kind=6) with
 |true=>simp only[go_sem,Nat.reduceAdd,c,h12,h5,h8,h9,h18,h11,h15,h14,h6,Qy,QT,Yx,Bool.or_true,Yt,cond_true,cond_false]
 |false=>
 cases h16:decide (e.kind=16) with
 |true=>simp only[go_sem,Nat.reduceAdd,c,h12,h5,h8,h9,h18,h11,h15,h14,h6,h16,Qy,QT,Yx,Bool.or_true,Yt,cond_true,cond_false]
 |false=>
 cases h17:decide (e.kind=17) with
 |true=>simp only[go_sem,Nat.reduceAdd,c,h12,h5,h8,h9,h18,h11,h15,h14,h6,h16,h17,Qy,QT,Yx,Bool.or_true,Yt,cond_true,cond_false]
 |false=>
 cases h19:decide (e.kind=19) with
 |true=>simp only[go_sem,Nat.reduceAdd,c,h12,h5,h8,h9,h18,h11,h15,h14,h6,h16,h17,h19,Qy,QT,Yx,Bool.or_true,Yt,cond_true,cond_false]
 |false=>
 cases h13:decide (e.kind=13) with
 |true=>
   cases hn6:decide (e.n≥6) with
   |true=>simp only[go_sem,Nat.reduceAdd,c,h12,h5,h8,h9,h18,h11,h15,h14,h6,h16,h17,h19,h13,hn6,Qy,QT,Yt,cond_true,cond_false]
   |false=>
     cases hn2:decide (e.n<=2) with
     |true=>simp only[go_sem,Nat.reduceAdd,c,h12,h5,h8,h9,h18,h11,h15,h14,h6,h16,h17,h19,h13,hn6,hn2,Qy,QT,Yt,cond_true,cond_false]
     |false=>simp only[go_sem,Nat.reduceAdd,c,h12,h5,h8,h9,h18,h11,h15,h14,h6,h16,h17,h19,h13,hn6,hn2,Qy,QT,Yt,cond_true,cond_false]
 |false=>
 cases h3:decide (e.kind=3) with
 |false=>simp only[go_sem,Nat.reduceAdd,c,h12,h5,h8,h9,h18,h11,h15,h14,h6,h16,h17,h19,h13,h3,Qy,QT,Yt,Bool.false_and,cond_true,cond_false]
 |true=>
   cases hk:decide (e.kids.length>0) with
   |true=>rw[hk] at hz;simp only[go_sem,Nat.reduceAdd,c,h12,h5,h8,h9,h18,h11,h15,h14,h6,h16,h17,h19,h13,h3,Q4,Yi,hz,Qy,QT,Yt,Bool.true_and,cond_true,cond_false]
   |false=>rw[hk] at hz;simp only[go_sem,Nat.reduceAdd,c,h12,h5,h8,h9,h18,h11,h15,h14,h6,h16,h17,h19,h13,h3,Q4,Yi,hz,Qy,QT,Yt,Bool.true_and,cond_true,cond_false]
theorem QfB:∀ (m:Nat) (e:Exp),e.size<=m->RN (nodesExp e)->∀ s:St,cw (.f Q0h) [e.enc] s=some (.ret (.val (.bool (openE e))),s)
 |0,e,h,_=>by have:=Q9M e;omega
 |m+1,e,h,hr=>λs=>by
   have hsz:=Q9M e
   have I:=Q8D hr
   obtain⟨hk,-,-⟩:=QhK hr
   have HV:∀ q ∈ e.kids,∀ s,cw (.f Q0h) [q.enc] s=some (.ret (.val (.bool (openE q))),s):=λq hq=>by
    have:=Exp.mem_sizes hq
    exact QfB m q (by omega) (hk q hq)
   have c:=Exp.cells_eq e
   rw[Qip,QgU]
   cases h5:decide (e.kind=5) with
   |true=>simp only[go_sem,Nat.reduceAdd,c,h5,Zo,cond_true,cond_false,Yx,Bool.or_true,Yt]
   |false=>
     cases h9:decide (e.kind=9) with
     |true=>simp only[go_sem,Nat.reduceAdd,c,h5,h9,Zo,cond_true,cond_false,Yx,Bool.or_true,Yt]
     |false=>
       cases h11:decide (e.kind=11) with
       |true=>simp only[go_sem,Nat.reduceAdd,c,h5,h9,h11,Zo,cond_true,cond_false,Yx,Bool.or_true,Yt]
       |false=>
         have last:∀ n:Nat,e.kids.length=n+1->∃ q,e.kids[n]? = some q/\(openEs e.kids).getLastD false=openE q:=λn hn=>by
          rw[Q5D];exact Qki hn
         cases h12:decide (e.kind=12) with
         |true=>
           obtain⟨q,hq,hl⟩:=last 0 (by have:=I.one (.inl (of_decide_eq_true h12));omega)
           have f0:=ZU e hq
           have e1:=HV q (Ys hq) s
           have hn1:((e.kids.length:Nat):Int)=1:=by have:=I.one (.inl (of_decide_eq_true h12));omega
           have w:IntKind.i64.wrap 0=0:=rfl
           rw[show ((0:Nat):Int)=0 from rfl] at f0
           simp only[Exp.enc] at e1
           simp only[go_sem,Int.reduceSub,Nat.reduceAdd,Nat.reduceLeDiff,c,h5,h9,h11,h12,Zo,Q1b,Q4,Yi,hn1,w,f0,e1,hl]
         |false=>
           cases h8:decide (e.kind=8) with
           |true=>
             obtain⟨q,hq,hl⟩:=last 2 (by have:=I.if_ (of_decide_eq_true h8);omega)
             have f0:=ZU e hq
             have e1:=HV q (Ys hq) s
             have hn1:((e.kids.length:Nat):Int)=3:=by have:=I.if_ (of_decide_eq_true h8);omega
             have w:IntKind.i64.wrap 2=2:=rfl
             rw[show ((2:Nat):Int)=2 from rfl] at f0
             simp only[Exp.enc] at e1
             simp only[go_sem,Int.reduceSub,Nat.reduceAdd,Nat.reduceLeDiff,c,h5,h9,h11,h12,h8,Zo,Q1b,Q4,Yi,hn1,w,f0,e1,hl]
           |false=>
             cases h18:decide (e.kind=18) with
             |true=>
               obtain⟨x,y,hxy⟩:∃ x y,e.kids=[x,y]:=Qeq (by have:=I.two (.inr (.inr (.inr (of_decide_eq_true h18))));omega)
               have f1:=ZU e (i:=1) (q:=y) (by rw[hxy];rfl)
               have hym:y ∈ e.kids:=by rw[hxy];simp
               have e1:=Q5y y s
               have e2:=HV y hym s
               have a1:(e.kids.map levE).getD 1 0=levE y:=by rw[hxy];rfl
               have a2:(openEs e.kids).getD 1 false=openE y:=by rw[Q5D,hxy];rfl
               rw[show ((1:Nat):Int)=1 from rfl] at f1
               rw[a1,a2]
               simp only[Exp.enc] at e1 e2
               cases hg:decide (levE y>0) with
               |true=>simp only[go_sem,Nat.reduceAdd,Nat.reduceLeDiff,c,h5,h9,h11,h12,h8,h18,Zo,Q1b,f1,e1,hg,e2]
               |false=>simp only[go_sem,Nat.reduceAdd,Nat.reduceLeDiff,c,h5,h9,h11,h12,h8,h18,Zo,Q1b,f1,e1,hg]
             |false=>simp only[go_sem,Nat.reduceAdd,c,h5,h9,h11,h12,h8,h18,Zo,Q1b]
structure PartX (e:Exp):Prop where
 ok:∀ s,cw (.f Zg) [e.enc] s=some (.ret (.val (.str (expS e))),s)
 rn:RN (nodesExp e)
 len:(expS e).length<2^40
theorem Q1Q{e:Exp}(H:PartX e)(lv:Int)(s:St):cw (.f QA) [e.enc,.int .i64 lv] s=some (.ret (.val (.str (parS (decide (levE e<lv)) (expS e)))),s):=by
 have e1:=H.ok s
 have e2:=Q5y e s
 have e3:=λb=>Q1V (expS e) b (by have:=H.len;omega) s
 have c:=Exp.cells_eq e
 rw[QiF]
 simp only[Exp.enc,c] at e1 e2
 simp only[go_sem,Nat.reduceAdd,Nat.reduceLeDiff,c,e1,e2,e3]
theorem Qns(e:Exp):decide (levE e<0)=false:=by
 rw[QeS]
 cases decide (e.kind=12) || decide (e.kind=5) || decide (e.kind=8) || decide (e.kind=9)<;>cases decide (e.kind=18)<;>cases decide (e.kind=11)<;>cases decide (e.kind=15)<;>cases decide (e.kind=14)<;>cases decide (e.kind=6) || decide (e.kind=16) || decide (e.kind=17) || decide (e.kind=19)<;>cases decide (e.kind=13)<;>cases decide (e.n≥6)<;>cases decide (e.n<=2)<;>cases decide (e.kind=3)&&decide (e.kids.length>0)<;>rfl
theorem Q1x{e:Exp}(H:PartX e)(s:St):cw (.f QA) [e.enc,.int .i64 0] s=some (.ret (.val (.str (expS e))),s):=by
 rw[Q1Q H 0 s,Qns];rfl
theorem Qpf(n:Int)(hn:1<=n/\n<=9)(s:St):cw (.f Q7L) [.int .i64 n] s=some (.ret (.val (.str (32::(opN n++[32])))),s):=by
 have hl:=QeY n
 obtain⟨b1,b2⟩:=adds3 (t1:=C.ti Q0) (t2:=C.ti Q0) (a:=[32]) (b:=opN n) (c:=[32]) (by simp only[Yl];omega)
 have f0:ixS 1 (.full [.str [],.str [43],.str [45],.str [42],.str [100,105,118],.str [109,111,100],.str [61],.str [60,62],.str [60],.str [60,61]]) (.val (.int .i64 n))=some (.val (.cp [.str (opN n)])):=by
  have:n=1\/n=2\/n=3\/n=4\/n=5\/n=6\/n=7\/n=8\/n=9:=by omega
  rcases this with rfl|rfl|rfl|rfl|rfl|rfl|rfl|rfl|rfl<;>rfl
 simp only[Yj,Yk,Ym] at b1 b2
 rw[QjJ]
 simp only[go_sem,Nat.reduceAdd,Nat.reduceLeDiff,f0,b1,b2]
theorem ZS{l:List Exp}{b:Bool}{i:Nat}{q:Exp}(hi:l[i]? = some q):ixS 7 (.val (encS b (l.map Exp.enc))) (.val (.int .i64 (i:Int)))=some (.val (.cp q.cells)):=
 Q0X (Q4 _ _) (show (l.map Exp.enc)[i]? = some q.enc by simp[hi]) (Exp.cells_len q) (by decide)
theorem Qg7(l:List Exp)(b:Bool)(sep:Str)(hsep:sep.length<=5)(hl:l.length<2^40)(H:∀ q ∈ l,PartX q)(s:St):∀ (suf pre:List Exp) (acc:Str) (i:Nat),pre++suf=l->i=pre.length->acc.length+((suf.map expS).map (·.length)).sum+10*suf.length<2^50->
  Q2V (.val (encS b (l.map Exp.enc))) (.val (.str sep)) (.val (.str acc)) (.val (.int .i64 l.length)) (.val (.int .i64 i)) s=some (.ret (.val (.str (40::(acc++joinS sep (suf.map expS) (decide (pre.length=0))++[41])))),s)
 |[],pre,acc,i,h,hi,hb=>by
   subst hi
   obtain⟨b1,b2⟩:=adds3 (t1:=C.ti Q0) (t2:=C.ti Q0) (a:=[40]) (b:=acc) (c:=[41]) (by simp only[Yl];omega)
   simp only[Yk,Ym] at b1 b2
   rw[Q8o]
   simp only[go_sem,Qg (by simpa using h),b1,b2,Yo,joinS,Yr]
 |q::suf,pre,acc,i,h,hi,hb=>by
   subst hi
   have cq:=Exp.cells_eq q
   obtain⟨f1,f2,f3⟩:=Qe (x:=.val (encS b (l.map Exp.enc))) (Q4 _ _) h (by omega) (Exp.cells_len q) (by decide)
   have e1:=Q1x (H q (by rw[<-h];simp)) s
   simp only[Yh,Yv,Ya] at hb |-
   have hd1:decide ((pre++[q]).length=0)=false:=decide_eq_false (by simp)
   have IH:=λ(acc':Str) (hb':acc'.length+((suf.map expS).map (·.length)).sum+10*suf.length<2^50)=>Qg7 l b sep hsep hl H s suf (pre++[q]) acc' (pre.length+1) (by simpa using h) (by simp) hb'
   rw[hd1] at IH
   generalize expS q=y at *
   rw[Q8o]
   simp only[Exp.enc,cq] at e1 f2
   cases hz:decide (pre.length=0) with
   |true=>
     have hz':=of_decide_eq_true hz
     have z:decide ((pre.length:Int)>0)=false:=decide_eq_false (by omega)
     have b1:=adds2 (t1:=C.ti Q0) (a:=acc) (b:=y) (by omega)
     have ih:=IH (acc++y) (by simp only[Yb];omega)
     simp only[go_sem,Nat.reduceAdd,Nat.reduceLeDiff,f1,f2,f3,z,Q8n,e1,b1,joinS,Yj] at ih |-
     exact ih
   |false=>
     have hz':=of_decide_eq_false hz
     have z:decide ((pre.length:Int)>0)=true:=decide_eq_true (by omega)
     obtain⟨b1,b2⟩:=adds3 (t1:=C.ti Q0) (t2:=C.ti Q0) (a:=acc) (b:=sep) (c:=y) (by omega)
     have ih:=IH (acc++sep++y) (by simp only[Yb];omega)
     simp only[go_sem,Nat.reduceAdd,Nat.reduceLeDiff,f1,f2,f3,z,Q8n,e1,b1,b2,joinS,Yj] at ih |-
     exact ih
theorem Qmf(l:List Exp)(b:Bool)(sep:Str)(hsep:sep.length<=5)(hl:l.length<2^30)(H:∀ q ∈ l,PartX q)(hs:((l.map expS).map (·.length)).sum<2^45)(s:St):cw (.f Q21) [encS b (l.map Exp.enc),.str sep] s=some (.ret (.val (.str (40::(joinS sep (l.map expS) true++[41])))),s):=by
 have e1:=Qg7 l b sep hsep (by omega) H s l [] [] 0 rfl rfl (by simp only[Ye];omega)
 rw[show ((0:Nat):Int)=0 from rfl] at e1
 rw[QgX]
 simp only[go_sem,Q4,Yi,Ye,Ym,decide_true] at e1 |-
 exact e1
structure PartY (c:Case):Prop where
 p:PartP c.pat
 e:PartX c.exp
def caseY(c:Case)(last:Bool):Str:=patS c.pat++([32,61,62,32]++parS (!last&&openE c.exp) (expS c.exp))
theorem Qjn(c:Case)(l:List Case)(f:Bool):caseS (caseSs (c::l)) f=caseY c l.isEmpty::caseS (caseSs l) false:=by
 rw[Q0f,Q0f]
 simp only[Yh,caseS,caseY]
 cases l<;>rfl
theorem Qa1(p:Pat):decide (patLv p<0)=false:=by
 unfold patLv
 cases decide (p.kind=6)<;>cases decide (p.kind=4)&&decide (p.kids.length>0)<;>rfl
theorem Qdu(cs:List Case)(b:Bool)(hl:cs.length<2^40)(H:∀ c ∈ cs,PartY c)(s:St):∀ (suf pre:List Case) (acc:Str) (i:Nat),pre++suf=cs->i=pre.length->acc.length+((caseSs suf).map λx=>x.1.length+x.2.1.length+10).sum<2^50->
  Q2p (.val (encS b (cs.map Case.enc))) (.val (.str acc)) (.val (.int .i64 cs.length)) (.val (.int .i64 i)) s=some (.ret (.val (.str (acc++joinS [32,124,32] (caseS (caseSs suf) true) (decide (pre.length=0))))),s)
 |[],pre,acc,i,h,hi,hb=>by
   subst hi
   have hn:caseSs []=[]:=by rw[caseSs]
   rw[Q7v,hn]
   simp only[go_sem,Qg (by simpa using h),caseS,joinS,Yr]
 |c::suf,pre,acc,i,h,hi,hb=>by
   subst hi
   obtain⟨f1,f2',f3⟩:=Qe (x:=.val (encS b (cs.map Case.enc))) (Q4 _ _) h (by omega) (Case.cells_len c) (by decide)
   have f2:ixS 12 (.val (encS b (cs.map Case.enc))) (.val (.int .i64 (pre.length:Int)))=some (.val (.cp c.cells)):=f2'
   clear f2'
   have hc:=H c (by rw[<-h];simp)
   have cc:c.cells=_:=Case.cells_eq c
   have cp:=Pat.cells_eq c.pat
   have ce:=Exp.cells_eq c.exp
   have e1:=Q6u hc.p 0 s
   rw[Qa1] at e1
   have e2:=hc.e.ok s
   have e3:=QfB c.exp.size c.exp (Yg _) hc.e.rn s
   have e4:=λb=>Q1V (expS c.exp) b (by have:=hc.e.len;omega) s
   have hlen:cs.length=pre.length+1+suf.length:=by rw[<-h];simp;omega
   have w1:IntKind.i64.wrap ((cs.length:Int) - 1)=((cs.length - 1:Nat):Int):=by rw[wrap64 (by omega) (by omega)];omega
   have hlast:decide ((pre.length:Int)<((cs.length - 1:Nat):Int)) = !suf.isEmpty:=by
    cases suf with
    |nil=>simp at hlen;exact decide_eq_false (by omega)
    |cons x l=>simp at hlen;exact decide_eq_true (by omega)
   have hsum:((caseSs (c::suf)).map λx=>x.1.length+x.2.1.length+10).sum=(patS c.pat).length+(expS c.exp).length+10+((caseSs suf).map λx=>x.1.length+x.2.1.length+10).sum:=by
    rw[Q0f,Q0f];rfl
   rw[hsum] at hb
   rw[Qjn]
   have hy:∀ l,caseS (caseSs suf) false=l->caseS (caseSs suf) true=l:=by
    intro l hl
    rw[<-hl]
    cases hq:caseSs suf with
    |nil=>rfl
    |cons x l=>obtain⟨p,e,o⟩:=x;rfl
   have hsame:=hy _ rfl
   have hd1:decide ((pre++[c]).length=0)=false:=decide_eq_false (by simp)
   have IH:=λ(acc':Str) (hb':acc'.length+((caseSs suf).map λx=>x.1.length+x.2.1.length+10).sum<2^50)=>Qdu cs b hl H s suf (pre++[c]) acc' (pre.length+1) (by simpa using h) (by simp) hb'
   rw[hd1,hsame] at IH
   have hw:=Q0D (!suf.isEmpty&&openE c.exp) (expS c.exp)
   have hpz:parS false (patS c.pat)=patS c.pat:=rfl
   rw[hpz] at e1
   unfold caseY
   rw[Q7v]
   rw[cc,cp,ce] at f2
   simp only[Yk,Ym] at f2
   simp only[Pat.enc,cp] at e1
   simp only[Exp.enc,ce] at e2 e3
   have J:∀ acc1:Str,acc1.length+(patS c.pat).length+(expS c.exp).length+7+((caseSs suf).map λx=>x.1.length+x.2.1.length+10).sum<2^50->
     Q2o (.val (encS b (cs.map Case.enc))) (.val (.str acc1)) (.val (.int .i64 pre.length)) (.val (.int .i64 cs.length)) (.val (.int .i64 pre.length)) s=some (.ret (.val (.str (acc1++(patS c.pat++([32,61,62,32]++parS (!suf.isEmpty&&openE c.exp) (expS c.exp)))++joinS [32,124,32] (caseS (caseSs suf) false) false))),s):=λacc1 hb1=>by
    have ih:=IH (acc1++(patS c.pat++([32,61,62,32]++parS (!suf.isEmpty&&openE c.exp) (expS c.exp)))) (by simp only[Yb,Ya,Ye];omega)
    obtain⟨b1,b2,b3⟩:=adds4 (t1:=C.ti Q0) (t2:=C.ti Q0) (t3:=C.ti Q0) (a:=acc1) (b:=patS c.pat) (c:=[32,61,62,32]) (d:=parS (!suf.isEmpty&&openE c.exp) (expS c.exp)) (by simp only[Ya,Ye];omega)
    simp only[Yj,Yk,Ym] at b1 b2 b3 ih
    rw[QbU]
    cases hs:suf.isEmpty with
    |true=>
      rw[hs] at hlast b3 ih
      simp only[Bool.not_true,Bool.false_and] at hlast b3 ih
      have e5:=e4 false
      simp only[go_sem,Nat.reduceAdd,Nat.reduceLeDiff,f2,f3,e1,b1,b2,e2,Q4,Yi,w1,hlast,e5,b3,ih,Yj,Yk,Ym]
    |false=>
      rw[hs] at hlast b3 ih
      simp only[Bool.not_false,Bool.true_and] at hlast b3 ih
      have e5:=e4 (openE c.exp)
      simp only[go_sem,Nat.reduceAdd,Nat.reduceLeDiff,f2,f3,e1,b1,b2,e2,Q4,Yi,w1,hlast,e3,e5,b3,ih,Yj,Yk,Ym]
   cases hz:decide (pre.length=0) with
   |true=>
     have hz':=of_decide_eq_true hz
     have z:decide ((pre.length:Int)>0)=false:=decide_eq_false (by omega)
     have j:=J acc (by omega)
     simp only[go_sem,f1,z,j,joinS,Yj,Yk,Ym]
   |false=>
     have hz':=of_decide_eq_false hz
     have z:decide ((pre.length:Int)>0)=true:=decide_eq_true (by omega)
     have b1:=adds2 (t1:=C.ti Q0) (a:=acc) (b:=[32,124,32]) (by simp only[Ya,Ye];omega)
     have j:=J (acc++[32,124,32]) (by simp only[Yb,Ya,Ye];omega)
     simp only[go_sem,f1,z,b1,j,joinS,Yj,Yk,Ym]
theorem Q9J(cs:List Case)(b:Bool)(hl:cs.length<2^30)(H:∀ c ∈ cs,PartY c)(hs:((caseSs cs).map λx=>x.1.length+x.2.1.length+10).sum<2^45)(s:St):cw (.f Q0A) [encS b (cs.map Case.enc)] s=some (.ret (.val (.str (joinS [32,124,32] (caseS (caseSs cs) true) true))),s):=by
 have e1:=Qdu cs b (by omega) H s cs [] [] 0 rfl rfl (by simp only[Ye];omega)
 rw[show ((0:Nat):Int)=0 from rfl] at e1
 rw[Qfl]
 simp only[go_sem,Q4,Yi,Ye,Ym,decide_true] at e1 |-
 exact e1
end Go.Proofs.YtgfhplcmcdimiaaGreatDoor
namespace Go.Am
open Go
theorem QJ{kids:List Exp}{i:Nat}{q:Exp}(h:kids[i]? = some q)(lv:Int):atS (expSs kids) i lv=parS (decide (levE q<lv)) (expS q):=by
 unfold atS
 have:(expSs kids).getD i ([],9)=(expS q,levE q):=by rw[Q0k];simp[List.getD_eq_getElem?_getD,h]
 rw[this]
theorem Q4Z{kids:List Exp}{i:Nat}{q:Exp}(h:kids[i]? = some q):(expSs kids).getD i ([],9)=(expS q,levE q):=by
 rw[Q0k];simp[List.getD_eq_getElem?_getD,h]
theorem QfT(kids:List Exp):(expSs kids).map (·.1)=kids.map expS:=by rw[Q0k,List.map_map];rfl
end Go.Am
namespace Go.Proofs.YtgfhplcmcdimiaaGreatDoor
open Go Go.Am
set_option maxRecDepth 4000
def XOK(e:Exp):Prop:=∀ s,cw (.f Zg) [e.enc] s=some (.ret (.val (.str (expS e))),s)
theorem PartX.par{e:Exp}(H:PartX e)(b:Bool):(parS b (expS e)).length<2^41:=by
 have:=Q0D b (expS e)
 have:=H.len
 omega
section
variable (a:Int) (nm:Str) (n:Int) (kids:List Exp) (kb:Bool) (cs:List Case) (cb:Bool) (ds:List Dec) (db:Bool)
theorem Qyx(h:isIntB n=true):XOK (.mk 1 a nm n kids kb cs cb ds db):=λs=>by
 have e1:=Qck n h s
 rw[QI,expS]
 simp only[go_sem,Int.reduceEq,Nat.reduceAdd,Nat.reduceLeDiff,Exp.cells_mk,decide_true,decide_false,e1,cond_true,cond_false]
theorem Qyy:XOK (.mk 2 a nm n kids kb cs cb ds db):=λs=>by
 rw[QI,expS]
 simp only[go_sem,Int.reduceEq,Nat.reduceAdd,Nat.reduceLeDiff,Exp.cells_mk,decide_true,decide_false,cond_true,cond_false]
theorem Qyz(hn:nm.length<=32)(HK:∀ q ∈ kids,PartX q):XOK (.mk 3 a nm n kids kb cs cb ds db):=λs=>by
 rw[QI,expS]
 cases hz:decide (kids.length=0) with
 |true=>
   have hz':decide ((kids.length:Int)=0)=true:=decide_eq_true (by have:=of_decide_eq_true hz;omega)
   simp only[go_sem,Int.reduceEq,Nat.reduceAdd,Nat.reduceLeDiff,Exp.cells_mk,decide_true,decide_false,Q4,Yi,hz',hz,cond_true,cond_false]
 |false=>
   have hz0:=of_decide_eq_false hz
   have hz':decide ((kids.length:Int)=0)=false:=decide_eq_false (by omega)
   obtain⟨q,hq⟩:∃ q,kids[0]? = some q:=⟨kids[0]'(by omega),by simp⟩
   have H:=HK q (Ys hq)
   have f0:=ZS (b:=kb) hq
   rw[show ((0:Nat):Int)=0 from rfl] at f0
   have e1:=Q1Q H 9 s
   have hl:=H.par (decide (levE q<9))
   have cq:=Exp.cells_eq q
   simp only[QJ hq]
   simp only[Exp.enc,cq] at e1
   rw[cq] at f0
   generalize parS (decide (levE q<9)) (expS q)=y at *
   obtain⟨b1,b2⟩:=adds3 (t1:=C.ti Q0) (t2:=C.ti Q0) (a:=nm) (b:=[32]) (c:=y) (by simp only[Yl];omega)
   simp only[Yj,Yk,Ym] at b1 b2
   simp only[go_sem,Int.reduceEq,Nat.reduceAdd,Nat.reduceLeDiff,Exp.cells_mk,decide_true,decide_false,Q4,Yi,hz',hz,f0,e1,b1,b2,cond_true,cond_false]
theorem QmK(k:Int)(sep:Str)(hk:k=4/\sep=[44,32]\/k=10/\sep=[59,32])(HK:∀ q ∈ kids,PartX q)(hl:kids.length<2^30)(hs:((kids.map expS).map (·.length)).sum<2^45):XOK (.mk k a nm n kids kb cs cb ds db):=λs=>by
 have e1:=Qmf kids kb sep (by rcases hk with h|h<;>rw[h.2]<;>decide) hl HK hs s
 rw[QI,expS,QfT]
 rcases hk with ⟨rfl,rfl⟩|⟨rfl,rfl⟩ <;>
  simp only[go_sem,Int.reduceEq,Nat.reduceAdd,Nat.reduceLeDiff,Exp.cells_mk,decide_true,decide_false,e1,cond_true,cond_false]
theorem QyA(HC:∀ c ∈ cs,PartY c)(hl:cs.length<2^30)(hs:((caseSs cs).map λx=>x.1.length+x.2.1.length+10).sum<2^45):XOK (.mk 5 a nm n kids kb cs cb ds db):=λs=>by
 have e1:=Q9J cs cb hl HC hs s
 have h1:=Q6G (caseSs cs) true
 have h2:=ZT [32,124,32] (caseS (caseSs cs) true) true
 simp only[Ya,Ye] at h2
 rw[QI,expS]
 generalize joinS [32,124,32] (caseS (caseSs cs) true) true=y at *
 have b1:=adds2 (t1:=C.ti Q0) (a:=[102,110,32]) (b:=y) (by simp only[Ya,Ye];omega)
 simp only[Yj,Yk,Ym] at b1
 simp only[go_sem,Int.reduceEq,Nat.reduceAdd,Nat.reduceLeDiff,Exp.cells_mk,decide_true,decide_false,e1,b1,cond_true,cond_false]
theorem QyD{x y z:Exp}(qx:kids[0]? = some x)(qy:kids[1]? = some y)(qz:kids[2]? = some z)(hx:PartX x)(hy:PartX y)(hz:PartX z):XOK (.mk 8 a nm n kids kb cs cb ds db):=λs=>by
 have f0:ixS 7 (.val (encS kb (kids.map Exp.enc))) (.val (.int .i64 0))=some (.val (.cp x.cells)):=ZS qx
 have f1:ixS 7 (.val (encS kb (kids.map Exp.enc))) (.val (.int .i64 1))=some (.val (.cp y.cells)):=ZS qy
 have f2:ixS 7 (.val (encS kb (kids.map Exp.enc))) (.val (.int .i64 2))=some (.val (.cp z.cells)):=ZS qz
 have e1:=Q1x hx s
 have e2:=Q1x hy s
 have e3:=Q1x hz s
 have l1:=hx.len
 have l2:=hy.len
 have l3:=hz.len
 have cx:=Exp.cells_eq x
 have cy:=Exp.cells_eq y
 have cz:=Exp.cells_eq z
 rw[QI,expS]
 simp only[Q4Z qx,Q4Z qy,Q4Z qz]
 simp only[Exp.enc,cx,cy,cz] at e1 e2 e3
 rw[cx] at f0
 rw[cy] at f1
 rw[cz] at f2
 generalize expS x=u at *
 generalize expS y=v at *
 generalize expS z=w at *
 obtain⟨b1,b2,b3,b4,b5⟩:=adds6 (t1:=C.ti Q0) (t2:=C.ti Q0) (t3:=C.ti Q0) (t4:=C.ti Q0) (t5:=C.ti Q0) (a:=[105,102,32]) (b:=u) (c:=[32,116,104,101,110,32]) (d:=v) (e:=[32,101,108,115,101,32]) (f:=w) (by simp only[Ya,Ye];omega)
 simp only[Yj,Yk,Ym] at b1 b2 b3 b4 b5
 simp only[go_sem,Int.reduceEq,Nat.reduceAdd,Nat.reduceLeDiff,Exp.cells_mk,decide_true,decide_false,f0,f1,f2,e1,e2,e3,b1,b2,b3,b4,b5,cond_true,cond_false]
theorem QyE{x:Exp}(qx:kids[0]? = some x)(hx:PartX x)(HC:∀ c ∈ cs,PartY c)(hl:cs.length<2^30)(hs:((caseSs cs).map λx=>x.1.length+x.2.1.length+10).sum<2^45):XOK (.mk 9 a nm n kids kb cs cb ds db):=λs=>by
 have f0:ixS 7 (.val (encS kb (kids.map Exp.enc))) (.val (.int .i64 0))=some (.val (.cp x.cells)):=ZS qx
 have e1:=Q1x hx s
 have l1:=hx.len
 have e2:=Q9J cs cb hl HC hs s
 have h1:=Q6G (caseSs cs) true
 have h2:=ZT [32,124,32] (caseS (caseSs cs) true) true
 simp only[Ya,Ye] at h2
 have cx:=Exp.cells_eq x
 rw[QI,expS]
 simp only[Q4Z qx]
 simp only[Exp.enc,cx] at e1
 rw[cx] at f0
 generalize joinS [32,124,32] (caseS (caseSs cs) true) true=y at *
 generalize expS x=u at *
 obtain⟨b1,b2,b3⟩:=adds4 (t1:=C.ti Q0) (t2:=C.ti Q0) (t3:=C.ti Q0) (a:=[99,97,115,101,32]) (b:=u) (c:=[32,111,102,32]) (d:=y) (by simp only[Ya,Ye];omega)
 simp only[Yj,Yk,Ym] at b1 b2 b3
 simp only[go_sem,Int.reduceEq,Nat.reduceAdd,Nat.reduceLeDiff,Exp.cells_mk,decide_true,decide_false,f0,e1,e2,b1,b2,b3,cond_true,cond_false]
theorem Qw2{x:Exp}(qx:kids[0]? = some x)(hx:PartX x)(HC:∀ c ∈ cs,PartY c)(hl:cs.length<2^30)(hs:((caseSs cs).map λx=>x.1.length+x.2.1.length+10).sum<2^45):XOK (.mk 11 a nm n kids kb cs cb ds db):=λs=>by
 have f0:ixS 7 (.val (encS kb (kids.map Exp.enc))) (.val (.int .i64 0))=some (.val (.cp x.cells)):=ZS qx
 have e1:=Q1Q hx 3 s
 have l1:=hx.par (decide (levE x<3))
 have e2:=Q9J cs cb hl HC hs s
 have h1:=Q6G (caseSs cs) true
 have h2:=ZT [32,124,32] (caseS (caseSs cs) true) true
 simp only[Ya,Ye] at h2
 have cx:=Exp.cells_eq x
 rw[QI,expS]
 simp only[QJ qx]
 simp only[Exp.enc,cx] at e1
 rw[cx] at f0
 generalize joinS [32,124,32] (caseS (caseSs cs) true) true=y at *
 generalize parS (decide (levE x<3)) (expS x)=u at *
 obtain⟨b1,b2⟩:=adds3 (t1:=C.ti Q0) (t2:=C.ti Q0) (a:=u) (b:=[32,104,97,110,100,108,101,32]) (c:=y) (by simp only[Ya,Ye];omega)
 simp only[Yj,Yk,Ym] at b1 b2
 simp only[go_sem,Int.reduceEq,Nat.reduceAdd,Nat.reduceLeDiff,Exp.cells_mk,decide_true,decide_false,f0,e1,e2,b1,b2,cond_true,cond_false]
theorem Qw3{x:Exp}(qx:kids[0]? = some x)(hx:PartX x):XOK (.mk 12 a nm n kids kb cs cb ds db):=λs=>by
 have f0:ixS 7 (.val (encS kb (kids.map Exp.enc))) (.val (.int .i64 0))=some (.val (.cp x.cells)):=ZS qx
 have e1:=Q1x hx s
 have l1:=hx.len
 have cx:=Exp.cells_eq x
 rw[QI,expS]
 simp only[Q4Z qx]
 simp only[Exp.enc,cx] at e1
 rw[cx] at f0
 generalize expS x=u at *
 have b1:=adds2 (t1:=C.ti Q0) (a:=[114,97,105,115,101,32]) (b:=u) (by simp only[Ya,Ye];omega)
 simp only[Yj,Yk,Ym] at b1
 simp only[go_sem,Int.reduceEq,Nat.reduceAdd,Nat.reduceLeDiff,Exp.cells_mk,decide_true,decide_false,f0,e1,b1,cond_true,cond_false]
theorem Qj8(k:Int)(w:Str)(hk:k=16/\w=[114,101,102,32]\/k=17/\w=[33]\/k=19/\w=[112,114,105,110,116,32]){x:Exp}(qx:kids[0]? = some x)(hx:PartX x):XOK (.mk k a nm n kids kb cs cb ds db):=λs=>by
 have f0:ixS 7 (.val (encS kb (kids.map Exp.enc))) (.val (.int .i64 0))=some (.val (.cp x.cells)):=ZS qx
 have e1:=Q1Q hx 9 s
 have l1:=hx.par (decide (levE x<9))
 have cx:=Exp.cells_eq x
 rw[QI,expS]
 simp only[QJ qx]
 simp only[Exp.enc,cx] at e1
 rw[cx] at f0
 generalize parS (decide (levE x<9)) (expS x)=u at *
 have hw:w.length<=8:=by rcases hk with h|h|h<;>rw[h.2]<;>decide
 have b1:=adds2 (t1:=C.ti Q0) (a:=w) (b:=u) (by omega)
 rcases hk with ⟨rfl,rfl⟩|⟨rfl,rfl⟩|⟨rfl,rfl⟩ <;>
  (simp only[Yj,Yk,Ym] at b1
   simp only[go_sem,Int.reduceEq,Nat.reduceAdd,Nat.reduceLeDiff,Exp.cells_mk,decide_true,decide_false,f0,e1,b1,cond_true,cond_false])
theorem Qw6:XOK (.mk 20 a nm n kids kb cs cb ds db):=λs=>by
 rw[QI,expS]
 simp only[go_sem,Int.reduceEq,Nat.reduceAdd,Nat.reduceLeDiff,Exp.cells_mk,decide_true,decide_false,cond_true,cond_false]
theorem Qev(k:Int)(hk:k=6\/k=13\/k=14\/k=15\/k=18){l:Str}(s:St)(h:cw (.f Q90) [(Exp.mk k a nm n kids kb cs cb ds db).enc] s=some (.ret (.val (.str l)),s)):cw (.f Zg) [(Exp.mk k a nm n kids kb cs cb ds db).enc] s=some (.ret (.val (.str l)),s):=by
 rw[QI]
 simp only[Exp.enc,Exp.cells_mk] at h
 rcases hk with rfl|rfl|rfl|rfl|rfl<;>simp only[go_sem,Int.reduceEq,Nat.reduceAdd,Nat.reduceLeDiff,Exp.cells_mk,decide_true,decide_false,h]
theorem QmJ(k l r:Int)(w:Str)(hk:k=15/\l=4/\r=3/\w=[32,111,114,101,108,115,101,32]\/k=14/\l=5/\r=4/\w=[32,97,110,100,97,108,115,111,32]){x y:Exp}(qx:kids[0]? = some x)(qy:kids[1]? = some y)(hx:PartX x)(hy:PartX y):XOK (.mk k a nm n kids kb cs cb ds db):=λs=>by
 have f0:ixS 7 (.val (encS kb (kids.map Exp.enc))) (.val (.int .i64 0))=some (.val (.cp x.cells)):=ZS qx
 have f1:ixS 7 (.val (encS kb (kids.map Exp.enc))) (.val (.int .i64 1))=some (.val (.cp y.cells)):=ZS qy
 have e1:=Q1Q hx l s
 have e2:=Q1Q hy r s
 have l1:=hx.par (decide (levE x<l))
 have l2:=hy.par (decide (levE y<r))
 have cx:=Exp.cells_eq x
 have cy:=Exp.cells_eq y
 rw[cx] at f0
 rw[cy] at f1
 simp only[Exp.enc,cx,cy] at e1 e2
 have hw:w.length<=12:=by rcases hk with h|h<;>rw[h.2.2.2]<;>decide
 obtain⟨b1,b2⟩:=adds3 (t1:=C.ti Q0) (t2:=C.ti Q0) (a:=parS (decide (levE x<l)) (expS x)) (b:=w) (c:=parS (decide (levE y<r)) (expS y)) (by omega)
 rcases hk with ⟨rfl,rfl,rfl,rfl⟩|⟨rfl,rfl,rfl,rfl⟩
 ·refine Qev a nm n kids kb cs cb ds db 15 (by decide) s ?_
  simp only[Yj,Yk,Ym] at b1 b2
  rw[Q3z,expS]
  simp only[go_sem,Int.reduceEq,Nat.reduceAdd,Nat.reduceLeDiff,Exp.cells_mk,QJ qx,QJ qy,decide_true,decide_false,f0,f1,cx,cy,e1,e2,b1,b2,cond_true,cond_false]
 ·refine Qev a nm n kids kb cs cb ds db 14 (by decide) s ?_
  simp only[Yj,Yk,Ym] at b1 b2
  rw[Q3z,expS]
  simp only[go_sem,Int.reduceEq,Nat.reduceAdd,Nat.reduceLeDiff,Exp.cells_mk,QJ qx,QJ qy,decide_true,decide_false,f0,f1,cx,cy,e1,e2,b1,b2,cond_true,cond_false]
theorem Qw5{x y:Exp}(qx:kids[0]? = some x)(qy:kids[1]? = some y)(hx:PartX x)(hy:PartX y):XOK (.mk 18 a nm n kids kb cs cb ds db):=λs=>by
 have f0:ixS 7 (.val (encS kb (kids.map Exp.enc))) (.val (.int .i64 0))=some (.val (.cp x.cells)):=ZS qx
 have f1:ixS 7 (.val (encS kb (kids.map Exp.enc))) (.val (.int .i64 1))=some (.val (.cp y.cells)):=ZS qy
 have e1:=hx.ok s
 have e2:=Q5y x s
 have e3:=λb=>Q1V (expS x) b (by have:=hx.len;omega) s
 have e4:=Q1Q hy 1 s
 have l2:=hy.par (decide (levE y<1))
 have cx:=Exp.cells_eq x
 have cy:=Exp.cells_eq y
 rw[cx] at f0
 rw[cy] at f1
 simp only[Exp.enc,cx,cy] at e1 e2 e4
 have hd:kids.headD (.mk 0 0 [] 0 [] true [] true [] true)=x:=Q9O qx
 have B:=λb=>adds3 (t1:=C.ti Q0) (t2:=C.ti Q0) (a:=parS b (expS x)) (b:=[32,58,61,32]) (c:=parS (decide (levE y<1)) (expS y)) (by have:=hx.par b;simp only[Ya,Ye];omega)
 refine Qev a nm n kids kb cs cb ds db 18 (by decide) s ?_
 rw[Q3z,expS,hd]
 simp only[Q4Z qx]
 cases h2:decide (levE x<2) with
 |true=>
   obtain⟨b1,b2⟩:=B true
   have e5:=e3 true
   simp only[Yj,Yk,Ym] at b1 b2
   simp only[go_sem,Int.reduceEq,Nat.reduceAdd,Nat.reduceLeDiff,Exp.cells_mk,QJ qx,QJ qy,decide_true,decide_false,f0,f1,cx,cy,e1,e2,h2,e5,e4,b1,b2,cond_true,cond_false,Yx]
 |false=>
   cases h11:decide (x.kind=11) with
   |true=>
     obtain⟨b1,b2⟩:=B true
     have e5:=e3 true
     simp only[Yj,Yk,Ym] at b1 b2
     simp only[go_sem,Int.reduceEq,Nat.reduceAdd,Nat.reduceLeDiff,Exp.cells_mk,QJ qx,QJ qy,decide_true,decide_false,f0,f1,cx,cy,e1,e2,h2,h11,e5,e4,b1,b2,cond_true,cond_false,Yt]
   |false=>
     obtain⟨b1,b2⟩:=B false
     have e5:=e3 false
     simp only[Yj,Yk,Ym] at b1 b2
     simp only[go_sem,Int.reduceEq,Nat.reduceAdd,Nat.reduceLeDiff,Exp.cells_mk,QJ qx,QJ qy,decide_true,decide_false,f0,f1,cx,cy,e1,e2,h2,h11,e5,e4,b1,b2,cond_true,cond_false,Bool.or_self]
theorem QyB{x y:Exp}(qx:kids[0]? = some x)(qy:kids[1]? = some y)(hx:PartX x)(hy:PartX y):XOK (.mk 6 a nm n kids kb cs cb ds db):=λs=>by
 have f0:ixS 7 (.val (encS kb (kids.map Exp.enc))) (.val (.int .i64 0))=some (.val (.cp x.cells)):=ZS qx
 have f1:ixS 7 (.val (encS kb (kids.map Exp.enc))) (.val (.int .i64 1))=some (.val (.cp y.cells)):=ZS qy
 have e1:=hx.ok s
 have e2:=Q5y x s
 have e3:=λb=>Q1V (expS x) b (by have:=hx.len;omega) s
 have e4:=Q1Q hy 9 s
 have l2:=hy.par (decide (levE y<9))
 have cx:=Exp.cells_eq x
 have cy:=Exp.cells_eq y
 rw[cx] at f0
 rw[cy] at f1
 simp only[Exp.enc,cx,cy] at e1 e2 e4
 have hd:kids.headD (.mk 0 0 [] 0 [] true [] true [] true)=x:=Q9O qx
 have B:=λb=>adds3 (t1:=C.ti Q0) (t2:=C.ti Q0) (a:=parS b (expS x)) (b:=[32]) (c:=parS (decide (levE y<9)) (expS y)) (by have:=hx.par b;simp only[Ya,Ye];omega)
 have hz:decide ((x.kids.length:Int)=0)=decide (x.kids.length=0):=by
  by_cases h:x.kids.length=0
  ·rw[decide_eq_true h,decide_eq_true (by omega)]
  ·rw[decide_eq_false h,decide_eq_false (by omega)]
 refine Qev a nm n kids kb cs cb ds db 6 (by decide) s ?_
 rw[Q3z,expS,hd]
 have hb:bareE x=(decide (x.kind=3)&&(decide (x.kids.length=0) && !decide (x.name=[40,41]))):=rfl
 rw[hb]
 simp only[Q4Z qx]
 have fin:∀ b:Bool,cw (.f Zc) [.str (expS x),.bool b] s=some (.ret (.val (.str (parS b (expS x)))),s):=e3
 obtain⟨b1,b2⟩:=B true
 obtain⟨c1,c2⟩:=B false
 have e5:=e3 true
 have e6:=e3 false
 simp only[Yj,Yk,Ym] at b1 b2 c1 c2
 cases h3:decide (x.kind=3) with
 |false=>
   cases h8:decide (levE x<8) with
   |true=>simp only[go_sem,Int.reduceEq,Nat.reduceAdd,Nat.reduceLeDiff,Exp.cells_mk,QJ qx,QJ qy,decide_true,decide_false,f0,f1,cx,cy,e1,e2,h3,h8,e5,e4,b1,b2,cond_true,cond_false,Yx]
   |false=>simp only[go_sem,Int.reduceEq,Nat.reduceAdd,Nat.reduceLeDiff,Exp.cells_mk,QJ qx,QJ qy,decide_true,decide_false,f0,f1,cx,cy,e1,e2,h3,h8,e6,e4,c1,c2,cond_true,cond_false,Bool.or_self,Bool.false_and]
 |true=>
   cases h0:decide (x.kids.length=0) with
   |false=>
     rw[h0] at hz
     cases h8:decide (levE x<8) with
     |true=>simp only[go_sem,Int.reduceEq,Nat.reduceAdd,Nat.reduceLeDiff,Exp.cells_mk,QJ qx,QJ qy,decide_true,decide_false,f0,f1,cx,cy,e1,e2,h3,Q4,Yi,hz,h8,e5,e4,b1,b2,cond_true,cond_false,Yx]
     |false=>simp only[go_sem,Int.reduceEq,Nat.reduceAdd,Nat.reduceLeDiff,Exp.cells_mk,QJ qx,QJ qy,decide_true,decide_false,f0,f1,cx,cy,e1,e2,h3,Q4,Yi,hz,h8,e6,e4,c1,c2,cond_true,cond_false,Bool.or_self,Bool.false_and,Bool.true_and]
   |true=>
     rw[h0] at hz
     cases hn:decide (x.name=[40,41]) with
     |true=>
       cases h8:decide (levE x<8) with
       |true=>simp only[go_sem,Int.reduceEq,Nat.reduceAdd,Nat.reduceLeDiff,Exp.cells_mk,QJ qx,QJ qy,decide_true,decide_false,f0,f1,cx,cy,e1,e2,h3,Q4,Yi,hz,hn,h8,e5,e4,b1,b2,cond_true,cond_false,Yx]
       |false=>simp only[go_sem,Int.reduceEq,Nat.reduceAdd,Nat.reduceLeDiff,Exp.cells_mk,QJ qx,QJ qy,decide_true,decide_false,f0,f1,cx,cy,e1,e2,h3,Q4,Yi,hz,hn,h8,e6,e4,c1,c2,cond_true,cond_false,Bool.or_self,Bool.and_self,Bool.not_true,Bool.and_false]
     |false=>
       cases h8:decide (levE x<8) with
       |true=>simp only[go_sem,Int.reduceEq,Nat.reduceAdd,Nat.reduceLeDiff,Exp.cells_mk,QJ qx,QJ qy,decide_true,decide_false,f0,f1,cx,cy,e1,e2,h3,Q4,Yi,hz,hn,h8,e5,e4,b1,b2,cond_true,cond_false,Yx]
       |false=>simp only[go_sem,Int.reduceEq,Nat.reduceAdd,Nat.reduceLeDiff,Exp.cells_mk,QJ qx,QJ qy,decide_true,decide_false,f0,f1,cx,cy,e1,e2,h3,Q4,Yi,hz,hn,h8,e5,e4,b1,b2,cond_true,cond_false,Yt,Bool.and_self,Bool.not_false]
theorem Qw4{x y:Exp}(qx:kids[0]? = some x)(qy:kids[1]? = some y)(hx:PartX x)(hy:PartX y)(hn:1<=n/\n<=9):XOK (.mk 13 a nm n kids kb cs cb ds db):=λs=>by
 have f0:ixS 7 (.val (encS kb (kids.map Exp.enc))) (.val (.int .i64 0))=some (.val (.cp x.cells)):=ZS qx
 have f1:ixS 7 (.val (encS kb (kids.map Exp.enc))) (.val (.int .i64 1))=some (.val (.cp y.cells)):=ZS qy
 have e1:=λl=>Q1Q hx l s
 have e2:=λr=>Q1Q hy r s
 have e3:=Qpf n hn s
 have e4:=Q5y (.mk 13 a nm n kids kb cs cb ds db) s
 have hlev:levE (.mk 13 a nm n kids kb cs cb ds db)=bif decide (n≥6) then 5 else bif decide (n<=2) then 6 else 7:=rfl
 rw[hlev] at e4
 have ho:=QeY n
 have cx:=Exp.cells_eq x
 have cy:=Exp.cells_eq y
 rw[cx] at f0
 rw[cy] at f1
 simp only[Exp.enc,cx,cy,Exp.cells_mk] at e1 e2 e4
 have B:=λl r=>adds3 (t1:=C.ti Q0) (t2:=C.ti Q0) (a:=parS (decide (levE x<l)) (expS x)) (b:=32::(opN n++[32])) (c:=parS (decide (levE y<r)) (expS y)) (by have:=hx.par (decide (levE x<l));have:=hy.par (decide (levE y<r));simp only[Ya,Ye,Yb];omega)
 refine Qev a nm n kids kb cs cb ds db 13 (by decide) s ?_
 rw[Q3z,expS]
 have w7:IntKind.i64.wrap 7=7:=rfl
 have w8:IntKind.i64.wrap 8=8:=rfl
 cases h6:decide (n≥6) with
 |true=>
   obtain⟨b1,b2⟩:=B 6 6
   rw[h6] at e4
   simp only[Yj,Yk,Ym] at b1 b2
   simp only[go_sem,Int.reduceAdd,Int.reduceEq,Nat.reduceAdd,Nat.reduceLeDiff,Exp.cells_mk,QJ qx,QJ qy,decide_true,decide_false,f0,f1,cx,cy,e4,e1,e2,e3,b1,b2,cond_true,cond_false]
 |false=>
   cases h2:decide (n<=2) with
   |true=>
     obtain⟨b1,b2⟩:=B 6 7
     rw[h6,h2] at e4
     simp only[Yj,Yk,Ym] at b1 b2
     simp only[go_sem,Int.reduceAdd,Int.reduceEq,Nat.reduceAdd,Nat.reduceLeDiff,Exp.cells_mk,QJ qx,QJ qy,decide_true,decide_false,f0,f1,cx,cy,e4,e1,e2,e3,w7,b1,b2,cond_true,cond_false]
   |false=>
     obtain⟨b1,b2⟩:=B 7 8
     rw[h6,h2] at e4
     simp only[Yj,Yk,Ym] at b1 b2
     simp only[go_sem,Int.reduceAdd,Int.reduceEq,Nat.reduceAdd,Nat.reduceLeDiff,Exp.cells_mk,QJ qx,QJ qy,decide_true,decide_false,f0,f1,cx,cy,e4,e1,e2,e3,w8,b1,b2,cond_true,cond_false]
end
end Go.Proofs.YtgfhplcmcdimiaaGreatDoor