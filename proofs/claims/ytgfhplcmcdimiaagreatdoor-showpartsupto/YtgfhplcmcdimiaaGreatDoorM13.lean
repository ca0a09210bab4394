/- A part of the proof: PExp2, SExp1, PExp3, SRef10d, PTell, PExp4. -/
import Derived.Test.YtgfhplcmcdimiaaGreatDoorM3
import Derived.Test.YtgfhplcmcdimiaaGreatDoorM9
import Derived.Test.YtgfhplcmcdimiaaGreatDoorM10
import Derived.Test.YtgfhplcmcdimiaaGreatDoorM11
import Derived.Test.YtgfhplcmcdimiaaGreatDoorM12
import Derived.Lib.IndexMore
set_option linter.unusedVariables false
set_option linter.unusedSimpArgs false
open Bool renaming and_eq_true→Yf,false_or→Yt,true_or→Yx
open List renaming length_cons→Ya,length_append→Yb,mem_cons_of_mem→Yc,mem_cons_self→Yd,length_nil→Ye,map_cons→Yh,length_map→Yi,append_assoc→Yj,length_singleton→Yl,map_nil→Yo,mem_append_right→Yp,mem_append_left→Yq,mem_of_getElem?→Ys,sum_cons→Yv,mem_cons→Yw,mem_append→Yy
open Nat renaming le_refl→Yg
namespace Go.Am
open Go
def caseS:List (Str × Str × Bool)->Bool->List Str
 |[],_=>[]
 |(p,e,o)::r,f=>(p++([32,61,62,32]++parS (!r.isEmpty&&o) e))::caseS r false
def atS(l:List (Str × Int))(i:Nat)(lv:Int):Str:=parS (decide ((l.getD i ([],9)).2<lv)) (l.getD i ([],9)).1
def tyS(t:Ty):Str:=textB (typT t 0)
def conS(c:Con):Str:=bif c.has then c.name++([32,111,102,32]++tyS c.arg) else c.name
def parmS(n:Int):Str:=bif decide (n=0) then [] else parS (decide (n>1)) (joinS [44,32] ((List.range n.toNat).map varT) true)++[32]
mutual
def expS:Exp->Str
 |.mk k _ nm n kids _ cases _ decs _=>
   bif decide (k=1) then digS n
   else bif decide (k=2) then nm
   else bif decide (k=3) then (bif decide (kids.length=0) then nm else nm++(32::atS (expSs kids) 0 9))
   else bif decide (k=4) then 40::(joinS [44,32] ((expSs kids).map (·.1)) true++[41])
   else bif decide (k=10) then 40::(joinS [59,32] ((expSs kids).map (·.1)) true++[41])
   else bif decide (k=5) then [102,110,32]++joinS [32,124,32] (caseS (caseSs cases) true) true
   else bif decide (k=7) then [108,101,116,32]++(((decSs decs).map (· ++ [32])).flatten++([105,110,32]++(((expSs kids).getD 0 ([],9)).1++[32,101,110,100])))
   else bif decide (k=8) then [105,102,32]++(((expSs kids).getD 0 ([],9)).1++([32,116,104,101,110,32]++(((expSs kids).getD 1 ([],9)).1++([32,101,108,115,101,32]++((expSs kids).getD 2 ([],9)).1))))
   else bif decide (k=9) then [99,97,115,101,32]++(((expSs kids).getD 0 ([],9)).1++([32,111,102,32]++joinS [32,124,32] (caseS (caseSs cases) true) true))
   else bif decide (k=11) then atS (expSs kids) 0 3++([32,104,97,110,100,108,101,32]++joinS [32,124,32] (caseS (caseSs cases) true) true)
   else bif decide (k=12) then [114,97,105,115,101,32]++((expSs kids).getD 0 ([],9)).1
   else bif decide (k=16) then [114,101,102,32]++atS (expSs kids) 0 9
   else bif decide (k=17) then [33]++atS (expSs kids) 0 9
   else bif decide (k=19) then [112,114,105,110,116,32]++atS (expSs kids) 0 9
   else bif decide (k=20) then [114,101,97,100,32,40,41]
   else bif decide (k=18) then parS (decide (((expSs kids).getD 0 ([],9)).2<2) || decide ((kids.headD (.mk 0 0 [] 0 [] true [] true [] true)).kind=11)) ((expSs kids).getD 0 ([],9)).1++([32,58,61,32]++atS (expSs kids) 1 1)
   else bif decide (k=15) then atS (expSs kids) 0 4++([32,111,114,101,108,115,101,32]++atS (expSs kids) 1 3)
   else bif decide (k=14) then atS (expSs kids) 0 5++([32,97,110,100,97,108,115,111,32]++atS (expSs kids) 1 4)
   else bif decide (k=6) then parS (decide (((expSs kids).getD 0 ([],9)).2<8) || bareE (kids.headD (.mk 0 0 [] 0 [] true [] true [] true))) ((expSs kids).getD 0 ([],9)).1++(32::atS (expSs kids) 1 9)
   else bif decide (n≥6) then atS (expSs kids) 0 6++(32::(opN n++(32::atS (expSs kids) 1 6)))
    else bif decide (n<=2) then atS (expSs kids) 0 6++(32::(opN n++(32::atS (expSs kids) 1 7))) else atS (expSs kids) 0 7++(32::(opN n++(32::atS (expSs kids) 1 8)))
def expSs:List Exp->List (Str × Int)
 |[]=>[]
 |e::l=>(expS e,levE e)::expSs l
def caseSs:List Case->List (Str × Str × Bool)
 |[]=>[]
 |c::l=>caseS1 c::caseSs l
def caseS1:Case->Str × Str × Bool
 |.mk p e=>(patS p,expS e,openE e)
def decS:Dec->Str
 |.mk k _ nm params cons _ cases _ funs _=>
   bif decide (k=1) then [118,97,108,32]++(((caseSs cases).headD ([],[],false)).1++([32,61,32]++((caseSs cases).headD ([],[],false)).2.1))
   else bif decide (k=4) then [101,120,99,101,112,116,105,111,110,32]++(cons.map conS).headD []
   else bif decide (k=3) then [100,97,116,97,116,121,112,101,32]++(parmS params++(nm++([32,61,32]++joinS [32,124,32] (cons.map conS) true)))
   else [102,117,110,32]++joinS [32,97,110,100,32] (funSs funs) true
def decSs:List Dec->List Str
 |[]=>[]
 |d::l=>decS d::decSs l
def funSs:List Fun->List Str
 |[]=>[]
 |f::l=>funS1 f::funSs l
def funS1:Fun->Str
 |.mk nm _ c=>funCS nm c
def funCS(nm:Str):Case->Str
 |.mk p e=>nm++(32::(parS (decide (patLv p<2)) (patS p)++([32,61,32]++expS e)))
end
structure ExpIs (k n:Int) (nm:Str) (nk nc nd:Int):Prop where
 kind:1<=k/\k<=20
 int:k=1->isIntB n=true
 var:k=2->lowB nm=true
 con:k=3->conB nm=true/\nk<=1
 tup:k=4->2<=nk/\nk<=8
 fn:k=5->nc≠0
 letd:k=7->nk=1/\nd≠0
 if_:k=8->nk=3
 case_:k=9->nk=1/\nc≠0
 seq:k=10->2<=nk
 try_:k=11->nk=1/\nc≠0
 one:k=12\/k=16\/k=17\/k=19->nk=1
 op:k=13->nk=2/\1<=n/\n<=9
 two:k=6\/k=14\/k=15\/k=18->nk=2
def wrongExpC(k n:Int)(nm:Str)(nk nc nd:Int):Int:=
 bif decide (k<1) || decide (k>20) || !(expLM k).name && !decide (nm=[]) || !(expLM k).n && !decide (n=0) || !(expLM k).cases&&decide (nc>0) || !(expLM k).decs&&decide (nd>0) || decide ((expLM k).most=0)&&decide (nk>0) then 29
 else bif decide (k=2) && !lowB nm || decide (k=3) && !conB nm then 8
 else bif decide (k=1) && !isIntB n || decide (k=13)&&(decide (n<1) || decide (n>9)) then 2
 else bif decide (nk<(expLM k).least) || decide (nk>(expLM k).most) || (expLM k).cases&&decide (nc=0) || (expLM k).decs&&decide (nd=0) then 19 else 0
theorem QoV{k n:Int}{nm:Str}{nk nc nd:Int}(h:wrongExpC k n nm nk nc nd=0):ExpIs k n nm nk nc nd:=by
 have hk:1<=k/\k<=20:=by
  unfold wrongExpC at h
  by_cases h1:k<1
  ·rw[decide_eq_true h1] at h;simp at h
  ·by_cases h2:k>20
   ·rw[decide_eq_true h2] at h;simp at h
   ·omega
 have:k=1\/k=2\/k=3\/k=4\/k=5\/k=6\/k=7\/k=8\/k=9\/k=10\/k=11\/k=12\/k=13\/k=14\/k=15\/k=16\/k=17\/k=18\/k=19\/k=20:=by omega
 unfold wrongExpC expLM at h
 rcases this with rfl|rfl|rfl|rfl|rfl|rfl|rfl|rfl|rfl|rfl|rfl|rfl|rfl|rfl|rfl|rfl|rfl|rfl|rfl|rfl <;>
  (simp only[decide_true,cond_true,Int.reduceEq,decide_false,cond_false,Int.reduceLT,Int.reduceGT,Bool.or_false,Yt,Bool.or_true,Yx] at h;grind [ExpIs])
theorem QaP{e:Exp}(h:wrongExpB e=0):ExpIs e.kind e.n e.name e.kids.length e.cases.length e.decs.length:=QoV h
structure PatIs (k n:Int) (nm:Str) (nk:Int):Prop where
 kind:1<=k/\k<=6
 var:k=2->lowB nm=true
 int:k=3->isIntB n=true
 con:k=4->conB nm=true/\nk<=1
 tup:k=5->2<=nk/\nk<=8
 as_:k=6->lowB nm=true/\nk=1
 bare:k=1\/k=2\/k=3->nk<=0
def wrongPatC(k n:Int)(nm:Str)(nk:Int):Int:=
 bif decide (k<1) || decide (k>6) then 29
 else bif !(patLM k).1 && !decide (nm=[]) || !(patLM k).2.1 && !decide (n=0) || decide ((patLM k).2.2.2=0)&&decide (nk>0) then 29
 else bif decide (k=4) && !conB nm || (patLM k).1 && !decide (k=4) && !lowB nm then 8
 else bif (patLM k).2.1 && !isIntB n then 2
 else bif decide (nk<(patLM k).2.2.1) || decide (nk>(patLM k).2.2.2) then 19 else 0
theorem Qpg{k n:Int}{nm:Str}{nk:Int}(h:wrongPatC k n nm nk=0):PatIs k n nm nk:=by
 have hk:1<=k/\k<=6:=by
  unfold wrongPatC at h
  by_cases h1:k<1
  ·rw[decide_eq_true h1] at h;simp at h
  ·by_cases h2:k>6
   ·rw[decide_eq_true h2] at h;simp at h
   ·omega
 have:k=1\/k=2\/k=3\/k=4\/k=5\/k=6:=by omega
 unfold wrongPatC patLM at h
 rcases this with rfl|rfl|rfl|rfl|rfl|rfl <;>
  (simp only[decide_true,cond_true,Int.reduceEq,decide_false,cond_false,Int.reduceLT,Int.reduceGT,Bool.or_false,Yt,Bool.or_true,Yx] at h;grind [PatIs])
theorem QdG{p:Pat}(h:wrongPatB p=0):PatIs p.kind p.n p.name p.kids.length:=Qpg h
theorem Qnt{nm:Str}(h:(tyLM nm).2.2=true):(givenB nm).1=(tyLM nm).1/\(givenB nm).2.1=(tyLM nm).2.1/\((givenB nm).2.2 || lowB nm)=true:=by
 unfold tyLM at h |-
 unfold givenB
 revert h
 cases decide (nm=[105,110,116])<;>cases decide (nm=[98,111,111,108])<;>cases decide (nm=[117,110,105,116])<;>cases decide (nm=[101,120,110])<;>cases decide (nm=[114,101,102])<;>cases decide (nm=[45,62])<;>cases decide (nm=[42])<;>cases lowB nm<;>intro h<;>first|exact⟨rfl,rfl,rfl⟩|cases h
theorem Qo3{k n:Int}{nm:Str}{len:Int}(hl:0<=len)(h:wrongTyC k n nm len=0):goodC k n nm len (lowB nm)=true:=by
 unfold wrongTyC at h
 unfold goodC
 by_cases h1:k=1
 ·subst h1
  by_cases hn:nm=[]
  ·by_cases hz:len>0
   ·rw[decide_eq_true hn,decide_eq_true hz] at h;simp at h
   ·by_cases h0:n<0
    ·rw[decide_eq_true hn,decide_eq_false hz,decide_eq_true h0] at h;simp at h
    ·rw[decide_eq_true hn,decide_eq_true (show len=0 by omega),decide_eq_true (show n≥0 by omega)];rfl
  ·rw[decide_eq_false hn] at h;simp at h
 ·by_cases h2:k=2
  ·subst h2
   by_cases h0:n=0
   ·rw[decide_eq_true h0] at h |-
    simp only[Int.reduceEq,decide_false,decide_true,Bool.false_and,Bool.not_true,Bool.true_and,Bool.not_false,Bool.or_self,Bool.and_false,Bool.or_false,cond_false,cond_true] at h |-
    cases hq:(tyLM nm).2.2 with
    |false=>rw[hq] at h;simp at h
    |true=>
      obtain⟨q1,q2,q3⟩:=Qnt hq
      rw[hq] at h
      by_cases b1:len<(tyLM nm).1
      ·rw[decide_eq_true b1] at h;simp at h
      ·by_cases b2:len>(tyLM nm).2.1
       ·rw[decide_eq_true b2] at h;simp at h
       ·rw[q3,decide_eq_true (show len≥(givenB nm).1 by omega),decide_eq_true (show len<=(givenB nm).2.1 by omega)];rfl
   ·rw[decide_eq_false h0] at h;simp at h
  ·rw[decide_eq_false h1,decide_eq_false h2] at h;simp at h
theorem Qpp{t:Ty}(h:wrongTyB t=0):goodB t=true:=Qo3 (by omega) h
mutual
theorem Q87(a:Int):∀ t:Ty,(∀ n ∈ nodesTy a t,n.wrong.1=0)->allTy goodB t=true
 |.mk k n s l b,h=>by
   simp only[nodesTy,List.forall_mem_cons] at h
   simp only[allTy,Yf]
   exact⟨Qpp h.1,Qg4 a l h.2⟩
theorem Qg4(a:Int):∀ l:List Ty,(∀ n ∈ nodesTys a l,n.wrong.1=0)->allTys goodB l=true
 |[],_=>rfl
 |t::l,h=>by
   simp only[nodesTys] at h
   simp only[allTys,Yf]
   exact⟨Q87 a t λn hn=>h n (Yq _ hn),Qg4 a l λn hn=>h n (Yp _ hn)⟩
end
end Go.Am
namespace Go.Am
open Go
mutual
theorem Q2G:∀ (p:Pat) (lv:Int),(patT p lv).length+1<=6*p.size
 |.mk k a nm n kids b,lv=>by
   have h0:=Q8G kids 0
   have h2:=Q8G kids 2
   have g0:=Q9N (patTs kids 0) 0
   have g2:=Q9N (patTs kids 2) 0
   have j0:=QR [44] (patTs kids 0) true
   have d:(digT n).length<=2:=by unfold digT;cases decide (n<0)<;>simp
   have p1:=Q1U (decide (1<lv)) ([nm]++(patTs kids 2).getD 0 [])
   have p0:=Q1U (decide (0<lv)) ([nm,[97,115]]++(patTs kids 0).getD 0 [])
   simp only[Yb,Ya,Ye] at p0 p1
   simp only[patT,Pat.size]
   cases decide (k=2) with
   |true=>simp only[cond_true,Yl];omega
   |false=>
     cases decide (k=3) with
     |true=>simp only[cond_true,cond_false];omega
     |false=>
       cases decide (k=4) with
       |true=>
         cases decide (kids.length>0) with
         |true=>simp only[cond_true,cond_false];omega
         |false=>simp only[cond_true,cond_false,Yl];omega
       |false=>
         cases decide (k=5) with
         |true=>simp only[cond_true,cond_false,Ya,Yb,Ye];omega
         |false=>
           cases decide (k=6) with
           |true=>simp only[cond_true,cond_false];omega
           |false=>simp only[cond_false,Yl];omega
theorem Q8G:∀ (l:List Pat) (lv:Int),((patTs l lv).map (·.length)).sum+(patTs l lv).length<=6*Pat.sizes l
 |[],lv=>by simp[patTs,Pat.sizes]
 |p::l,lv=>by
   have h1:=Q2G p lv
   have h2:=Q8G l lv
   simp only[patTs,Yh,Yv,Ya,Pat.sizes]
   omega
end
end Go.Am
namespace Go.Proofs.YtgfhplcmcdimiaaGreatDoor
open Go Go.Am
set_option maxRecDepth 4000
theorem catL(P:List (AV × List Str))(hP:∀ p ∈ P,StrsAV p.1 p.2)(hl:P.length<2^40)(hb:sumL P<2^30)(s:St):RetS (cw (.f Qs) [.sl (P.map (·.1))] s) s ((P.map (·.2)).flatten):=
 RetA.toS (Q91 P hP hl (.sl (P.map (·.1))) rfl hb s)
theorem cat2{a b:AV}{la lb:List Str}(ha:StrsAV a la)(hb:StrsAV b lb)(hl:la.length+lb.length<2^30)(s:St):RetS (cw (.f Qs) [.sl [a,b]] s) s (la++lb):=by
 have:=catL [(a,la),(b,lb)] (by intro p hp;simp only[Yw,List.not_mem_nil,or_false] at hp;rcases hp with rfl|rfl<;>assumption) (by simp) (by simp[sumL];omega) s
 simpa using this
theorem cat3{a b c:AV}{la lb lc:List Str}(ha:StrsAV a la)(hb:StrsAV b lb)(hc:StrsAV c lc)(hl:la.length+lb.length+lc.length<2^30)(s:St):RetS (cw (.f Qs) [.sl [a,b,c]] s) s (la++(lb++lc)):=by
 have:=catL [(a,la),(b,lb),(c,lc)] (by intro p hp;simp only[Yw,List.not_mem_nil,or_false] at hp;rcases hp with rfl|rfl|rfl<;>assumption) (by simp) (by simp[sumL];omega) s
 simpa using this
theorem cat4{a b c d:AV}{la lb lc ld:List Str}(ha:StrsAV a la)(hb:StrsAV b lb)(hc:StrsAV c lc)(hd:StrsAV d ld)(hl:la.length+lb.length+lc.length+ld.length<2^30)(s:St):RetS (cw (.f Qs) [.sl [a,b,c,d]] s) s (la++(lb++(lc++ld))):=by
 have:=catL [(a,la),(b,lb),(c,lc),(d,ld)] (by intro p hp;simp only[Yw,List.not_mem_nil,or_false] at hp;rcases hp with rfl|rfl|rfl|rfl<;>assumption) (by simp) (by simp[sumL];omega) s
 simpa using this
theorem QaU{a:AV}{l:List Str}(ha:StrsAV a l)(hl:l.length+2<2^30)(s:St):RetS (cw (.f Zx) [a] s) s ([40]::(l++[[41]])):=RetA.toS (Q8q ha hl s)
theorem Q8p(n:Int)(h:-2147483648<=n/\n<=2147483647)(s:St):RetS (cw (.f Q4x) [.int .i64 n] s) s (digT n):=by
 rw[Qfs]
 unfold digT
 cases hd:decide (n<0) with
 |true=>
   have hw:IntKind.i64.wrap (0 - n) = -n:=by rw[wrap64 (by omega) (by omega)];omega
   have e1:=QaW (-n) (by omega) s
   simp only[go_sem,Nat.reduceAdd,hd,Qpq,hw,e1,Qp]
   exact⟨_,s,rfl,.refl s,(Qm [[126],Go.Lib.itoa (-n)]).slot⟩
 |false=>
   have e1:=QaW n (by omega) s
   simp only[go_sem,Nat.reduceAdd,hd,e1,Qp]
   exact⟨_,s,rfl,.refl s,(Qm [Go.Lib.itoa n]).slot⟩
theorem Q4S{s:St}{x:Slot}{l:List Str}(A:SlotS x l)(hl:l.length+2<2^30)(lv lev:Int):RetS (Zt (.val (.int .i64 lv)) (.val (.int .i64 lev)) x s) s (parT (decide (lev<lv)) l):=by
 rw[Qd8]
 cases hd:decide (lev<lv) with
 |false=>simp only[go_sem,hd,parT];exact⟨x,s,rfl,.refl s,A⟩
 |true=>
   obtain⟨v,hv,hs⟩:=A.av
   obtain⟨y,s',e1,g,B⟩:=QaU hs hl s
   simp only[go_sem,hd,QW hv,e1,parT]
   exact⟨y,s',rfl,g,B⟩
theorem QeP{n:Int}(h:isIntB n=true):-2147483648<=n/\n<=2147483647:=by
 unfold isIntB at h
 simp only[Yf,decide_eq_true_eq] at h
 omega
def UnderOK(p:Pat):Prop:=∀ (lv:Int) (s:St),0<=lv->lv<=2->RetS (cw (.f Q23) [p.enc,.int .i64 lv] s) s (patT p lv)
theorem Q4i{p:Pat}(H:UnderOK p)(s:St):RetS (cw (.f Q2A) [p.enc] s) s (patT p 0):=by
 obtain⟨x,s',e,g,h⟩:=H 0 s (by decide) (by decide)
 have c:=Pat.cells_eq p
 rw[QjQ]
 simp only[Pat.enc,c] at e |-
 simp only[go_sem,Nat.reduceAdd,Nat.reduceLeDiff,e]
 exact⟨x,s',rfl,g,h⟩
theorem Q9f(p:Pat){i:Nat}{q:Pat}(hi:p.kids[i]? = some q):ixS 5 (.val (encS p.kb (p.kids.map Pat.enc))) (.val (.int .i64 (i:Int)))=some (.val (.cp q.cells)):=
 Q0X (Q4 _ _) (show (p.kids.map Pat.enc)[i]? = some q.enc by simp[hi]) (Pat.cells_len q) (by decide)
theorem Qj4(p:Pat)(H:∀ q ∈ p.kids,UnderOK q)(i:Nat)(q:Pat)(hi:p.kids[i]? = some q)(s:St):RetS (cw (.f Q24) [.int .i64 i,.cp p.cells] s) s (patT q 0):=by
 obtain⟨x,s',e,g,h⟩:=Q4i (H q (Ys hi)) s
 rw[Qeg]
 simp only[go_sem,Nat.reduceAdd,Nat.reduceLeDiff,Pat.cells_eq p,Q9f p hi,e]
 exact⟨x,s',rfl,g,h⟩
theorem Ql9(p:Pat)(H:∀ q ∈ p.kids,UnderOK q):PartOK (.fn Q24 [.cp p.cells]) (patTs p.kids 0):=⟨_,_,rfl,λi l hl s=>by
 rw[Q51,List.getElem?_map,Option.map_eq_some_iff] at hl
 obtain⟨q,h1,rfl⟩:=hl
 exact Qj4 p H i q h1 s⟩
theorem Qpi(p:Pat)(lv:Int):patT p lv =
  bif decide (p.kind=2) then [p.name]
  else bif decide (p.kind=3) then digT p.n
  else bif decide (p.kind=4) then (bif decide (p.kids.length>0) then parT (decide (1<lv)) ([p.name]++(patTs p.kids 2).getD 0 []) else [p.name])
  else bif decide (p.kind=5) then [40]::(joinT [44] (patTs p.kids 0) true++[[41]])
  else bif decide (p.kind=6) then parT (decide (0<lv)) ([p.name,[97,115]]++(patTs p.kids 0).getD 0 [])
  else [[95]]:=by cases p;simp only[patT];rfl
theorem pats_wrong:∀ {l:List Pat},(∀ nd ∈ nodesPats l,nd.wrong.1=0)->∀ u ∈ l,∀ nd ∈ nodesPat u,nd.wrong.1=0
 |x::l,h,u,hu,nd,hn=>by
   simp only[nodesPats] at h
   rcases List.mem_cons.1 hu with rfl|hu
   ·exact h nd (Yq _ hn)
   ·exact pats_wrong (λnd hn=>h nd (Yp _ hn)) u hu nd hn
theorem Q3k:∀ (m:Nat) (p:Pat),p.size<=m->p.size<2^26->(∀ n ∈ nodesPat p,n.wrong.1=0)->UnderOK p
 |0,p,h,_,_=>by cases p;simp only[Pat.size] at h;omega
 |m+1,p,h,hb,hr=>λlv s l0 l2=>by
   have hsz:Pat.sizes p.kids+1=p.size:=by cases p;simp only[Pat.size,Pat.kids]
   have hlen:=Pat.len_sizes p.kids
   have hr2:wrongPatB p=0/\∀ nd ∈ nodesPats p.kids,nd.wrong.1=0:=by
    cases p with
    |mk k a nm n kids b=>
      simp only[nodesPat,List.forall_mem_cons] at hr
      exact hr
   have I:=QdG hr2.1
   have HV:∀ q ∈ p.kids,UnderOK q:=λq hq=>by
    have:=Pat.mem_sizes hq
    exact Q3k m q (by omega) (by omega) (pats_wrong hr2.2 q hq)
   have c:=Pat.cells_eq p
   have tl:=Q8G p.kids 0
   have q0:(patTs p.kids 0).length=p.kids.length:=by rw[Q51,Yi]
   have p1:=Ql9 p HV
   have x1:∀ g caps,AV.fn Q24 [.cp p.cells] = .fn g caps->(C.ext g).isSome=false:=λg caps h=>by cases h;kernel_rfl
   rw[Qpi,Qh9]
   cases h2:decide (p.kind=2) with
   |true=>
     obtain⟨y,s1,e1,g1,B⟩:=Q4S (s:=s) (Qm [p.name]).slot (by simp) lv 2
     rw[decide_eq_false (show ¬ (2:Int)<lv by omega)] at B
     simp only[Yh,Yo] at e1
     simp only[go_sem,Nat.reduceAdd,Nat.reduceLeDiff,c,h2,Qp,e1]
     exact⟨y,s1,rfl,g1,B⟩
   |false=>
     cases h3:decide (p.kind=3) with
     |true=>
       obtain⟨x,s0,e0,g0,A⟩:=Q8p p.n (QeP (I.int (of_decide_eq_true h3))) s
       obtain⟨y,s1,e1,g1,B⟩:=Q4S (s:=s0) A (by unfold digT;cases decide (p.n<0)<;>simp) lv 2
       rw[decide_eq_false (show ¬ (2:Int)<lv by omega)] at B
       simp only[go_sem,Nat.reduceAdd,Nat.reduceLeDiff,c,h2,h3,Qp,e0,e1]
       exact⟨y,s1,rfl,g0.trans g1,B⟩
     |false=>
       cases h4:decide (p.kind=4) with
       |true=>
         cases hk:decide (p.kids.length>0) with
         |false=>
           have hk':decide ((p.kids.length:Int)>0)=false:=decide_eq_false (by have:=of_decide_eq_false hk;omega)
           obtain⟨y,s1,e1,g1,B⟩:=Q4S (s:=s) (Qm [p.name]).slot (by simp) lv 2
           rw[decide_eq_false (show ¬ (2:Int)<lv by omega)] at B
           simp only[Yh,Yo] at e1
           simp only[go_sem,Nat.reduceAdd,Nat.reduceLeDiff,c,h2,h3,h4,Qp,Q4,Yi,hk',e1]
           exact⟨y,s1,rfl,g1,B⟩
         |true=>
           have hk':decide ((p.kids.length:Int)>0)=true:=decide_eq_true (by have:=of_decide_eq_true hk;omega)
           obtain⟨q,hq⟩:∃ q,p.kids=[q]:=by
            have h1:=(I.con (of_decide_eq_true h4)).2
            have h3:=of_decide_eq_true hk
            match hx:p.kids,h1,h3 with
            |[x],_,_=>exact⟨x,rfl⟩
            |_::_::_,h,_=>simp at h;omega
           have f0:=Q9f p (i:=0) (q:=q) (by rw[hq];rfl)
           rw[show ((0:Nat):Int)=0 from rfl] at f0
           obtain⟨x,s0,e0,g0,A⟩:=HV q (by rw[hq];simp) 2 s (by decide) (by decide)
           obtain⟨v,av,hv⟩:=A.av
           have lq:=Q2G q 2
           have zq:q.size+1=p.size:=by rw[<-hsz,hq];simp only[Pat.sizes,Nat.add_zero]
           obtain⟨y,s1,e1,g1,B⟩:=cat2 (Qm [p.name]) hv (by simp only[Yl];omega) s0
           obtain⟨z,s2,e2,g2,D⟩:=Q4S (s:=s1) B (by simp only[Yb,Yl];omega) lv 1
           simp only[Yh,Yo] at e1
           simp only[go_sem,Nat.reduceAdd,Nat.reduceLeDiff,c,h2,h3,h4,Qp,Q4,Yi,hk',f0,e0,hv.bslx av,e1,e2]
           refine⟨z,s2,rfl,(g0.trans g1).trans g2,?_⟩
           rw[hq]
           exact D
       |false=>
         cases h5:decide (p.kind=5) with
         |true=>
           obtain⟨x,s0,e0,g0,A⟩:=RetA.toS (Q0j [44] _ (patTs p.kids 0) p1 x1 (by omega) s)
           obtain⟨v,av,hv⟩:=A.av
           have hj:=QR [44] (patTs p.kids 0) true
           obtain⟨y,s1,e1,g1,B⟩:=QaU hv (by omega) s0
           obtain⟨z,s2,e2,g2,D⟩:=Q4S (s:=s1) B (by simp only[Yb,Ya,Ye];omega) lv 2
           rw[decide_eq_false (show ¬ (2:Int)<lv by omega)] at D
           rw[q0] at e0
           simp only[c] at e0
           simp only[go_sem,Nat.reduceAdd,Nat.reduceLeDiff,c,h2,h3,h4,h5,Qp,Q4,Yi,e0,QW av,e1,e2]
           exact⟨z,s2,rfl,(g0.trans g1).trans g2,D⟩
         |false=>
           cases h6:decide (p.kind=6) with
           |true=>
             obtain⟨q,hq⟩:∃ q,p.kids=[q]:=by
              have h1:=(I.as_ (of_decide_eq_true h6)).2
              exact one_of' (by omega)
             have f0:=Q9f p (i:=0) (q:=q) (by rw[hq];rfl)
             rw[show ((0:Nat):Int)=0 from rfl] at f0
             obtain⟨x,s0,e0,g0,A⟩:=Q4i (HV q (by rw[hq];simp)) s
             obtain⟨v,av,hv⟩:=A.av
             have lq:=Q2G q 0
             have zq:q.size+1=p.size:=by rw[<-hsz,hq];simp only[Pat.sizes,Nat.add_zero]
             obtain⟨y,s1,e1,g1,B⟩:=cat2 (Qm [p.name,[97,115]]) hv (by simp only[Ya,Ye];omega) s0
             obtain⟨z,s2,e2,g2,D⟩:=Q4S (s:=s1) B (by simp only[Yb,Ya,Ye];omega) lv 0
             simp only[Yh,Yo] at e1
             simp only[go_sem,Nat.reduceAdd,Nat.reduceLeDiff,c,h2,h3,h4,h5,h6,Qp,f0,e0,hv.bslx av,e1,e2]
             refine⟨z,s2,rfl,(g0.trans g1).trans g2,?_⟩
             rw[hq]
             exact D
           |false=>
             obtain⟨y,s1,e1,g1,B⟩:=Q4S (s:=s) (Qm [[95]]).slot (by simp) lv 2
             rw[decide_eq_false (show ¬ (2:Int)<lv by omega)] at B
             simp only[Yh,Yo] at e1
             simp only[go_sem,Nat.reduceAdd,Nat.reduceLeDiff,c,h2,h3,h4,h5,h6,Qp,e1]
             exact⟨y,s1,rfl,g1,B⟩
where
 one_of' {α:Type} {l:List α} (h:l.length=1):∃ x,l=[x]:=by
  match l,h with
  |[x],_=>exact⟨x,rfl⟩
end Go.Proofs.YtgfhplcmcdimiaaGreatDoor
namespace Go.Am
open Go
theorem NiceT.append{a b:List Str}(ha:NiceT a)(hb:NiceT b):NiceT (a++b):=by simpa using NiceT.cat (b:=[]) ha hb
theorem Qr{a b:List Str}(ha:NiceT a)(hb:NiceT b):textB (a++b)=textB a++(32::textB b):=by
 obtain⟨z,hz,h⟩:=ha.app
 unfold textB at *
 rw[h,hb.some z,hz]
 rfl
theorem Qu(m:Str):textB [m]=m:=by simp[textB,textGo,sepB]
theorem Qgo{m:Str}{b:List Str}(hm:hasL glueL m=true)(hb:NiceT b):textB ([m]++b)=m++textB b:=by
 have h:=hb.some m
 rw[hm,cond_true] at h
 show textGo none (m::b)=_
 rw[textGo,h]
 rfl
theorem NiceT.glue{m:Str}{b:List Str}(hm:hasL glueR m=false)(hb:NiceT b):NiceT ([m]++b):=by
 obtain⟨q,z,rfl,hz⟩:=hb.lst
 exact⟨⟨m,q++[z],rfl,hm⟩,⟨m::q,z,rfl,hz⟩⟩
theorem Q9Z:∀ w ∈ glueL++glueR,lowB w=false/\conB w=false/\capB w=false/\w.all amoC=false:=by decide +kernel
theorem QbG{nm:Str}(h:∀ w ∈ glueL++glueR,nm≠w):NiceT [nm]:=by
 refine .one ?_ ?_
 ·unfold hasL
  rw[List.any_eq_false]
  exact λw hm=>by simpa using h w (Yp _ hm)
 ·unfold hasL
  rw[List.any_eq_false]
  exact λw hm=>by simpa using h w (Yq _ hm)
theorem Q6r{nm:Str}(h:lowB nm=true):NiceT [nm]:=QbG λw hw e=>by
 have:=(Q9Z w hw).1
 rw[<-e,h] at this;cases this
theorem Q9Y{nm:Str}(h:conB nm=true):NiceT [nm]:=QbG λw hw e=>by
 have:=(Q9Z w hw).2.1
 rw[<-e,h] at this;cases this
theorem Q9X{nm:Str}(h:capB nm=true):NiceT [nm]:=QbG λw hw e=>by
 have:=(Q9Z w hw).2.2.1
 rw[<-e,h] at this;cases this
theorem Qg8{n:Int}(h:0<=n):NiceT [Go.Lib.itoa n]:=QbG λw hw e=>by
 obtain⟨u,rfl⟩:=Int.eq_ofNat_of_zero_le h
 have:=(Q9Z w hw).2.2.2
 rw[<-e,Go.Lib.itoa_nonneg,QkQ] at this;cases this
theorem Qig(n:Int):NiceT (digT n)/\textB (digT n)=digS n:=by
 unfold digT digS
 cases h:decide (n<0) with
 |true=>
   have:=of_decide_eq_true h
   have hi:=Qg8 (n:=-n) (by omega)
   refine⟨hi.glue (m:=[126]) (by decide),?_⟩
   have:=Qgo (m:=[126]) (by decide) hi
   rw[Qu] at this
   exact this
 |false=>
   have:=of_decide_eq_false h
   exact⟨Qg8 (by omega),Qu _⟩
theorem QnA(i:Nat):NiceT [varT i]:=.one (Qad _).2 (Qad _).1
def PatLaw(p:Pat):Prop:=∀ lv:Int,lv<=2->NiceT (patT p lv)/\textB (patT p lv)=parS (decide (patLv p<lv)) (patS p)
theorem Qbj{sign sep:Str}(hg:hasL glueL sign=false)(hsep:∀ z,hasL glueL z=false->textGo (some z) [sign]++[32]=sep){L:List (List Str)}(h0:L≠[])(hL:∀ l ∈ L,NiceT l):NiceT ([40]::(joinT sign L true++[[41]]))/\textB ([40]::(joinT sign L true++[[41]]))=40::(joinS sep (L.map textB) true++[41]):=by
 have hN:=NiceT.join sign h0 hL
 refine⟨hN.par true,?_⟩
 have:=Q1g true hN
 simp only[parT,parS,cond_true] at this
 rw[this,Q3D sign sep hg hsep L hL]
theorem QbK:∀ (m:Nat) (p:Pat),p.size<=m->(∀ n ∈ nodesPat p,n.wrong.1=0)->PatLaw p
 |0,.mk _ _ _ _ _ _,h,_=>by simp only[Pat.size] at h;omega
 |m+1,.mk k a nm n kids b,h,hr=>λlv hlv=>by
   simp only[Pat.size] at h
   simp only[nodesPat,List.forall_mem_cons] at hr
   have I:PatIs k n nm kids.length:=QdG hr.1
   have kn:∀ u ∈ kids,∀ nd ∈ nodesPat u,nd.wrong.1=0:=by
    have:∀ l:List Pat,(∀ nd ∈ nodesPats l,nd.wrong.1=0)->∀ u ∈ l,∀ nd ∈ nodesPat u,nd.wrong.1=0:=by
     intro l
     induction l with
     |nil=>intro _ u hu;cases hu
     |cons x l ih=>
       intro h u hu nd hn
       simp only[nodesPats] at h
       rcases List.mem_cons.1 hu with rfl|hu
       ·exact h nd (Yq _ hn)
       ·exact ih (λnd hn=>h nd (Yp _ hn)) u hu nd hn
    exact this kids hr.2
   have HV:∀ u ∈ kids,PatLaw u:=λu hu=>by
    have:=Pat.mem_sizes hu
    exact QbK m u (by omega) (kn u hu)
   have hlev:patLv (.mk k a nm n kids b)=bif decide (k=6) then 0 else bif decide (k=4)&&decide (kids.length>0) then 1 else 2:=rfl
   have h2:decide ((2:Int)<lv)=false:=decide_eq_false (by omega)
   have hk:k=1\/k=2\/k=3\/k=4\/k=5\/k=6:=by have:=I.kind;omega
   rw[hlev]
   rcases hk with rfl|rfl|rfl|rfl|rfl|rfl
   ·simp only[patT,patS,Int.reduceEq,decide_false,decide_true,cond_false,cond_true,Bool.false_and,h2,parS]
    exact⟨.one (by decide) (by decide),Qu _⟩
   ·have hz:decide (kids.length>0)=false:=decide_eq_false (by have:=I.bare (.inr (.inl rfl));omega)
    simp only[patT,patS,Int.reduceEq,decide_false,decide_true,cond_false,cond_true,Bool.false_and,h2,parS,hz]
    exact⟨Q6r (I.var rfl),Qu _⟩
   ·simp only[patT,patS,Int.reduceEq,decide_false,decide_true,cond_false,cond_true,Bool.false_and,h2,parS]
    exact Qig n
   ·have hc:=(I.con rfl).1
    cases hz:decide (kids.length>0) with
    |false=>
      simp only[patT,patS,Int.reduceEq,decide_false,decide_true,cond_false,cond_true,Bool.true_and,h2,parS,hz]
      exact⟨Q9Y hc,Qu _⟩
    |true=>
      obtain⟨x,rfl⟩:∃ x,kids=[x]:=by
       have h1:=(I.con rfl).2
       have h3:=of_decide_eq_true hz
       match kids,h1,h3 with
       |[x],_,_=>exact⟨x,rfl⟩
       |_::_::_,h,_=>simp at h;omega
      obtain⟨a1,a2⟩:=HV x (by simp) 2 (by decide)
      have hN:=(Q9Y hc).append a1
      have ht:=Qr (Q9Y hc) a1
      rw[Qu,a2] at ht
      simp only[patT,patS,patTs,patSs,Int.reduceEq,decide_false,decide_true,cond_false,cond_true,Bool.true_and,hz,List.getD_cons_zero]
      exact⟨hN.par _,by rw[Q1g _ hN,ht]⟩
   ·have hne:kids≠[]:=by rintro rfl;have:=(I.tup rfl).1;simp at this
    have hL:∀ l ∈ patTs kids 0,NiceT l:=λl hl=>by
     rw[Q51] at hl
     obtain⟨u,hu,rfl⟩:=List.mem_map.1 hl
     exact (HV u hu 0 (by decide)).1
    have hm:(patTs kids 0).map textB=patSs kids 0:=by
     rw[Q51,Q6N,List.map_map]
     exact List.map_congr_left λu hu=>(HV u hu 0 (by decide)).2
    obtain⟨t1,t2⟩:=Qbj (sign:=[44]) (by decide) Q8M (L:=patTs kids 0) (by rw[Q51];simpa using hne) hL
    simp only[patT,patS,Int.reduceEq,decide_false,decide_true,cond_false,cond_true,Bool.false_and,h2,parS]
    exact⟨t1,by rw[t2,hm]⟩
   ·obtain⟨x,rfl⟩:∃ x,kids=[x]:=by
     have h1:=(I.as_ rfl).2
     match kids,h1 with
     |[x],_=>exact⟨x,rfl⟩
     |[],h=>simp at h
     |_::_::_,h=>simp at h;omega
    obtain⟨a1,a2⟩:=HV x (by simp) 0 (by decide)
    have hp0:parS (decide (patLv x<0)) (patS x)=patS x:=by
     have:decide (patLv x<0)=false:=by
      unfold patLv
      cases decide (x.kind=6)<;>cases decide (x.kind=4)&&decide (x.kids.length>0)<;>rfl
     rw[this];rfl
    have nw:NiceT [[97,115]]:=.one (by decide) (by decide)
    have nn:=Q6r (I.as_ rfl).1
    have hN:=nn.append (nw.append a1)
    have ht:=Qr nn (nw.append a1)
    rw[Qr nw a1,Qu,Qu,a2] at ht
    simp only[patT,patS,patTs,patSs,Int.reduceEq,decide_false,decide_true,cond_false,cond_true,List.getD_cons_zero]
    refine⟨hN.par _,?_⟩
    have e:([nm,[97,115]]++patT x 0:List Str)=[nm]++([[97,115]]++patT x 0):=rfl
    rw[e,Q1g _ hN,ht]
    rfl
end Go.Am
namespace Go.Am
open Go
theorem ZT(sep:Str):∀ (L:List Str) (f:Bool),(joinS sep L f).length<=(L.map (·.length)).sum+L.length*sep.length
 |[],_=>by simp[joinS]
 |s::r,f=>by
   have:=ZT sep r false
   cases f<;>simp[joinS,Nat.add_mul]<;>omega
theorem Q7Y{n:Int}(h0:0<=n)(h:n<=9223372036854775807):(letT n).length<=22:=by
 unfold letT
 have:=Go.Lib.itoa_length_le (n / 26) (by omega) (by omega)
 cases decide (n>25)<;>simp<;>omega
theorem Q94{nm:Str}(h:((givenB nm).2.2 || lowB nm)=true):nm.length<=32:=by
 cases hl:lowB nm with
 |true=>
   unfold lowB runB at hl
   simp only[Yf,decide_eq_true_eq] at hl
   exact hl.1.2.2
 |false=>
   rw[hl,Bool.or_false] at h
   unfold givenB at h
   by_cases c1:nm=[105,110,116]
   ·subst c1;decide
   by_cases c2:nm=[98,111,111,108]
   ·subst c2;decide
   by_cases c3:nm=[117,110,105,116]
   ·subst c3;decide
   by_cases c4:nm=[101,120,110]
   ·subst c4;decide
   by_cases c5:nm=[114,101,102]
   ·subst c5;decide
   by_cases c6:nm=[45,62]
   ·subst c6;decide
   by_cases c7:nm=[42]
   ·subst c7;decide
   rw[decide_eq_false c1,decide_eq_false c2,decide_eq_false c3,decide_eq_false c4,decide_eq_false c5,decide_eq_false c6,decide_eq_false c7] at h
   cases h
theorem Q2b:∀ (L:List Str) (i:Nat),(L.getD i []).length<=(L.map (·.length)).sum
 |[],i=>by simp
 |l::L,0=>by simp
 |l::L,i+1=>by have:=Q2b L i;simp at this |-;omega
mutual
theorem Q9A(vars:Int)(hv:0<=vars):∀ t:Ty,allTy goodB t=true->VarOK t->(txt10 vars t).length+12<=200*t.size
 |.mk k n nm ags b,hg,hp=>by
   simp only[allTy,Yf] at hg
   unfold VarOK at hp
   simp only[allTy,Yf] at hp
   simp only[txt10,Ty.size]
   cases hk:decide (k=1) with
   |true=>
     have hn:=Qdj hp.1 hk
     simp only[Yf,decide_eq_true_eq] at hn
     rw[cond_true]
     cases hd:decide (n<vars) with
     |true=>
       have:=Q7Y hn.1 hn.2
       simp only[cond_true,Ya];omega
     |false=>
       have hd':=of_decide_eq_false hd
       have:=Q7Y (n:=n - vars) (by omega) (by omega)
       simp only[cond_false,Ya];omega
   |false=>
     obtain⟨-,-,-,hnm⟩:=Qcx hg.1 hk
     have hs:=Q94 hnm
     have h0:=QbC vars hv 0 ags hg.2 hp.2
     have h1:=QbC vars hv 1 ags hg.2 hp.2
     have h2:=QbC vars hv 2 ags hg.2 hp.2
     have hc:∀ lv,(ats10 vars ags lv).length=ags.length:=λlv=>by rw[Q8A,Yi]
     have hsz:=Ty.len_sizes ags
     rw[cond_false]
     cases decide (ags.length=0) with
     |true=>simp only[cond_true];omega
     |false=>
       rw[cond_false]
       cases decide (nm=[45,62]) with
       |true=>
         have a1:=Q2b (ats10 vars ags 1) 0
         have a2:=Q2b (ats10 vars ags 0) 1
         have a3:=QoF vars hv ags hg.2 hp.2
         simp only[cond_true,Yb,Ya,Ye];omega
       |false=>
         rw[cond_false]
         cases decide (nm=[42]) with
         |true=>
           have:=ZT [32,42,32] (ats10 vars ags 2) true
           rw[hc,show ([32,42,32]:Str).length=3 from rfl] at this
           simp only[cond_true];omega
         |false=>
           rw[cond_false]
           cases decide (ags.length=1) with
           |true=>
             have a1:=Q2b (ats10 vars ags 2) 0
             simp only[cond_true,Yb,Ya];omega
           |false=>
             have:=ZT [44,32] (ats10 vars ags 0) true
             rw[hc,show ([44,32]:Str).length=2 from rfl] at this
             simp only[cond_false,Yb,Ya];omega
theorem QbC(vars:Int)(hv:0<=vars)(lv:Int):∀ l:List Ty,allTys goodB l=true->allTys (varB λn=>decide (0<=n)&&decide (n<=9223372036854775807)) l=true->((ats10 vars l lv).map (·.length)).sum+10*l.length<=200*Ty.sizes l
 |[],_,_=>by simp[ats10]
 |t::l,hg,hp=>by
   simp only[allTys,Yf] at hg hp
   have h1:=Q9A vars hv t hg.1 hp.1
   have h2:=QbC vars hv lv l hg.2 hp.2
   have h3:(parS (decide (levelT t<lv)) (txt10 vars t)).length<=(txt10 vars t).length+2:=by
    cases decide (levelT t<lv)<;>simp[parS]
   simp only[ats10,Yh,Yv,Ya,Ty.sizes]
   omega
theorem QoF(vars:Int)(hv:0<=vars):∀ l:List Ty,allTys goodB l=true->allTys (varB λn=>decide (0<=n)&&decide (n<=9223372036854775807)) l=true->((ats10 vars l 1).getD 0 []).length+((ats10 vars l 0).getD 1 []).length<=200*Ty.sizes l
 |[],_,_=>by simp[ats10]
 |[t],hg,hp=>by
   simp only[allTys,Yf] at hg hp
   have h1:=Q9A vars hv t hg.1 hp.1
   have h3:(parS (decide (levelT t<1)) (txt10 vars t)).length<=(txt10 vars t).length+2:=by
    cases decide (levelT t<1)<;>simp[parS]
   simp[ats10,Ty.sizes]
   omega
 |t::u::l,hg,hp=>by
   simp only[allTys,Yf] at hg hp
   have h1:=Q9A vars hv t hg.1 hp.1
   have h2:=Q9A vars hv u hg.2.1 hp.2.1
   have h3:(parS (decide (levelT t<1)) (txt10 vars t)).length<=(txt10 vars t).length+2:=by
    cases decide (levelT t<1)<;>simp[parS]
   have h4:(parS (decide (levelT u<0)) (txt10 vars u)).length<=(txt10 vars u).length+2:=by
    cases decide (levelT u<0)<;>simp[parS]
   simp[ats10,Ty.sizes]
   omega
end
end Go.Am
namespace Go.Am
open Go
def bigV:Int:=9223372036854775808
structure OkN (t:Ty):Prop where
 var:decide (t.kind=1)=true->0<=t.n/\t.n<=9223372036854775807/\t.name=[]/\t.args=[]
 con:decide (t.kind=1)=false->t.kind=2/\t.n=0/\hasL glueL t.name=false/\hasL glueR t.name=false/\t.name.length<=65536/\(t.name=[45,62]->t.args.length=2)/\(t.name=[42]->1<=t.args.length)
mutual
def OkT:Ty->Prop
 |.mk k n s l b=>OkN (.mk k n s l b)/\OkTs l
def OkTs:List Ty->Prop
 |[]=>True
 |t::l=>OkT t/\OkTs l
end
theorem QeX:∀ {l:List Ty},OkTs l->∀ t ∈ l,OkT t
 |t::l,h,x,hx=>by
   simp only[OkTs] at h
   rcases List.mem_cons.1 hx with rfl|hx
   ·exact h.1
   ·exact QeX h.2 x hx
theorem Qr6{t:Ty}(h:OkT t):OkN t/\OkTs t.args:=by cases t;simp only[OkT] at h;exact h
theorem Qbz(lv:Int)(l:List Ty):typTs l lv=l.map λt=>typT t lv:=Q6w l lv
def ShowT(t:Ty):Prop:=∀ lv:Int,lv<=2->NiceT (typT t lv)/\textB (typT t lv)=at10 bigV t lv
theorem Q74{lv:Int}(hlv:lv<=2){l:List Ty}(h:∀ t ∈ l,ShowT t):(∀ x ∈ typTs l lv,NiceT x)/\(typTs l lv).map textB=ats10 bigV l lv:=by
 rw[Qbz,Q8A]
 refine⟨λx hx=>?_,?_⟩
 ·obtain⟨t,ht,rfl⟩:=List.mem_map.1 hx
  exact (h t ht lv hlv).1
 ·rw[List.map_map]
  exact List.map_congr_left λt ht=>(h t ht lv hlv).2
theorem Qks:∀ (m:Nat) (t:Ty),t.size<=m->OkT t->ShowT t
 |0,t,h,_=>by have:=Ty.size_pos t;omega
 |m+1,.mk k n nm ags b,h,hg=>λlv hlv=>by
   simp only[OkT] at hg
   obtain⟨⟨hv,hc⟩,ha⟩:=hg
   simp only[Ty.kind,Ty.n,Ty.name,Ty.args] at hv hc
   simp only[Ty.size] at h
   cases hk:decide (k=1) with
   |true=>
     obtain⟨h0,h1,rfl,rfl⟩:=hv hk
     obtain rfl:=of_decide_eq_true hk
     have hlev:levelT (.mk 1 n [] [] b)=2:=rfl
     have hat:at10 bigV (.mk 1 n [] [] b) lv=39::letT n:=by
      unfold at10 parS
      rw[hlev,decide_eq_false (by omega),cond_false]
      simp only[txt10,decide_true,cond_true]
      rw[decide_eq_true (show n<bigV by unfold bigV;omega),cond_true]
     rw[hat]
     simp only[typT,decide_true,cond_true]
     exact⟨.one (Qad n).2 (Qad n).1,by simp[textB,textGo,sepB]⟩
   |false=>
     obtain⟨rfl,rfl,g1,g2,hnl,hfn,hst⟩:=hc hk
     have HV:∀ u ∈ ags,ShowT u:=λu hu=>by
      have h2:=Ty.mem_sizes hu
      exact Qks m u (by omega) (QeX ha u hu)
     have hat:at10 bigV (.mk 2 0 nm ags b) lv=parS (decide (levelT (.mk 2 0 nm ags b)<lv)) (txt10 bigV (.mk 2 0 nm ags b)):=rfl
     rw[hat]
     simp only[txt10,typT,hk,cond_false]
     have hlev:levelT (.mk 2 0 nm ags b)=bif decide (nm=[45,62]) then 0 else bif decide (nm=[42]) then 1 else 2:=rfl
     rw[hlev]
     cases c1:decide (nm=[45,62]) with
     |true=>
       obtain rfl:=of_decide_eq_true c1
       have hl1:=hfn rfl
       obtain⟨a1,a2⟩:=Q74 (lv:=1) (by decide) HV
       obtain⟨b1,b2⟩:=Q74 (lv:=0) (by decide) HV
       match ags,hl1 with
       |[x,y],_=>
         simp only[typTs,Yh,Yo,ats10,List.cons.injEq,and_true] at a1 a2 b1 b2
         have ha:=a1 (typT x 1) (by simp)
         have hb:=b1 (typT y 0) (by simp)
         have hm:=QnZ [45,62] ha hb (by decide) (by decide)
         have hN:NiceT (typT x 1++([[45,62]]++typT y 0)):=.cat ha hb
         simp only[typTs,ats10,List.getD_cons_zero,List.getD_cons_succ,cond_true,cond_false,Yj]
         rw[show decide (([x,y]:List Ty).length=0)=false from rfl,cond_false]
         refine⟨.par _ hN,?_⟩
         rw[Q1g _ hN,hm,a2.1,b2.2]
         rfl
       |[],h=>simp at h
       |[_],h=>simp at h
       |_::_::_::_,h=>simp at h
     |false=>
       cases c2:decide (nm=[42]) with
       |true=>
         obtain rfl:=of_decide_eq_true c2
         have hl1:=hst rfl
         have hne:ags≠[]:=by rintro rfl;simp at hl1
         obtain⟨a1,a2⟩:=Q74 (lv:=2) (by decide) HV
         have hne':typTs ags 2≠[]:=by rw[Qbz];simpa using hne
         have hN:=NiceT.join [42] hne' a1
         simp only[cond_true,cond_false]
         have hz:decide (ags.length=0)=false:=decide_eq_false (by simpa using hne)
         simp only[hz,cond_false]
         refine⟨.par _ hN,?_⟩
         rw[Q1g _ hN,Q3D [42] [32,42,32] (by decide) QnP _ a1,a2]
       |false=>
         simp only[cond_false]
         have hlv2:decide ((2:Int)<lv)=false:=decide_eq_false (by omega)
         cases c3:decide (ags.length=0) with
         |true=>
           simp only[cond_true,hlv2,parS,cond_false]
           exact⟨.one g2 g1,by simp[textB,textGo,sepB]⟩
         |false=>
           simp only[cond_false,hlv2,parS]
           cases c4:decide (ags.length=1) with
           |true=>
             obtain⟨a1,a2⟩:=Q74 (lv:=2) (by decide) HV
             match ags,of_decide_eq_true c4 with
             |[x],_=>
               simp only[typTs,Yh,Yo,ats10,List.cons.injEq,and_true] at a1 a2
               have ha:=a1 (typT x 2) (by simp)
               simp only[typTs,ats10,List.getD_cons_zero,cond_true]
               refine⟨by simpa using NiceT.cat (b:=[]) ha (.one g2 g1),?_⟩
               rw[QiZ nm ha g2,a2]
           |false=>
             obtain⟨a1,a2⟩:=Q74 (lv:=0) (by decide) HV
             have hne:ags≠[]:=by rintro rfl;simp at c3
             have hne':typTs ags 0≠[]:=by rw[Qbz];simpa using hne
             have hN:=NiceT.join [44] hne' a1
             have hP:NiceT ([40]::(joinT [44] (typTs ags 0) true++[[41]])):=hN.par true
             have hT:=Q1g true hN
             simp only[parT,cond_true] at hT
             simp only[cond_false]
             refine⟨by simpa using NiceT.cat (b:=[]) hP (.one g2 g1),?_⟩
             rw[QiZ nm hP g2,hT,Q3D [44] [44,32] (by decide) Q8M _ a1,a2]
             simp[parS]
theorem QcH{t:Ty}(h:OkT t):NiceT (typT t 0)/\textB (typT t 0)=txt10 bigV t:=by
 have h:=Qks t.size t (Yg _) h 0 (by decide)
 refine⟨h.1,?_⟩
 rw[h.2]
 have hle:decide (levelT t<0)=false:=by
  unfold levelT
  cases decide (t.kind=2)&&decide (t.name=[45,62])<;>cases decide (t.kind=2)&&decide (t.name=[42])<;>rfl
 unfold at10 parS
 rw[hle];rfl
theorem Qo2:∀ w ∈ glueL++glueR,tokB w=false:=by decide +kernel
theorem QmC{nm:Str}(h:tokB nm=true):hasL glueL nm=false/\hasL glueR nm=false:=by
 have hw:∀ w ∈ glueL++glueR,nm≠w:=λw hm e=>by
  have:=Qo2 w hm
  rw[<-e,h] at this;cases this
 unfold hasL
 rw[List.any_eq_false,List.any_eq_false]
 exact⟨λw hm=>by simpa using hw w (Yq _ hm),λw hm=>by simpa using hw w (Yp _ hm)⟩
theorem Qlk{nm:Str}{len:Nat}(h:tellN nm len=true):hasL glueL nm=false/\hasL glueR nm=false:=by
 unfold tellN at h
 cases h1:decide (nm=[105,110,116]) with
 |true=>rw[of_decide_eq_true h1];decide
 |false=>
   cases h2:decide (nm=[98,111,111,108]) with
   |true=>rw[of_decide_eq_true h2];decide
   |false=>
     cases h3:decide (nm=[117,110,105,116]) with
     |true=>rw[of_decide_eq_true h3];decide
     |false=>
       cases h4:decide (nm=[101,120,110]) with
       |true=>rw[of_decide_eq_true h4];decide
       |false=>
         cases h5:decide (nm=[114,101,102]) with
         |true=>rw[of_decide_eq_true h5];decide
         |false=>
           cases h6:decide (nm=[45,62]) with
           |true=>rw[of_decide_eq_true h6];decide
           |false=>
             cases h7:decide (nm=[42]) with
             |true=>rw[of_decide_eq_true h7];decide
             |false=>
               rw[h1,h2,h3,h4,h5,h6,h7] at h
               simp only[Bool.or_self,cond_false,Yf] at h
               exact QmC h.1
theorem QnY{t:Ty}(h:tellB t=true):OkN t:=by
 have hn:=Qeh h
 unfold tellB at h
 refine⟨λhk=>?_,λhk=>?_⟩
 ·rw[hk] at h
  simp only[cond_true,Yf,decide_eq_true_eq] at h
  exact⟨h.1,by omega,h.2.2.1,List.eq_nil_of_length_eq_zero h.2.2.2⟩
 ·rw[hk] at h
  simp only[cond_false] at h
  cases h2:(!decide (t.kind=2) || !decide (t.n=0)) with
  |true=>rw[h2] at h;cases h
  |false=>
    rw[h2,cond_false] at h
    simp only[Bool.or_eq_false_iff,Bool.not_eq_false',decide_eq_true_eq] at h2
    have hg:=Qlk h
    refine⟨h2.1,h2.2,hg.1,hg.2,hn,λe=>?_,λe=>?_⟩
    ·rw[e] at h;simpa [tellN] using h
    ·rw[e] at h
     have:2<=t.args.length/\t.args.length<=8:=by simpa [tellN] using h
     omega
mutual
theorem Qfy:∀ t:Ty,allTy tellB t=true->OkT t
 |.mk k n s l b,h=>by
   simp only[allTy,Yf] at h
   simp only[OkT]
   exact⟨QnY h.1,QiX l h.2⟩
theorem QiX:∀ l:List Ty,allTys tellB l=true->OkTs l
 |[],_=>trivial
 |t::l,h=>by
   simp only[allTys,Yf] at h
   exact⟨Qfy t h.1,QiX l h.2⟩
end
theorem Qnl{t:Ty}(hg:goodB t=true)(hp:varB (λn=>decide (0<=n)&&decide (n<=9223372036854775807)) t=true):OkN t:=by
 cases t with
 |mk k n s l b=>
   refine⟨λhk=>?_,λhk=>?_⟩
   ·obtain⟨h0,rfl,rfl⟩:=Qnm hg hk
    have:=Qdj hp hk
    simp only[Yf,decide_eq_true_eq] at this
    exact⟨h0,this.2,rfl,rfl⟩
   ·obtain⟨h1,h2,⟨h3,h4⟩,h5⟩:=Qcx hg hk
    have hgl:=Qmj h5
    refine⟨h1,h2,hgl.1,hgl.2,Nat.le_trans (Q94 h5) (by decide),λe=>?_,λe=>?_⟩
    ·have e:s=[45,62]:=e
     rw[e,QhY] at h3 h4
     show l.length=2
     simp at h3 h4;omega
    ·have e:s=[42]:=e
     rw[e,QkY] at h3
     show 1<=l.length
     simp at h3;omega
mutual
theorem QeK:∀ t:Ty,allTy goodB t=true->VarOK t->OkT t
 |.mk k n s l b,hg,hp=>by
   unfold VarOK at hp
   simp only[allTy,Yf] at hg hp
   simp only[OkT]
   exact⟨Qnl hg.1 hp.1,QhZ l hg.2 hp.2⟩
theorem QhZ:∀ l:List Ty,allTys goodB l=true->allTys (varB λn=>decide (0<=n)&&decide (n<=9223372036854775807)) l=true->OkTs l
 |[],_,_=>trivial
 |t::l,hg,hp=>by
   simp only[allTys,Yf] at hg hp
   exact⟨QeK t hg.1 hp.1,QhZ l hg.2 hp.2⟩
end
theorem Qnk{t:Ty}(hg:allTy goodB t=true)(hp:VarOK t):NiceT (typT t 0)/\textB (typT t 0)=txt10 bigV t:=QcH (QeK t hg hp)
theorem QnX{t:Ty}(h:allTy tellB t=true):NiceT (typT t 0)/\textB (typT t 0)=txt10 bigV t:=QcH (Qfy t h)
mutual
theorem Qku:∀ (t:Ty) (lv:Int),OkT t->∀ x ∈ typT t lv,x.length<=65536
 |.mk k n nm ags nl,lv,h,x,hx=>by
   simp only[OkT] at h
   obtain⟨⟨hv,hc⟩,ha⟩:=h
   simp only[Ty.kind,Ty.n,Ty.name,Ty.args] at hv hc
   have hk:=Qin ags ha
   have sub:∀ lv,(∃ l ∈ typTs ags lv,x ∈ l)->x.length<=65536:=λlv ⟨l,h1,h2⟩=>hk lv l h1 x h2
   have hnm:decide (k=1)=false->nm.length<=65536:=λh=>(hc h).2.2.2.2.1
   simp only[typT] at hx
   cases h1:decide (k=1) with
   |true=>
     rw[h1] at hx
     simp only[cond_true,List.mem_singleton] at hx
     subst hx
     have ht:=hv h1
     have:=Q7Y (n:=n) ht.1 ht.2.1
     simp only[Ya];omega
   |false=>
     rw[h1] at hx
     cases h2:decide (nm=[45,62]) with
     |true=>
       rw[h2] at hx
       simp only[cond_true,cond_false] at hx
       rcases Qa0 hx with hx|hx
       ·omega
       ·simp only[Yy,List.mem_singleton] at hx
        rcases hx with (hx|rfl)|hx
        ·exact sub 1 (Q6o hx)
        ·simp
        ·exact sub 0 (Q6o hx)
     |false=>
       rw[h2] at hx
       cases h3:decide (nm=[42]) with
       |true=>
         rw[h3] at hx
         simp only[cond_true,cond_false] at hx
         rcases Qa0 hx with hx|hx
         ·omega
         ·rcases Q6L hx with rfl|hx
          ·simp
          ·exact sub 2 hx
       |false=>
         rw[h3] at hx
         cases h4:decide (ags.length=0) with
         |true=>
           rw[h4] at hx
           simp only[cond_true,cond_false,List.mem_singleton] at hx
           subst hx;exact hnm h1
         |false=>
           rw[h4] at hx
           cases h5:decide (ags.length=1) with
           |true=>
             rw[h5] at hx
             simp only[cond_true,cond_false,Yy,List.mem_singleton] at hx
             rcases hx with hx|rfl
             ·exact sub 2 (Q6o hx)
             ·exact hnm h1
           |false=>
             rw[h5] at hx
             simp only[cond_false,Yy,Yw,List.not_mem_nil,or_false] at hx
             rcases hx with (rfl|hx|rfl)|rfl
             ·simp
             ·rcases Q6L hx with rfl|hx
              ·simp
              ·exact sub 0 hx
             ·simp
             ·exact hnm h1
theorem Qin:∀ (l:List Ty),OkTs l->∀ lv,∀ y ∈ typTs l lv,∀ x ∈ y,x.length<=65536
 |[],_,lv,y,hy,x,hx=>by simp[typTs] at hy
 |t::l,h,lv,y,hy,x,hx=>by
   simp only[OkTs] at h
   simp only[typTs,Yw] at hy
   rcases hy with rfl|hy
   ·exact Qku t lv h.1 x hx
   ·exact Qin l h.2 lv y hy x hx
end
theorem Qm5:∀ (l:List Str) (p:Option Str),(textGo p l).length<=tokSum l
 |[],p=>by simp[textGo]
 |s::l,p=>by
   have:=Qm5 l (some s)
   rw[Q4l]
   simp only[textGo,Yb]
   cases sepB p s<;>simp only[cond_true,cond_false,Ya]<;>omega
theorem Qkt{t:Ty}(h:OkT t):(txt10 bigV t).length+12<=400000*t.size:=by
 have h1:=(QcH h).2
 have h2:=Qm5 (typT t 0) none
 have h3:=Qbk (Qku t 0 h)
 have h4:=Q1i t 0
 have h5:(typT t 0).length*(65536+1)<=6*t.size*(65536+1):=Nat.mul_le_mul_right _ (by omega)
 have h6:=Ty.size_pos t
 unfold textB at h1
 rw[h1] at h2
 omega
theorem QcI(lv:Int):∀ l:List Ty,OkTs l->((ats10 bigV l lv).map (·.length)).sum+10*l.length<=400000*Ty.sizes l
 |[],_=>by simp[ats10]
 |t::l,h=>by
   simp only[OkTs] at h
   have h1:=Qkt h.1
   have h2:=QcI lv l h.2
   have h3:(parS (decide (levelT t<lv)) (txt10 bigV t)).length<=(txt10 bigV t).length+2:=by
    cases decide (levelT t<lv)<;>simp[parS]
   simp only[ats10,Yh,Yv,Ya,Ty.sizes]
   omega
end Go.Am
namespace Go.Am
open Go Go.Proofs.YtgfhplcmcdimiaaGreatDoor
def ExpLaw(e:Exp):Prop:=NiceT (expT e)/\textB (expT e)=expS e
def DecLaw(d:Dec):Prop:=NiceT (decT d)/\textB (decT d)=decS d
theorem Q0O:∀ l:List Exp,expTs l=l.map λe=>(expT e,levE e)
 |[]=>by rw[expTs];rfl
 |e::l=>by rw[expTs,Q0O l];rfl
theorem Q0k:∀ l:List Exp,expSs l=l.map λe=>(expS e,levE e)
 |[]=>by rw[expSs];rfl
 |e::l=>by rw[expSs,Q0k l];rfl
theorem Q0g:∀ l:List Case,caseTs l=l.map λc=>(patT c.pat 0,expT c.exp,openE c.exp)
 |[]=>by rw[caseTs];rfl
 |.mk p e::l=>by rw[caseTs,Q0g l,caseT1];rfl
theorem Q0f:∀ l:List Case,caseSs l=l.map λc=>(patS c.pat,expS c.exp,openE c.exp)
 |[]=>by rw[caseSs];rfl
 |.mk p e::l=>by rw[caseSs,Q0f l,caseS1];rfl
theorem Q6I:∀ l:List Dec,decTs l=l.map decT
 |[]=>by rw[decTs];rfl
 |d::l=>by rw[decTs,Q6I l];rfl
theorem Q6H:∀ l:List Dec,decSs l=l.map decS
 |[]=>by rw[decSs];rfl
 |d::l=>by rw[decSs,Q6H l];rfl
def funT(f:Fun):List Str:=[f.name]++(patT f.case.pat 2++([[61]]++expT f.case.exp))
def funS(f:Fun):Str:=f.name++(32::(parS (decide (patLv f.case.pat<2)) (patS f.case.pat)++([32,61,32]++expS f.case.exp)))
theorem Q6K:∀ l:List Fun,funTs l=l.map funT
 |[]=>by rw[funTs];rfl
 |.mk nm a (.mk p e)::l=>by rw[funTs,Q6K l,funT1,funC];rfl
theorem Q6J:∀ l:List Fun,funSs l=l.map funS
 |[]=>by rw[funSs];rfl
 |.mk nm a (.mk p e)::l=>by rw[funSs,Q6J l,funS1,funCS];rfl
theorem Q16{kids:List Exp}(H:∀ e ∈ kids,ExpLaw e){i:Nat}(hi:i<kids.length)(lv:Int):NiceT (atT (expTs kids) i lv)/\textB (atT (expTs kids) i lv)=atS (expSs kids) i lv:=by
 have h1:(expTs kids).getD i ([],9)=(expT kids[i],levE kids[i]):=by rw[Q0O];simp[List.getD_eq_getElem?_getD,hi]
 have h2:(expSs kids).getD i ([],9)=(expS kids[i],levE kids[i]):=by rw[Q0k];simp[List.getD_eq_getElem?_getD,hi]
 obtain⟨a,b⟩:=H kids[i] (List.getElem_mem hi)
 unfold atT atS
 rw[h1,h2]
 exact⟨a.par _,by rw[Q1g _ a,b]⟩
theorem Q7X{kids:List Exp}(H:∀ e ∈ kids,ExpLaw e){i:Nat}(hi:i<kids.length):NiceT ((expTs kids).getD i ([],9)).1/\textB ((expTs kids).getD i ([],9)).1=((expSs kids).getD i ([],9)).1:=by
 have h1:(expTs kids).getD i ([],9)=(expT kids[i],levE kids[i]):=by rw[Q0O];simp[List.getD_eq_getElem?_getD,hi]
 have h2:(expSs kids).getD i ([],9)=(expS kids[i],levE kids[i]):=by rw[Q0k];simp[List.getD_eq_getElem?_getD,hi]
 rw[h1,h2]
 exact H kids[i] (List.getElem_mem hi)
theorem Qi1{kids:List Exp}(H:∀ e ∈ kids,ExpLaw e)(h0:kids≠[]):(expTs kids).map (·.1)≠[]/\(∀ l ∈ (expTs kids).map (·.1),NiceT l)/\((expTs kids).map (·.1)).map textB=(expSs kids).map (·.1):=by
 rw[Q0O,Q0k,List.map_map,List.map_map,List.map_map]
 refine⟨by simpa using h0,λl hl=>?_,List.map_congr_left λe he=>(H e he).2⟩
 obtain⟨e,he,rfl⟩:=List.mem_map.1 hl
 exact (H e he).1
structure CaseLaw (x:List Str × List Str × Bool) (y:Str × Str × Bool):Prop where
 p:NiceT x.1/\textB x.1=y.1
 e:NiceT x.2.1/\textB x.2.1=y.2.1
 o:x.2.2=y.2.2
theorem nw(m:Str)(h1:hasL glueR m=false:=by decide)(h2:hasL glueL m=false:=by decide):NiceT [m]:=.one h1 h2
theorem QfI:∀ (X:List (List Str × List Str × Bool)) (Y:List (Str × Str × Bool)) (f:Bool),X.length=Y.length->(∀ i (h:i<X.length) (h':i<Y.length),CaseLaw X[i] Y[i])->(∀ l ∈ caseT X f,NiceT l)/\(caseT X f).map textB=caseS Y f
 |[],[],f,_,_=>by simp[caseT,caseS]
 |(p,e,o)::X,(p',e',o')::Y,f,hl,H=>by
   obtain⟨⟨h1,h2⟩,⟨h3,h4⟩,h5⟩:CaseLaw (p,e,o) (p',e',o'):=H 0 (by simp) (by simp)
   simp only at h1 h2 h3 h4 h5
   obtain⟨r1,r2⟩:=QfI X Y false (by simpa using hl) (λi h h'=>H (i+1) (by simpa using h) (by simpa using h'))
   have hE:X.isEmpty=Y.isEmpty:=by
    have hl':X.length=Y.length:=by simpa using hl
    cases X<;>cases Y<;>simp_all
   have hN:=h1.append ((nw [61,62]).append (h3.par (!X.isEmpty&&o)))
   simp only[caseT,caseS,Yh,r2]
   refine⟨List.forall_mem_cons.2 ⟨hN,r1⟩,?_⟩
   congr 1
   rw[Qr h1 ((nw [61,62]).append (h3.par _)),Qr (nw [61,62]) (h3.par _),Q1g _ h3,Qu]
   rw[h2,h4,h5,hE]
   rfl
 |[],_::_,_,h,_=>by simp at h
 |_::_,[],_,h,_=>by simp at h
theorem Q9I{cs:List Case}(h0:cs≠[])(H:∀ c ∈ cs,PatLaw c.pat/\ExpLaw c.exp):NiceT (joinT [124] (caseT (caseTs cs) true) true)/\textB (joinT [124] (caseT (caseTs cs) true) true)=joinS [32,124,32] (caseS (caseSs cs) true) true:=by
 obtain⟨h1,h2⟩:=QfI (caseTs cs) (caseSs cs) true (by rw[Q0g,Q0f,Yi,Yi]) (λi h h'=>by
  rw[Q0g,Yi] at h
  obtain⟨hp,he⟩:=H cs[i] (List.getElem_mem h)
  obtain⟨p1,p2⟩:=hp 0 (by decide)
  have hp0:parS (decide (patLv cs[i].pat<0)) (patS cs[i].pat)=patS cs[i].pat:=by
   have:decide (patLv cs[i].pat<0)=false:=by
    unfold patLv
    cases decide (cs[i].pat.kind=6)<;>cases decide (cs[i].pat.kind=4)&&decide (cs[i].pat.kids.length>0)<;>rfl
   rw[this];rfl
  rw[hp0] at p2
  simp only[Q0g,Q0f,List.getElem_map]
  exact⟨⟨p1,p2⟩,he,rfl⟩)
 have hne:caseT (caseTs cs) true≠[]:=by
  rw[Q0g]
  cases cs with
  |nil=>exact absurd rfl h0
  |cons c l=>simp[caseT]
 refine⟨.join _ hne h1,?_⟩
 rw[Q3D [124] [32,124,32] (by decide) (λz hz=>by
  simp only[textGo,sepB,hz]
  rw[show hasL glueR [124]=false by decide];rfl) _ h1,h2]
theorem QhF:∀ (ds:List Dec),(∀ d ∈ ds,DecLaw d)->∀ c:List Str,NiceT c->NiceT ((decTs ds).flatten++c)/\textB ((decTs ds).flatten++c)=((decSs ds).map (· ++ [32])).flatten++textB c
 |[],_,c,hc=>by simpa [Q6I,Q6H] using hc
 |d::ds,H,c,hc=>by
   obtain⟨h1,h2⟩:=H d Yd
   obtain⟨r1,r2⟩:=QhF ds (λx hx=>H x (Yc _ hx)) c hc
   rw[Q6I] at r1
   rw[Q6I,Q6H] at r2 |-
   simp only[Yh,List.flatten_cons,Yj]
   refine⟨h1.append r1,?_⟩
   rw[Qr h1 r1,r2,h2]
   simp
theorem Qpe{n:Int}(h:1<=n/\n<=9):NiceT [opN n]:=by
 have:n=1\/n=2\/n=3\/n=4\/n=5\/n=6\/n=7\/n=8\/n=9:=by omega
 rcases this with rfl|rfl|rfl|rfl|rfl|rfl|rfl|rfl|rfl<;>exact .one (by decide) (by decide)
theorem QfA{t:Ty}(hg:allTy goodB t=true)(hp:VarOK t):NiceT (typT t 0)/\textB (typT t 0)=txt10 bigV t:=Qnk hg hp
theorem Qo4{t:Ty}(hg:allTy goodB t=true)(hp:VarOK t):NiceT (typT t 0):=(QfA hg hp).1
theorem QoN(c:Con)(hr:∀ n ∈ nodesCon c,n.wrong.1=0)(hp:VarOK c.arg):NiceT (conT c)/\textB (conT c)=conS c:=by
 have hw:wrongConB c=0:=hr (.con c) (by unfold nodesCon;exact Yd)
 have hcap:capB c.name=true:=by
  unfold wrongConB at hw
  grind
 unfold conT conS
 cases hh:c.has with
 |false=>exact⟨Q9X hcap,Qu _⟩
 |true=>
   have hg:allTy goodB c.arg=true:=Q87 c.at_ c.arg λn hn=>hr n (by unfold nodesCon;rw[hh];exact Yc _ hn)
   have nt:=Qo4 hg hp
   simp only[cond_true]
   have e:([c.name,[111,102]]++typT c.arg 0:List Str)=[c.name]++([[111,102]]++typT c.arg 0):=rfl
   rw[e]
   refine⟨(Q9X hcap).append ((nw [111,102]).append nt),?_⟩
   rw[Qr (Q9X hcap) ((nw [111,102]).append nt),Qr (nw [111,102]) nt,Qu,Qu]
   rfl
theorem QnD(n:Int)(h:0<=n)(c:List Str)(hc:NiceT c):NiceT (parmT n++c)/\textB (parmT n++c)=parmS n++textB c:=by
 unfold parmT parmS
 by_cases h0:n=0
 ·subst h0
  exact⟨by simpa using hc,by simp⟩
 ·rw[decide_eq_true (show n>0 by omega),decide_eq_false h0,cond_true,cond_false]
  have hL:∀ l ∈ (List.range n.toNat).map λi=>[varT i],NiceT l:=λl hl=>by
   obtain⟨i,-,rfl⟩:=List.mem_map.1 hl
   exact QnA i
  have hne:((List.range n.toNat).map λi=>[varT i])≠[]:=by simp;omega
  have hN:=NiceT.join [44] hne hL
  have hm:((List.range n.toNat).map λi=>[varT i]).map textB=(List.range n.toNat).map varT:=by
   rw[List.map_map]
   exact List.map_congr_left λi _=>Qu _
  refine⟨(hN.par _).append hc,?_⟩
  rw[Qr (hN.par _) hc,Q1g _ hN,Q3D [44] [44,32] (by decide) Q8M _ hL,hm]
  simp
def NumCons(l:List Con):Prop:=∀ c ∈ l,c.has=true->VarOK c.arg
theorem QeS(e:Exp):levE e=bif decide (e.kind=12) || decide (e.kind=5) || decide (e.kind=8) || decide (e.kind=9) then 0
 else bif decide (e.kind=18) then 1 else bif decide (e.kind=11) then 2 else bif decide (e.kind=15) then 3 else bif decide (e.kind=14) then 4
 else bif decide (e.kind=6) || decide (e.kind=16) || decide (e.kind=17) || decide (e.kind=19) then 8
 else bif decide (e.kind=13) then (bif decide (e.n≥6) then 5 else bif decide (e.n<=2) then 6 else 7)
 else bif decide (e.kind=3)&&decide (e.kids.length>0) then 8 else 9:=rfl
theorem Qkw(a b:Bool)(s:Str)(h:a=true->b=false):parS a (parS b s)=parS (b || a) s:=by
 cases a<;>cases b<;>first|rfl|(have:=h rfl;cases this)
theorem Qeq{α:Type}{l:List α}(h:l.length=2):∃ x y,l=[x,y]:=by
 match l,h with
 |[x,y],_=>exact⟨x,y,rfl⟩
theorem Qio{α:Type}{l:List α}(h:l.length=1):∃ x,l=[x]:=by
 match l,h with
 |[x],_=>exact⟨x,rfl⟩
theorem Qnf(k a:Int)(nm:Str)(n:Int)(kids:List Exp)(kb:Bool)(cs:List Case)(cb:Bool)(ds:List Dec)(db:Bool)(I:ExpIs k n nm kids.length cs.length ds.length)
  (HK:∀ e ∈ kids,ExpLaw e) (HC:∀ c ∈ cs,PatLaw c.pat/\ExpLaw c.exp) (HD:∀ d ∈ ds,DecLaw d):ExpLaw (.mk k a nm n kids kb cs cb ds db):=by
 have hk:k=1\/k=2\/k=3\/k=4\/k=5\/k=6\/k=7\/k=8\/k=9\/k=10\/k=11\/k=12\/k=13\/k=14\/k=15\/k=16\/k=17\/k=18\/k=19\/k=20:=by have:=I.kind;omega
 unfold ExpLaw
 rw[expT,expS]
 rcases hk with rfl|rfl|rfl|rfl|rfl|rfl|rfl|rfl|rfl|rfl|rfl|rfl|rfl|rfl|rfl|rfl|rfl|rfl|rfl|rfl<;>simp only[Int.reduceEq,decide_true,decide_false,cond_true,cond_false]
 ·exact Qig n
 ·exact⟨Q6r (I.var rfl),Qu _⟩
 ·have hc:=Q9Y (I.con rfl).1
  by_cases hz:kids.length=0
  ·rw[decide_eq_true hz,decide_eq_false (show ¬ kids.length>0 by omega)]
   exact⟨hc,Qu _⟩
  ·rw[decide_eq_false hz,decide_eq_true (show kids.length>0 by omega)]
   obtain⟨h1,h2⟩:=Q16 HK (i:=0) (by omega) 9
   simp only[cond_true,cond_false]
   exact⟨hc.append h1,by rw[Qr hc h1,Qu,h2]⟩
 ·obtain⟨h0,h1,h2⟩:=Qi1 HK (by rintro rfl;have:=(I.tup rfl).1;simp at this)
  obtain⟨t1,t2⟩:=Qbj (sign:=[44]) (by decide) Q8M h0 h1
  exact⟨t1,by rw[t2,h2]⟩
 ·have hne:cs≠[]:=by rintro rfl;exact I.fn rfl rfl
  obtain⟨h1,h2⟩:=Q9I hne HC
  exact⟨(nw [102,110]).append h1,by rw[Qr (nw [102,110]) h1,Qu,h2];rfl⟩
 ·obtain⟨x,y,rfl⟩:=Qeq (l:=kids) (by have:=I.two (.inl rfl);omega)
  obtain⟨h1,h2⟩:=Q16 HK (i:=0) (by simp) 8
  obtain⟨h3,h4⟩:=Q16 HK (i:=1) (by simp) 9
  have hb:bareE x=true->decide ((((expSs [x,y]).getD 0 ([],9)).2)<8)=false:=by
   intro hb
   unfold bareE at hb
   simp only[Yf,decide_eq_true_eq] at hb
   rw[Q0k]
   simp only[Yh,List.getD_cons_zero]
   unfold levE
   simp[hb.1,hb.2.1]
  refine⟨(h1.par _).append h3,?_⟩
  rw[Qr (h1.par _) h3,Q1g _ h1,h2,h4]
  unfold atS
  rw[show ([x,y]:List Exp).headD (.mk 0 0 [] 0 [] true [] true [] true)=x from rfl,Qkw _ _ _ hb]
 ·obtain⟨x,rfl⟩:=Qio (l:=kids) (by have:=(I.letd rfl).1;omega)
  obtain⟨h1,h2⟩:=Q7X HK (i:=0) (by simp)
  have n1:=h1.append (nw [101,110,100])
  have n2:=(nw [105,110]).append n1
  obtain⟨r1,r2⟩:=QhF ds HD _ n2
  refine⟨(nw [108,101,116]).append r1,?_⟩
  rw[Qr (nw [108,101,116]) r1,r2,Qr (nw [105,110]) n1,Qr h1 (nw [101,110,100]),h2,Qu,Qu,Qu]
  simp
 ·have hl:kids.length=3:=by have:=I.if_ rfl;omega
  obtain⟨a1,a2⟩:=Q7X HK (i:=0) (by omega)
  obtain⟨b1,b2⟩:=Q7X HK (i:=1) (by omega)
  obtain⟨c1,c2⟩:=Q7X HK (i:=2) (by omega)
  have n1:=(nw [101,108,115,101]).append c1
  have n2:=b1.append n1
  have n3:=(nw [116,104,101,110]).append n2
  have n4:=a1.append n3
  refine⟨(nw [105,102]).append n4,?_⟩
  rw[Qr (nw [105,102]) n4,Qr a1 n3,Qr (nw [116,104,101,110]) n2,Qr b1 n1,Qr (nw [101,108,115,101]) c1,a2,b2,c2,Qu,Qu,Qu]
  simp
 ·have hne:cs≠[]:=by rintro rfl;exact (I.case_ rfl).2 rfl
  obtain⟨h1,h2⟩:=Q9I hne HC
  obtain⟨a1,a2⟩:=Q7X HK (i:=0) (by have:=(I.case_ rfl).1;omega)
  have n1:=(nw [111,102]).append h1
  have n2:=a1.append n1
  refine⟨(nw [99,97,115,101]).append n2,?_⟩
  rw[Qr (nw [99,97,115,101]) n2,Qr a1 n1,Qr (nw [111,102]) h1,a2,h2,Qu,Qu]
  simp
 ·obtain⟨h0,h1,h2⟩:=Qi1 HK (by rintro rfl;have:=I.seq rfl;simp at this)
  obtain⟨t1,t2⟩:=Qbj (sign:=[59]) (sep:=[59,32]) (by decide) (λz hz=>by
   simp only[textGo,sepB,hz]
   rw[show hasL glueR [59]=true by decide];rfl) h0 h1
  exact⟨t1,by rw[t2,h2]⟩
 ·have hne:cs≠[]:=by rintro rfl;exact (I.try_ rfl).2 rfl
  obtain⟨h1,h2⟩:=Q9I hne HC
  obtain⟨a1,a2⟩:=Q16 HK (i:=0) (by have:=(I.try_ rfl).1;omega) 3
  have n1:=(nw [104,97,110,100,108,101]).append h1
  refine⟨a1.append n1,?_⟩
  rw[Qr a1 n1,Qr (nw [104,97,110,100,108,101]) h1,a2,h2,Qu]
  simp
 ·obtain⟨a1,a2⟩:=Q7X HK (i:=0) (by have:=I.one (.inl rfl);omega)
  exact⟨(nw [114,97,105,115,101]).append a1,by rw[Qr (nw [114,97,105,115,101]) a1,Qu,a2];rfl⟩
 ·obtain⟨hl,hn⟩:=I.op rfl
  have no:=Qpe hn
  have fin:∀ l r,(NiceT (atT (expTs kids) 0 l++([opN n]++atT (expTs kids) 1 r))/\textB (atT (expTs kids) 0 l++([opN n]++atT (expTs kids) 1 r))=atS (expSs kids) 0 l++(32::(opN n++(32::atS (expSs kids) 1 r)))):=λl r=>by
   obtain⟨a1,a2⟩:=Q16 HK (i:=0) (by omega) l
   obtain⟨b1,b2⟩:=Q16 HK (i:=1) (by omega) r
   refine⟨a1.append (no.append b1),?_⟩
   rw[Qr a1 (no.append b1),Qr no b1,a2,b2,Qu]
  cases decide (n≥6) with
  |true=>exact fin 6 6
  |false=>
    cases decide (n<=2) with
    |true=>exact fin 6 7
    |false=>exact fin 7 8
 ·have hl:kids.length=2:=by have:=I.two (.inr (.inl rfl));omega
  obtain⟨a1,a2⟩:=Q16 HK (i:=0) (by omega) 5
  obtain⟨b1,b2⟩:=Q16 HK (i:=1) (by omega) 4
  have n1:=(nw [97,110,100,97,108,115,111]).append b1
  refine⟨a1.append n1,?_⟩
  rw[Qr a1 n1,Qr (nw [97,110,100,97,108,115,111]) b1,a2,b2,Qu]
  simp
 ·have hl:kids.length=2:=by have:=I.two (.inr (.inr (.inl rfl)));omega
  obtain⟨a1,a2⟩:=Q16 HK (i:=0) (by omega) 4
  obtain⟨b1,b2⟩:=Q16 HK (i:=1) (by omega) 3
  have n1:=(nw [111,114,101,108,115,101]).append b1
  refine⟨a1.append n1,?_⟩
  rw[Qr a1 n1,Qr (nw [111,114,101,108,115,101]) b1,a2,b2,Qu]
  simp
 ·obtain⟨a1,a2⟩:=Q16 HK (i:=0) (by have:=I.one (.inr (.inl rfl));omega) 9
  exact⟨(nw [114,101,102]).append a1,by rw[Qr (nw [114,101,102]) a1,Qu,a2];rfl⟩
 ·obtain⟨a1,a2⟩:=Q16 HK (i:=0) (by have:=I.one (.inr (.inr (.inl rfl)));omega) 9
  exact⟨a1.glue (by decide),by rw[Qgo (by decide) a1,a2]⟩
 ·obtain⟨x,y,rfl⟩:=Qeq (l:=kids) (by have:=I.two (.inr (.inr (.inr rfl)));omega)
  obtain⟨h1,h2⟩:=Q16 HK (i:=0) (by simp) 2
  obtain⟨h3,h4⟩:=Q16 HK (i:=1) (by simp) 1
  have hb:decide (x.kind=11)=true->decide ((((expSs [x,y]).getD 0 ([],9)).2)<2)=false:=by
   intro hb
   have hb:=of_decide_eq_true hb
   rw[Q0k]
   simp only[Yh,List.getD_cons_zero]
   unfold levE
   simp[hb]
  have n1:=(nw [58,61]).append h3
  refine⟨(h1.par _).append n1,?_⟩
  rw[Qr (h1.par _) n1,Qr (nw [58,61]) h3,Q1g _ h1,h2,h4,Qu]
  unfold atS
  rw[show ([x,y]:List Exp).headD (.mk 0 0 [] 0 [] true [] true [] true)=x from rfl,Qkw _ _ _ hb]
  simp
 ·obtain⟨a1,a2⟩:=Q16 HK (i:=0) (by have:=I.one (.inr (.inr (.inr rfl)));omega) 9
  exact⟨(nw [112,114,105,110,116]).append a1,by rw[Qr (nw [112,114,105,110,116]) a1,Qu,a2];rfl⟩
 ·exact⟨⟨⟨[114,101,97,100],[[40],[41]],rfl,by decide⟩,⟨[[114,101,97,100],[40]],[41],rfl,by decide⟩⟩,by decide⟩
theorem Qn8(k a:Int)(nm:Str)(p:Int)(cons:List Con)(nb:Bool)(cs:List Case)(cb:Bool)(fs:List Fun)(fb:Bool)(inn:Bool)(I:DecIs k nm p cons.length cs.length fs.length inn)
  (HC:∀ c ∈ cs,PatLaw c.pat/\ExpLaw c.exp) (HF:∀ f ∈ fs,lowB f.name=true/\PatLaw f.case.pat/\ExpLaw f.case.exp) (HN:∀ c ∈ cons,NiceT (conT c)/\textB (conT c)=conS c):DecLaw (.mk k a nm p cons nb cs cb fs fb):=by
 unfold DecLaw
 rw[decT,decS]
 have hcons:(cons.map conT).map textB=cons.map conS:=by
  rw[List.map_map]
  exact List.map_congr_left λc hc=>(HN c hc).2
 have hconsN:∀ l ∈ cons.map conT,NiceT l:=λl hl=>by
  obtain⟨c,hc,rfl⟩:=List.mem_map.1 hl
  exact (HN c hc).1
 rcases I.kind with rfl|rfl|rfl|rfl<;>simp only[Int.reduceEq,decide_true,decide_false,cond_true,cond_false]
 ·obtain⟨c,rfl⟩:=Qio (l:=cs) (by have:=(I.val rfl).1;omega)
  obtain⟨pt,ex,rfl⟩:∃ p e,c=Case.mk p e:=by cases c with|mk p e=>exact⟨p,e,rfl⟩
  obtain⟨hp,h3,h4⟩:PatLaw pt/\ExpLaw ex:=HC _ Yd
  obtain⟨h1,h2⟩:=hp 0 (by decide)
  have hp0:parS (decide (patLv pt<0)) (patS pt)=patS pt:=by
   have:decide (patLv pt<0)=false:=by
    unfold patLv
    cases decide (pt.kind=6)<;>cases decide (pt.kind=4)&&decide (pt.kids.length>0)<;>rfl
   rw[this];rfl
  rw[hp0] at h2
  simp only[Q0g,Q0f,Yh,Yo,List.headD_cons,Case.pat,Case.exp]
  have n1:=(nw [61]).append h3
  refine⟨(nw [118,97,108]).append (h1.append n1),?_⟩
  rw[Qr (nw [118,97,108]) (h1.append n1),Qr h1 n1,Qr (nw [61]) h3,h2,h4,Qu,Qu]
  simp
 ·have hne:fs≠[]:=by rintro rfl;have:=(I.fn rfl).2.2;simp at this
  have hL:∀ f ∈ fs,NiceT (funT f)/\textB (funT f)=funS f:=λf hf=>by
   obtain⟨h0,hp,h3,h4⟩:=HF f hf
   obtain⟨h1,h2⟩:=hp 2 (by decide)
   have n0:=Q6r h0
   have n1:=(nw [61]).append h3
   unfold funT funS
   refine⟨n0.append (h1.append n1),?_⟩
   rw[Qr n0 (h1.append n1),Qr h1 n1,Qr (nw [61]) h3,h2,h4,Qu,Qu]
   simp
  rw[Q6K,Q6J]
  have h1:∀ l ∈ fs.map funT,NiceT l:=λl hl=>by
   obtain⟨f,hf,rfl⟩:=List.mem_map.1 hl
   exact (hL f hf).1
  have h2:(fs.map funT).map textB=fs.map funS:=by
   rw[List.map_map]
   exact List.map_congr_left λf hf=>(hL f hf).2
  have n1:=NiceT.join [97,110,100] (L:=fs.map funT) (by simpa using hne) h1
  refine⟨(nw [102,117,110]).append n1,?_⟩
  rw[Qr (nw [102,117,110]) n1,Q3D [97,110,100] [32,97,110,100,32] (by decide) (λz hz=>by
   simp only[textGo,sepB,hz]
   rw[show hasL glueR [97,110,100]=false by decide];rfl) _ h1,h2,Qu]
  rfl
 ·obtain⟨-,-,hp0,-,hlow,hnl,-⟩:=I.data rfl
  have hne:cons.map conT≠[]:=by simp;rintro rfl;simp at hnl
  have n1:=NiceT.join [124] hne hconsN
  have n2:=(nw [61]).append n1
  have n3:=(Q6r hlow).append n2
  obtain⟨r1,r2⟩:=QnD p hp0 _ n3
  have e:(parmT p++([nm,[61]]++joinT [124] (cons.map conT) true):List Str)=parmT p++([nm]++([[61]]++joinT [124] (cons.map conT) true)):=by simp
  rw[e]
  refine⟨(nw [100,97,116,97,116,121,112,101]).append r1,?_⟩
  rw[Qr (nw [100,97,116,97,116,121,112,101]) r1,r2,Qr (Q6r hlow) n2,Qr (nw [61]) n1,Q3D [124] [32,124,32] (by decide) (λz hz=>by
   simp only[textGo,sepB,hz]
   rw[show hasL glueR [124]=false by decide];rfl) _ hconsN,hcons,Qu,Qu,Qu]
  simp
 ·obtain⟨c,rfl⟩:=Qio (l:=cons) (by have:=(I.exn rfl).2.2;omega)
  obtain⟨h1,h2⟩:=HN c Yd
  simp only[Yh,Yo,List.headD_cons]
  exact⟨(nw [101,120,99,101,112,116,105,111,110]).append h1,by rw[Qr (nw [101,120,99,101,112,116,105,111,110]) h1,Qu,h2];rfl⟩
theorem Q3t:∀ {l:List Con} {c:Con},c ∈ l->∀ n ∈ nodesCon c,n ∈ nodesCons l
 |x::l,c,h,n,hn=>by
   simp only[nodesCons,Yy]
   rcases List.mem_cons.1 h with rfl|h
   ·exact .inl hn
   ·exact .inr (Q3t h n hn)
theorem QeJ{fs:List Fun}(h:RN (nodesFuns fs)):∀ f ∈ fs,lowB f.name=true:=by
 intro f hf
 have:∀ l:List Fun,RN (nodesFuns l)->f ∈ l->lowB f.name=true:=by
  intro l
  induction l with
  |nil=>intro _ h;cases h
  |cons x l ih=>
    intro h hf
    simp only[nodesFuns] at h
    rcases List.mem_cons.1 hf with rfl|hf
    ·have:=h.l
     cases hq:f with
     |mk nm a c=>
       rw[hq] at this
       simp only[nodesFun] at this
       have h1:=this (.fn (.mk nm a c)) Yd
       simp only[TNode.wrong,Fun.name] at h1
       cases hb:lowB nm with
       |true=>exact hb
       |false=>rw[hb] at h1;cases h1
    ·exact ih h.r hf
 exact this fs h hf
theorem Qk2:∀ m:Nat,(∀ e:Exp,e.size<=m->RN (nodesExp e)->ExpLaw e)/\(∀ d:Dec,∀ i:Bool,d.size<=m->RN (nodesDec i d)->(i=true\/NumCons d.cons)->DecLaw d)
 |0=>⟨λe h=>by cases e;simp only[Exp.size] at h;omega,λd i h=>by cases d;simp only[Dec.size] at h;omega⟩
 |m+1=>by
   obtain⟨HE,HD⟩:=Qk2 m
   have HC:∀ cs:List Case,Case.sizes cs<=m->RN (nodesCases cs)->∀ c ∈ cs,PatLaw c.pat/\ExpLaw c.exp:=λcs hs hr c hc=>by
    have h1:=Case.mem_sizes hc
    have h2:=RN.cases hr c hc
    cases c with
    |mk p e=>
      simp only[Case.size] at h1
      simp only[nodesCase] at h2
      exact⟨QbK p.size p (Yg _) h2.l,HE e (by omega) h2.r⟩
   refine⟨λe h hr=>?_,λd i h hr hn=>?_⟩
   ·cases e with
    |mk k a nm n kids kb cs cb ds db=>
      simp only[Exp.size] at h
      simp only[nodesExp] at hr
      have I:ExpIs k n nm kids.length cs.length ds.length:=QaP (hr _ Yd)
      have hr':=hr.t
      refine Qnf k a nm n kids kb cs cb ds db I (λe he=>?_) (HC cs (by omega) hr'.r.r) (λd hd=>?_)
      ·have:=Exp.mem_sizes he
       exact HE e (by omega) (RN.exps hr'.r.l e he)
      ·have:=Dec.mem_sizes hd
       exact HD d true (by omega) (RN.decs hr'.l d hd) (.inl rfl)
   ·cases d with
    |mk k a nm p cons nb cs cb fs fb=>
      simp only[Dec.size] at h
      simp only[nodesDec] at hr
      have I:DecIs k nm p cons.length cs.length fs.length i:=QaK (hr _ Yd)
      have hr':=hr.t
      refine Qn8 k a nm p cons nb cs cb fs fb i I (HC cs (by omega) hr'.l) (λf hf=>?_) (λc hc=>?_)
      ·have h1:=Fun.mem_sizes hf
       have h2:=RN.funs hr'.r.l f hf
       refine⟨QeJ hr'.r.l f hf,?_⟩
       cases f with
       |mk nm' a' c'=>
         cases c' with
         |mk p' e'=>
           simp only[Fun.size,Case.size] at h1
           simp only[Fun.case,nodesCase] at h2
           exact⟨QbK p'.size p' (Yg _) h2.l,HE e' (by omega) h2.r⟩
      ·have h1:∀ n ∈ nodesCon c,n.wrong.1=0:=λn hn=>hr'.r.r n (Q3t hc n hn)
       rcases hn with rfl|hn
       ·have hz:cons=[]:=by
         rcases I.inn rfl with h2|h2
         ·exact len0 (I.val h2).2.2
         ·exact len0 (I.fn h2).2.1
        rw[hz] at hc;cases hc
       ·cases hh:c.has with
        |true=>exact QoN c h1 (hn c hc hh)
        |false=>
          have hw:wrongConB c=0:=h1 (.con c) (by unfold nodesCon;exact Yd)
          have hcap:capB c.name=true:=by
           unfold wrongConB at hw
           grind
          unfold conT conS
          rw[hh]
          exact⟨Q9X hcap,Qu _⟩
end Go.Am