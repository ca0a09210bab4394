/- A part of the proof: SShow3, SShow4, SRef1, PTree2, SRef2, SRef5, SRef8, SRef10c, SLex2, SLex3. -/
import Derived.Test.YtgfhplcmcdimiaaGreatDoorM3
import Derived.Test.YtgfhplcmcdimiaaGreatDoorM6
import Derived.Test.YtgfhplcmcdimiaaGreatDoorM7
import Derived.Test.YtgfhplcmcdimiaaGreatDoorM8
import Derived.Test.YtgfhplcmcdimiaaGreatDoorM9
import Derived.Test.YtgfhplcmcdimiaaGreatDoorM10
import Derived.Lib.ItoaLen
import Derived.Lib.IndexMore
set_option linter.unusedVariables false
set_option linter.unusedSimpArgs false
open Bool renaming and_eq_true→Yf,false_or→Yt
open List renaming length_cons→Ya,length_append→Yb,mem_cons_of_mem→Yc,mem_cons_self→Yd,length_nil→Ye,map_cons→Yh,length_map→Yi,cons_append→Yk,length_singleton→Yl,map_nil→Yo,append_nil→Yr,mem_of_getElem?→Ys,sum_cons→Yv,mem_cons→Yw
open Nat renaming le_refl→Yg
namespace Go.Am
open Go
def StrsAV(v:AV)(l:List Str):Prop:=(Slot.val v).list? = some (l.map AV.str)
theorem StrsAV.cells{v:AV}{l:List Str}(h:StrsAV v l):v.cells=[v]:=by
 cases v<;>first|rfl|(simp only[StrsAV,Slot.list?] at h;cases h;done)
theorem StrsAV.bsl{v:AV}{l:List Str}(h:StrsAV v l)(r:List Slot):bslS 1 (.val v::r)=(bslS 1 r).map (v :: ·):=by
 cases v<;>first|(simp only[StrsAV,Slot.list?] at h;cases h;done)|(simp only[bslS];cases bslS 1 r<;>rfl)
theorem StrsAV.bslx{x:Slot}{v:AV}{l:List Str}(hx:x.av=some v)(h:StrsAV v l)(r:List Slot):bslS 1 (x::r)=(bslS 1 r).map (v :: ·):=by
 have h1:=h.bsl r
 rw[<-h1]
 have h2:(Slot.val v).av=some v:=rfl
 simp only[bslS,hx,h2]
theorem Qm(l:List Str):StrsAV (.sl (l.map AV.str)) l:=id rfl
theorem Qlj(nl:Bool)(l:List Str):StrsAV (encS nl (l.map AV.str)) l:=Q4 _ _
theorem StrsAV.ld{v:AV}{l:List Str}(h:StrsAV v l){t:TI}(ht:t.isAgg=false)(hz:t.size=1)(s:St):ldV t false s (.val (.cp v.cells))=some (.val v):=by
 rw[h.cells]
 simp only[ldV,ofSlots,hz]
 simp[ht,ofCells]
structure SlotS (x:Slot) (l:List Str):Prop where
 av:∃ v,x.av=some v/\StrsAV v l
 list:x.list? = some (l.map AV.str)
def RetS(r:Res)(s:St)(l:List Str):Prop:=∃ x s',r=some (.ret x,s')/\Grew s s'/\SlotS x l
theorem StrsAV.slot{v:AV}{l:List Str}(h:StrsAV v l):SlotS (.val v) l:=⟨⟨v,rfl,h⟩,h⟩
theorem AccR.strs{e:TypeId}{s0 s:St}{x:Slot}{l:List Str}(h:AccR e s0 s x (l.map AV.str)):∃ v,x.av=some v/\StrsAV v l:=by
 obtain⟨nl,h1⟩:=h.av
 exact⟨_,h1,Qlj nl l⟩
theorem AccR.slot{e:TypeId}{s0 s:St}{x:Slot}{l:List Str}(h:AccR e s0 s x (l.map AV.str)):SlotS x l:=⟨h.strs,h.list?⟩
theorem RetA.toS{r:Res}{e:TypeId}{s:St}{l:List Str}(h:RetA r e s (l.map AV.str)):RetS r s l:=by
 obtain⟨x,s',e1,A⟩:=h
 exact⟨x,s',e1,A.grew,A.slot⟩
end Go.Am
namespace Go.Proofs.YtgfhplcmcdimiaaGreatDoor
open Go Go.Am
set_option maxRecDepth 4000
def sumL(P:List (AV × List Str)):Nat:=(P.map λp=>p.2.length).sum
theorem Qmz(p:AV × List Str)(P:List (AV × List Str)):sumL (p::P)=p.2.length+sumL P:=by simp[sumL]
theorem QaJ(P:List (AV × List Str))(hP:∀ p ∈ P,StrsAV p.1 p.2)(hl:P.length<2^40)(v:AV)(hv:(Slot.val v).list? = some (P.map (·.1)))(s0:St):∀ (suf pre:List (AV × List Str)) (acc:List Str) (x:Slot) (s:St) (i:Nat),AccR Q0 s0 s x (acc.map AV.str)->pre++suf=P->i=pre.length->acc.length+sumL suf<2^30->
  RetA (QV x (.val v) (.val (.int .i64 P.length)) (.val (.int .i64 i)) s) Q0 s0 ((acc++(suf.map (·.2)).flatten).map AV.str)
 |[],pre,acc,x,s,i,A,hp,hi,hb=>by
   subst hi
   rw[Q0H];simp only[go_sem,Qg (by simpa using hp),Yo,List.flatten_nil,Yr]
   exact RetA.mk A
 |p::suf,pre,acc,x,s,i,A,hp,hi,hb=>by
   subst hi
   rw[Qmz] at hb
   have hpm:p ∈ P:=by rw[<-hp];simp
   have hc:=(hP p hpm).cells
   obtain⟨f1,f2,f3⟩:=Qe (f:=λp:AV × List Str=>p.1) (sz:=1) hv hp (by omega) (by rw[hc];rfl) (by decide)
   have e1:ldV (C.ti Qj) false s (.val (.cp p.1.cells))=some (.val p.1):=(hP p hpm).ld (by kernel_rfl) (by kernel_rfl) s
   obtain⟨x',s',e2,A'⟩:=AccR.appendF (t:=C.ti Q0) (B:=p.2) A (hP p hpm) (λ_=>rfl) (by decide) (by omega) (by decide +kernel)
   have ih:=QaJ P hP hl v hv s0 suf (pre++[p]) (acc++p.2) x' s' (pre.length+1) A' (by simpa using hp) (by simp) (by simp only[Yb];omega)
   rw[Q0H]
   simp only[go_sem,f1,f2,f3,e1,e2] at ih |-
   simpa using ih
theorem Qm7(n:Nat)(h:n<2^30)(s:St):∃ x s',cw (.f Q08) [.nils,.int .i64 n] s=some (.ret x,s')/\AccR Q0 s s' x (([]:List Str).map AV.str):=by
 have e:C.ext Q08=some (extGrow Q0 (C.ti Q0)):=by kernel_rfl
 by_cases h0:n=0
 ·subst h0
  exact⟨.val .nils,s,Q4K e (by simp[extGrow]),.nil _ _⟩
 ·refine⟨.own s.toks.length Q0 [],{ s with toks:=s.toks++[0] },Q4K e ?_,(Grew.refl s).pushTok 0,.inr (.inr ⟨s.toks.length,rfl,Yg _,by simp⟩)⟩
  have z1:(C.ti Q0).size=1:=by kernel_rfl
  have z2:(C.ti Q0).bytes=16:=by kernel_rfl
  simp only[extGrow,z1,z2]
  rw[if_neg (by omega),if_pos ⟨by omega,by omega,by decide,by omega⟩]
theorem QaI(P:List (AV × List Str))(hP:∀ p ∈ P,StrsAV p.1 p.2)(hl:P.length<2^40)(v:AV)(hv:(Slot.val v).list? = some (P.map (·.1)))(s:St):∀ (suf pre:List (AV × List Str)) (n i:Nat),pre++suf=P->i=pre.length->n=sumL pre->sumL P<2^30->
  RetA (QU (.val v) (.val (.int .i64 n)) (.val v) (.val (.int .i64 P.length)) (.val (.int .i64 i)) s) Q0 s (((P.map (·.2)).flatten).map AV.str)
 |[],pre,n,i,hp,hi,hn,hb=>by
   subst hi
   obtain⟨x,s',e1,A⟩:=Qm7 n (by rw[hn];rw[Yr] at hp;subst hp;exact hb) s
   have:=QaJ P hP hl v hv s P [] [] x s' 0 A rfl rfl (by simpa using hb)
   rw[Q0G];simp only[go_sem,Qg (by simpa using hp),e1,hv,Yi]
   simpa using this
 |p::suf,pre,n,i,hp,hi,hn,hb=>by
   subst hi
   have hpm:p ∈ P:=by rw[<-hp];simp
   have hc:=(hP p hpm).cells
   have hs:sumL (pre++[p])=sumL pre+p.2.length:=by simp[sumL]
   have hs2:sumL pre+p.2.length<=sumL P:=by rw[<-hp];simp[sumL]
   obtain⟨f1,f2,f3⟩:=Qe (f:=λp:AV × List Str=>p.1) (sz:=1) hv hp (by omega) (by rw[hc];rfl) (by decide)
   have e1:ldV (C.ti Qj) false s (.val (.cp p.1.cells))=some (.val p.1):=(hP p hpm).ld (by kernel_rfl) (by kernel_rfl) s
   have e2:(Slot.val p.1).list? = some (p.2.map AV.str):=hP p hpm
   have hw:IntKind.i64.wrap ((n:Int)+(p.2.length:Int))=((n+p.2.length:Nat):Int):=by rw[wrap64 (by omega) (by omega)];rfl
   have hz:decide (((n+p.2.length:Nat):Int)<0)=false:=by simp;omega
   have ih:=QaI P hP hl v hv s suf (pre++[p]) (n+p.2.length) (pre.length+1) (by simpa using hp) (by simp) (by rw[hs,hn]) hb
   rw[Q0G]
   simp only[go_sem,f1,f2,f3,e1,e2,hw,hz,Yi] at ih |-
   exact ih
theorem Q91(P:List (AV × List Str))(hP:∀ p ∈ P,StrsAV p.1 p.2)(hl:P.length<2^40)(v:AV)(hv:(Slot.val v).list? = some (P.map (·.1)))(hb:sumL P<2^30)(s:St):RetA (cw (.f Qs) [v] s) Q0 s (((P.map (·.2)).flatten).map AV.str):=by
 have:=QaI P hP hl v hv s P [] 0 0 rfl rfl rfl hb
 rw[show ((0:Nat):Int)=0 from rfl] at this
 rw[QjO]
 obtain⟨x,s',e1,A⟩:=this
 have e2:cw (.f Z2) [v] s=some (.ret x,s'):=by
  rw[Q57]
  simp only[go_sem,hv,Yi]
  exact e1
 simp only[go_sem,e2]
 exact⟨x,s',rfl,A⟩
theorem QfK{a b c:AV}{la lb lc:List Str}(ha:StrsAV a la)(hb:StrsAV b lb)(hc:StrsAV c lc)(hl:la.length+lb.length+lc.length<2^30)(s:St):RetA (cw (.f Qs) [.sl [a,b,c]] s) Q0 s ((la++lb++lc).map AV.str):=by
 have:=Q91 [(a,la),(b,lb),(c,lc)] (by intro p hp;simp only[Yw,List.not_mem_nil,or_false] at hp;rcases hp with rfl|rfl|rfl<;>assumption) (by simp) (.sl [a,b,c]) rfl (by simp[sumL];omega) s
 simpa using this
theorem QfJ{a b:AV}{la lb:List Str}(ha:StrsAV a la)(hb:StrsAV b lb)(hl:la.length+lb.length<2^30)(s:St):RetA (cw (.f Qs) [.sl [a,b]] s) Q0 s ((la++lb).map AV.str):=by
 have:=Q91 [(a,la),(b,lb)] (by intro p hp;simp only[Yw,List.not_mem_nil,or_false] at hp;rcases hp with rfl|rfl<;>assumption) (by simp) (.sl [a,b]) rfl (by simp[sumL];omega) s
 simpa using this
theorem Q8q{a:AV}{l:List Str}(ha:StrsAV a l)(hl:l.length+2<2^30)(s:St):RetA (cw (.f Zx) [a] s) Q0 s (([40]::(l++[[41]])).map AV.str):=by
 obtain⟨x,s',e1,A⟩:=QfK (Qm [[40]]) ha (Qm [[41]]) (by simp;omega) s
 have c1:=ha.cells
 simp only[Yh,Yo] at e1
 rw[Qlg]
 simp only[go_sem,Nat.reduceAdd,Qp,ha.bsl,e1]
 exact⟨x,s',rfl,by simpa using A⟩
def PartOK(of:AV)(L:List (List Str)):Prop:=∃ g caps,of = .fn g caps/\∀ (i:Nat) (l:List Str),L[i]? = some l->∀ s,RetS (cw (.f g) (.int .i64 i::caps) s) s l
theorem Q85(sign:Str)(g:FuncId)(caps:List AV)(L:List (List Str))(hg:∀ (i:Nat) (l:List Str),L[i]? = some l->∀ s,RetS (cw (.f g) (.int .i64 i::caps) s) s l)(hx:(C.ext g).isSome=false)(hL:L.length<2^40)(s0:St):∀ (suf pre:List (List Str)) (acc:List Str) (x:Slot) (s:St) (i:Nat),AccR Q0 s0 s x (acc.map AV.str)->pre++suf=L->i=pre.length->acc.length+(suf.map (·.length)).sum+suf.length<2^30->
  RetA (Q0x (.val (.str sign)) (.val (.fn g caps)) x (.val (.int .i64 L.length)) (.val (.int .i64 i)) s) Q0 s0 ((acc++joinT sign suf pre.isEmpty).map AV.str)
 |[],pre,acc,x,s,i,A,hp,hi,hb=>by
   subst hi
   rw[Q73];simp only[go_sem,Nat.reduceAdd,Qg (by simpa using hp),joinT,Yr]
   exact RetA.mk A
 |l::suf,pre,acc,x,s,i,A,hp,hi,hb=>by
   subst hi
   simp only[Yh,Yv,Ya] at hb
   have hlt:pre.length<L.length:=by rw[<-hp];simp
   have f1:decide ((pre.length:Int)<(L.length:Int))=true:=by simpa using hlt
   have f3:IntKind.i64.wrap ((pre.length:Int)+1)=((pre.length+1:Nat):Int):=by rw[wrap64 (by omega) (by omega)];rfl
   have hgi:=hg pre.length l (by rw[<-hp];simp)
   rw[Q73]
   cases pre with
   |nil=>
     obtain⟨y,s1,e1,gB,hy⟩:=hgi s
     obtain⟨x',s2,e3,A'⟩:=AccR.appendF (t:=C.ti Q0) (B:=l) (A.move gB) (y:=y) hy.list (λ_=>rfl) (by decide) (by omega) (by decide +kernel)
     have ih:=Q85 sign g caps L hg hx hL s0 suf [l] (acc++l) x' s2 1 A' (by simpa using hp) rfl (by simp only[Yb];omega)
     have f1:decide ((0:Int)<(L.length:Int))=true:=by simpa using hlt
     have f3:IntKind.i64.wrap 1=1:=rfl
     have e1:cw (.f g) (.int .i64 0::caps) s=some (.ret y,s1):=e1
     have i0:((([]:List (List Str)).length:Nat):Int)=0:=rfl
     have i1:((1:Nat):Int)=1:=rfl
     rw[i0]
     rw[i1] at ih
     have z1:decide ((0:Int)>0)=false:=rfl
     simp only[go_sem,Int.reduceAdd,Int.reduceGT,Nat.reduceAdd,f1,f3,z1,e1,e3,hx,joinT,List.isEmpty_nil] at ih |-
     simpa using ih
   |cons q pre'=>
     have z1:decide ((((q::pre').length:Nat):Int)>0)=true:=by simp
     obtain⟨x1,s1,e0,A1⟩:=AccR.appendF (t:=C.ti Q0) (B:=[sign]) (y:=.full [.str sign]) A rfl (λ_=>rfl) (by decide) (by simp only[Yl];omega) (by decide +kernel)
     obtain⟨y,s2,e1,gB,hy⟩:=hgi s1
     obtain⟨x',s3,e3,A'⟩:=AccR.appendF (t:=C.ti Q0) (B:=l) (A1.move gB) (y:=y) hy.list (λ_=>rfl) (by decide) (by simp only[Yb,Yl];omega) (by decide +kernel)
     have ih:=Q85 sign g caps L hg hx hL s0 suf ((q::pre')++[l]) (acc++[sign]++l) x' s3 ((q::pre').length+1) A' (by simpa using hp) (by simp) (by simp only[Yb,Yl];omega)
     generalize (q::pre').length=k at f1 f3 z1 e1 ih |-
     simp only[go_sem,Nat.reduceAdd,f1,f3,z1,e0,e1,e3,hx] at ih |-
     simpa [joinT] using ih
theorem Q0j(sign:Str)(of:AV)(L:List (List Str))(h:PartOK of L)(hx:∀ g caps,of = .fn g caps->(C.ext g).isSome=false)(hb:(L.map (·.length)).sum+L.length<2^30)(s:St):RetA (cw (.f QX) [.str sign,.int .i64 L.length,of] s) Q0 s ((joinT sign L true).map AV.str):=by
 obtain⟨g,caps,rfl,hg⟩:=h
 have:=Q85 sign g caps L hg (hx g caps rfl) (by omega) s L [] [] (.val .nils) s 0 (.nil _ _) rfl rfl (by simpa using hb)
 rw[Qec]
 simp only[go_sem] at this |-
 simpa using this
theorem QaW(n:Int)(h:-9223372036854775808<=n/\n<=9223372036854775807)(s:St):cw (.f Q5b) [.int .i64 n] s=some (.ret (.val (.str (Go.Lib.itoa n))),s):=by
 have e:C.ext Q6g=some (pureX extItoa):=by kernel_rfl
 have e1:cw (.f Q6g) [.int .i64 n] s=some (.ret (.val (.str (Go.Lib.itoa n))),s):=Q4K e (by simp[pureX,extItoa,h])
 rw[QjC]
 simp only[go_sem,e1]
theorem Qmr(m:Int)(h0:0<=m)(h:m<128):convS (C.ti Q27) (C.ti Q0) (.val (.int .i32 m))=some (.val (.str [UInt8.ofNat m.toNat])):=by
 have k1:(C.ti Q27).k = .int .i32:=by kernel_rfl
 have k2:(C.ti Q0).k = .str:=by kernel_rfl
 simp only[convS,convStr,k1,k2,h0,h,and_self,if_true]
theorem Qi0(n:Int)(h0:0<=n)(h:n<2^62):(Go.Lib.itoa n).length<2^40:=by
 have:=Go.Lib.itoa_length_le n (by omega) (by omega)
 omega
theorem Zw{t:TI}{a b:Str}(h:a.length+b.length<=9223372036854775807):binS t .add (.val (.str a)) (.val (.str b))=some (.val (.str (a++b))):=by
 simp only[binS,Slot.av]
 rw[if_pos h]
theorem Qat(n:Int)(h0:0<=n)(h:n<2^63)(s:St):cw (.f Q3f) [.int .i64 n] s=some (.ret (.val (.str (39::letT n))),s):=by
 have a1:n.tmod 26=n % 26:=Int.tmod_eq_emod_of_nonneg h0
 have a2:n.tdiv 26=n / 26:=Int.tdiv_eq_ediv_of_nonneg h0
 have b1:IntKind.i64.wrap (97+n % 26)=97+n % 26:=wrap64 (by omega) (by omega)
 have b2:IntKind.i64.wrap (n / 26)=n / 26:=wrap64 (by omega) (by omega)
 have b3:IntKind.i32.wrap (97+n % 26)=97+n % 26:=by simp[IntKind.wrap,IntKind.bits,IntKind.signed];omega
 have e1:=Qmr (97+n % 26) (by omega) (by omega)
 have e2:=QaW (n / 26) (by omega) s
 have e3:=Qi0 (n / 26) (by omega) (by omega)
 have k1:convS (C.ti Q1) (C.ti Q27) (.val (.int .i64 (97+n % 26)))=some (.val (.int .i32 (97+n % 26))):=by
  have k1:(C.ti Q27).k = .int .i32:=by kernel_rfl
  have k2:(C.ti Q1).k = .int .i64:=by kernel_rfl
  simp only[convS,k1,k2,b3]
 rw[Qd9]
 cases hn:decide (n>25) with
 |false=>simp only[go_sem,Int.reduceEq,ne_eq,not_false_eq_true,a1,b1,k1,e1,hn,letT];rfl
 |true=>
   have c1:([39,UInt8.ofNat (97+n % 26).toNat]:Str).length+(Go.Lib.itoa (n / 26)).length<=9223372036854775807:=by simp only[Ya,Ye];omega
   simp only[go_sem,Int.reduceEq,ne_eq,not_false_eq_true,a1,a2,b1,b2,k1,e1,e2,hn,letT]
   rw[Zw (by simp)]
   simp only[go_sem]
   rw[Zw (by simpa using c1)]
   rfl
open Go Go.Am
set_option maxRecDepth 4000
def shpB(t:Ty):Bool:=bif decide (t.kind=1) then decide (0<=t.n)&&decide (t.n<2^63) else !decide (t.name=[45,62]) || decide (t.args.length=2)
def TypOK(t:Ty):Prop:=∀ (lv:Int) (s:St),RetS (cw (.f Q0e) [t.enc,.int .i64 lv] s) s (typT t lv)
theorem Q6F(T:Ty){i:Nat}{t:Ty}(hi:T.args[i]? = some t):ixS 4 (.val (encS T.nl (T.args.map Ty.enc))) (.val (.int .i64 (i:Int)))=some (.val (.cp t.enc.cells)):=
 Q0X (Q4 _ _) (show (T.args.map Ty.enc)[i]? = some t.enc by simp[hi]) (Ty.cells_len t) (by decide)
theorem Qlm(T:Ty)(H:∀ t ∈ T.args,TypOK t)(i:Nat)(t:Ty)(hi:T.args[i]? = some t)(s:St):RetS (cw (.f Q3n) [.int .i64 i,.cp T.cells] s) s (typT t 2):=by
 obtain⟨x,s',e2,A⟩:=H t (Ys hi) 2 s
 rw[Qh7]
 simp only[go_sem,Nat.reduceAdd,Nat.reduceLeDiff,Ty.cells_eq T,Q6F T hi,e2]
 exact⟨x,s',rfl,A⟩
theorem Qln(T:Ty)(H:∀ t ∈ T.args,TypOK t)(i:Nat)(t:Ty)(hi:T.args[i]? = some t)(s:St):RetS (cw (.f Q3o) [.int .i64 i,.cp T.cells] s) s (typT t 0):=by
 obtain⟨x,s',e2,A⟩:=H t (Ys hi) 0 s
 rw[Qh8]
 simp only[go_sem,Nat.reduceAdd,Nat.reduceLeDiff,Ty.cells_eq T,Q6F T hi,e2]
 exact⟨x,s',rfl,A⟩
theorem QsA(T:Ty)(H:∀ t ∈ T.args,TypOK t):PartOK (.fn Q3n [.cp T.cells]) (typTs T.args 2):=⟨_,_,rfl,λi l hl s=>by
 rw[Q6w,List.getElem?_map,Option.map_eq_some_iff] at hl
 obtain⟨t,h1,rfl⟩:=hl
 exact Qlm T H i t h1 s⟩
theorem QsB(T:Ty)(H:∀ t ∈ T.args,TypOK t):PartOK (.fn Q3o [.cp T.cells]) (typTs T.args 0):=⟨_,_,rfl,λi l hl s=>by
 rw[Q6w,List.getElem?_map,Option.map_eq_some_iff] at hl
 obtain⟨t,h1,rfl⟩:=hl
 exact Qln T H i t h1 s⟩
theorem Qc1{p:Ty->Bool}:∀ {l:List Ty},allTys p l=true->∀ u ∈ l,allTy p u=true
 |[],_,u,hu=>by cases hu
 |t::l,h,u,hu=>by
   simp only[allTys,Yf] at h
   rcases List.mem_cons.1 hu with rfl|hu
   ·exact h.1
   ·exact Qc1 h.2 u hu
theorem Qct{s:St}{x:Slot}{l:List Str}(A:SlotS x l)(hl:l.length+2<2^30)(lv lev:Int):RetS (Q4j (.val (.int .i64 lv)) (.val (.int .i64 lev)) x s) s (parT (decide (lev<lv)) l):=by
 rw[Qfu]
 cases hd:decide (lev<lv) with
 |false=>simp only[go_sem,hd,parT];exact⟨x,s,rfl,.refl s,A⟩
 |true=>
   obtain⟨v,hv,hs⟩:=A.av
   obtain⟨y,s',e1,B⟩:=Q8q hs hl s
   simp only[go_sem,hd,QW hv,e1,parT]
   exact⟨y,s',rfl,B.grew,B.slot⟩
theorem Q4E:∀ (m:Nat) (t:Ty),t.size<=m->t.size<2^26->allTy shpB t=true->TypOK t
 |0,t,h,_,_=>by cases t;simp only[Ty.size] at h;omega
 |m+1,t,h,hb,hs=>by
   intro lv s
   have kids:∀ u ∈ t.args,TypOK u:=λu hu=>by
    obtain⟨k,n,nm,ags,nl⟩:=t
    have:=Ty.mem_sizes hu
    simp only[Ty.size,Ty.args,allTy,Yf] at h hb hs this
    refine Q4E m u (by omega) (by omega) ?_
    exact Qc1 hs.2 u hu
   have hsz:Ty.sizes t.args+1=t.size:=by cases t;simp only[Ty.size,Ty.args]
   have hlen:=Ty.len_sizes t.args
   have hsh:shpB t=true:=by cases t;simp only[allTy,Yf] at hs;exact hs.1
   have hT:typT t lv=bif decide (t.kind=1) then [39::letT t.n]
    else bif decide (t.name=[45,62]) then parT (decide (0<lv)) ((typTs t.args 1).getD 0 []++[[45,62]]++(typTs t.args 0).getD 1 [])
    else bif decide (t.name=[42]) then parT (decide (1<lv)) (joinT [42] (typTs t.args 2) true)
    else bif decide (t.args.length=0) then [t.name]
    else bif decide (t.args.length=1) then (typTs t.args 2).getD 0 []++[t.name]
    else [40]::(joinT [44] (typTs t.args 0) true++[[41]])++[t.name]:=by
    cases t
    simp only[typT,Ty.kind,Ty.n,Ty.name,Ty.args]
    rfl
   have c:=Ty.cells_eq t
   have p1:=QsA t kids
   have p2:=QsB t kids
   rw[c] at p1 p2
   have l0:=Q56 t.args 0
   have l2:=Q56 t.args 2
   have q0:(typTs t.args 0).length=t.args.length:=by rw[Q6w,Yi]
   have q2:(typTs t.args 2).length=t.args.length:=by rw[Q6w,Yi]
   have x1:∀ g caps,AV.fn Q3n [.cp [.int .i64 t.kind,.int .i64 t.n,.str t.name,encS t.nl (t.args.map Ty.enc)]] = .fn g caps->(C.ext g).isSome=false:=λg caps h=>by cases h;kernel_rfl
   have x2:∀ g caps,AV.fn Q3o [.cp [.int .i64 t.kind,.int .i64 t.n,.str t.name,encS t.nl (t.args.map Ty.enc)]] = .fn g caps->(C.ext g).isSome=false:=λg caps h=>by cases h;kernel_rfl
   rw[hT]
   unfold shpB at hsh
   rw[QjR]
   cases hk:decide (t.kind=1) with
   |true=>
     rw[hk] at hsh
     simp only[cond_true,Yf,decide_eq_true_eq] at hsh
     have e1:=Qat t.n hsh.1 hsh.2 s
     simp only[go_sem,Nat.reduceAdd,Nat.reduceLeDiff,c,hk,e1,Qp]
     exact⟨_,s,rfl,.refl s,(Qm [39::letT t.n]).slot⟩
   |false=>
     rw[hk] at hsh
     simp only[cond_false] at hsh
     cases hn:decide (t.name=[45,62]) with
     |true=>
       rw[hn] at hsh
       obtain⟨a,b,hab⟩:∃ a b,t.args=[a,b]:=by
        simp only[Bool.not_true,Yt,decide_eq_true_eq] at hsh
        match hq:t.args,hsh with
        |[a,b],_=>exact⟨a,b,rfl⟩
       have f0:=Q6F t (i:=0) (t:=a) (by rw[hab];rfl)
       have f1:=Q6F t (i:=1) (t:=b) (by rw[hab];rfl)
       obtain⟨y1,s1,e1,g1,h1⟩:=kids a (by rw[hab];simp) 1 s
       obtain⟨y2,s2,e2,g2,h2⟩:=kids b (by rw[hab];simp) 0 s1
       obtain⟨v1,av1,hv1⟩:=h1.av
       obtain⟨v2,av2,hv2⟩:=h2.av
       have la:=Q1i a 1
       have lb:=Q1i b 0
       have hz:a.size+b.size+1=t.size:=by rw[<-hsz,hab];simp only[Ty.sizes];omega
       obtain⟨y3,s3,e3,A3⟩:=QfK hv1 (Qm [[45,62]]) hv2 (by simp only[Yl];omega) s2
       obtain⟨y4,s4,e4,g4,h4⟩:=Qct (s:=s3) A3.slot (by simp only[Yb,Yl];omega) lv 0
       have bs1:bslS 1 [y1,.val (.sl [.str [45,62]]),y2]=some [v1,.sl [.str [45,62]],v2]:=by
        have hm:StrsAV (.sl [.str [45,62]]) [[45,62]]:=Qm [[45,62]]
        rw[hv1.bslx av1,hm.bsl,hv2.bslx av2];rfl
       rw[show ((0:Nat):Int)=0 from rfl] at f0
       rw[show ((1:Nat):Int)=1 from rfl] at f1
       simp only[Yh,Yo] at e3
       simp only[go_sem,Nat.reduceAdd,Nat.reduceLeDiff,c,hk,hn,f0,f1,e1,e2,Qp,bs1,e3,e4]
       refine⟨y4,s4,rfl,((g1.trans g2).trans A3.grew).trans g4,?_⟩
       rw[hab]
       simpa [typTs] using h4
     |false=>
       cases hm:decide (t.name=[42]) with
       |true=>
         obtain⟨y1,s1,e1,A1⟩:=Q0j [42] _ (typTs t.args 2) p1 x1 (by omega) s
         have hj:=QR [42] (typTs t.args 2) true
         obtain⟨y2,s2,e2,g2,h2⟩:=Qct (s:=s1) A1.slot (by omega) lv 1
         rw[q2] at e1
         simp only[go_sem,Nat.reduceAdd,Nat.reduceLeDiff,c,hk,hn,hm,e1,e2]
         exact⟨y2,s2,rfl,A1.grew.trans g2,h2⟩
       |false=>
         cases h0:decide (t.args.length=0) with
         |true=>
           have h0':decide ((t.args.length:Int)=0)=true:=by simpa using h0
           simp only[go_sem,Nat.reduceAdd,Nat.reduceLeDiff,c,hk,hn,hm,h0',Qp]
           exact⟨_,s,rfl,.refl s,(Qm [t.name]).slot⟩
         |false=>
           have h0':decide ((t.args.length:Int)=0)=false:=by simpa using h0
           cases h1:decide (t.args.length=1) with
           |true=>
             have h1':decide ((t.args.length:Int)=1)=true:=by simp at h1 |-;omega
             obtain⟨a,ha⟩:∃ a,t.args=[a]:=by
              simp only[decide_eq_true_eq] at h1
              match hq:t.args,h1 with
              |[a],_=>exact⟨a,rfl⟩
             have f0:=Q6F t (i:=0) (t:=a) (by rw[ha];rfl)
             obtain⟨y1,s1,e1,g1,k1⟩:=kids a (by rw[ha];simp) 2 s
             obtain⟨v1,av1,hv1⟩:=k1.av
             have la:=Q1i a 2
             have hz:a.size+1=t.size:=by rw[<-hsz,ha];simp only[Ty.sizes,Nat.add_zero]
             obtain⟨y3,s3,e3,A3⟩:=QfJ hv1 (Qm [t.name]) (by simp only[Yl];omega) s1
             have bs1:bslS 1 [y1,.val (.sl [.str t.name])]=some [v1,.sl [.str t.name]]:=by
              rw[hv1.bslx av1];rfl
             rw[show ((0:Nat):Int)=0 from rfl] at f0
             simp only[Yh,Yo] at e3
             simp only[go_sem,Nat.reduceAdd,Nat.reduceLeDiff,c,hk,hn,hm,h0',h1',f0,e1,Qp,bs1,e3]
             refine⟨y3,s3,rfl,g1.trans A3.grew,?_⟩
             have:=A3.slot
             rw[ha]
             simpa [typTs] using this
           |false=>
             have h1':decide ((t.args.length:Int)=1)=false:=by simp at h1 |-;omega
             obtain⟨y1,s1,e1,A1⟩:=Q0j [44] _ (typTs t.args 0) p2 x2 (by omega) s
             obtain⟨v1,av1,hv1⟩:=A1.strs
             have hj:=QR [44] (typTs t.args 0) true
             obtain⟨y2,s2,e2,A2⟩:=Q8q hv1 (by omega) s1
             obtain⟨v2,av2,hv2⟩:=A2.strs
             obtain⟨y3,s3,e3,A3⟩:=QfJ hv2 (Qm [t.name]) (by simp only[Yb,Ya,Ye];omega) s2
             have bs1:bslS 1 [y2,.val (.sl [.str t.name])]=some [v2,.sl [.str t.name]]:=by
              rw[hv2.bslx av2];rfl
             rw[q0] at e1
             simp only[Yh,Yo] at e3
             simp only[go_sem,Nat.reduceAdd,Nat.reduceLeDiff,c,hk,hn,hm,h0',h1',e1,QW av1,e2,Qp,bs1,e3]
             exact⟨y3,s3,rfl,(A1.grew.trans A2.grew).trans A3.grew,by simpa using A3.slot⟩
open Go Go.Am
theorem QbR(n:Int)(c:Bool)(s:St):cw (.f Q6c) [.int .u8 n,.bool c] s=some (.ret (.val (.bool (letterR n c))),s):=by
 rw[QdT];cases c<;>simp only[go_sem]<;>rfl
theorem QdU(n:Int)(s:St):cw (.f Q81) [.int .u8 n] s=some (.ret (.val (.bool (restR n))),s):=by
 rw[QgR];simp only[go_sem];rfl
theorem Q4B(n a b:Int)(s:St):cw (.f Q1t) [.int .i64 n,.int .i64 a,.int .i64 b] s=some (.ret (.val (.bool (isR n a b))),s):=by
 rw[QjH];simp only[go_sem];rfl
theorem QbS(l:Str)(pre:Str):∀ (suf:Str) (s:St),pre++suf=l->l.length<2^62->Q0v (.val (.str l)) (.val (.int .i64 pre.length)) s=some (.ret (.val (.bool (suf.all λc=>restR c.toNat))),s):=by
 intro suf
 induction suf generalizing pre with
 |nil=>
   intro s h hl
   rw[Yr] at h
   subst h
   rw[Q6V];simp only[Qhm,Qhk,Q9T Qk,Q7N,Q9F,Q7O]
   rw[QeM (by simp)]
   rfl
 |cons c suf ih=>
   intro s h hl
   have hc:l[pre.length]? = some c:=by rw[<-h];simp
   have hlt:pre.length<l.length:=by rw[<-h];simp
   have:=ih (pre++[c]) s (by simp[h]) hl
   rw[Q6V]
   simp only[Qhm,Qhk,Q9T Qk,Q7N,Q9F,Q7O]
   rw[QeN (by simpa using hlt),Zb Qk hc]
   simp only[go_sem,QdU]
   rw[wrap64 (by omega) (by omega)]
   have e:(pre.length:Int)+1=((pre++[c]).length:Int):=by simp
   rw[e,this]
   simp only[go_sem,List.all_cons]
   cases restR c.toNat<;>rfl
theorem Q7u(l:Str)(c:Bool)(s:St)(hl:l.length<2^62):cw (.f Q20) [.str l,.bool c] s=some (.ret (.val (.bool (shapedR l c))),s):=by
 rw[QdV]
 cases l with
 |nil=>simp only[go_sem];rfl
 |cons x l=>
   have h:=QbS (x::l) [x] l s rfl hl
   simp only[go_sem,Yl] at h
   simp only[go_sem,QbR,Q0R Qk (List.cons_ne_nil x l)]
   have h':Q0v (.val (.str (x::l))) (.val (.int .i64 1)) s=some (.ret (.val (.bool (l.all λc=>restR c.toNat))),s):=h
   rw[h']
   show ifR _ _ _=some (Out.ret (.val (.bool (!(decide (((l.length+1:Nat):Int)<1) || decide (((l.length+1:Nat):Int)>32) || !letterR (((x::l).headD 0).toNat:Int) c)&&(l.all λc=>restR c.toNat)))),s)
   generalize (decide (((l.length+1:Nat):Int)<1) || decide (((l.length+1:Nat):Int)>32) || !letterR (((x::l).headD 0).toNat:Int) c)=b
   cases b<;>rfl
theorem QcV(s:St):cw (.f Q7b) [] s=some (.ret (.full (wordsR.map .str)),s):=by
 rw[Qf9];simp only[go_sem,Nat.reduceAdd];rfl
theorem QcW(x:Str)(l:List Str)(pre:List Str):∀ (suf:List Str) (y:Slot) (s:St),y.list? = some (l.map .str)->pre++suf=l->l.length<2^62->Q2l (.val (.str x)) y (.val (.int .i64 pre.length)) s=some (.ret (.val (.bool (amongR x suf))),s):=by
 intro suf
 induction suf generalizing pre with
 |nil=>
   intro y s hy h hl
   rw[Yr] at h
   subst h
   rw[Q7p];simp only[go_sem,hy]
   rw[QeM (by simp)]
   rfl
 |cons c suf ih=>
   intro y s hy h hl
   have hc:(l.map AV.str)[pre.length]? = some (.str c):=by rw[<-h];simp
   have hlt:pre.length<l.length:=by rw[<-h];simp
   have:=ih (pre++[c]) y s hy (by simp[h]) hl
   rw[Q7p]
   simp only[go_sem,hy]
   rw[QeN (by simpa using hlt),Q0X (sz:=1) hy hc rfl (by decide)]
   simp only[go_sem,Nat.reduceAdd,Nat.reduceLeDiff]
   rw[wrap64 (by omega) (by omega)]
   have e:(pre.length:Int)+1=((pre++[c]).length:Int):=by simp
   rw[e,this]
   simp only[go_sem,amongR,List.any_cons]
   cases decide (c=x)<;>rfl
theorem QcX(x:Str)(l:List Str)(s:St)(hl:l.length<2^62)(nl:Bool):cw (.f Q4u) [.str x,encS nl (l.map .str)] s=some (.ret (.val (.bool (amongR x l))),s):=by
 rw[Qfa]
 exact QcW x l [] l _ s (by simp only[go_sem]) rfl hl
theorem Q2e(l:Str)(s:St)(hl:l.length<2^62):cw (.f Q1L) [.str l] s=some (.ret (.val (.bool (lowR l))),s):=by
 rw[Qiy]
 have h:=λs=>QcX l wordsR s (by decide) false
 rw[Q5A] at h
 simp only[go_sem,Q7u l _ _ hl,QcV,h]
 rfl
theorem Q6Q(l:Str)(s:St)(hl:l.length<2^62):cw (.f Q3e) [.str l] s=some (.ret (.val (.bool (capR l))),s):=by
 rw[QcS]
 simp only[go_sem,Q7u l _ _ hl]
 rfl
theorem Q9o(l:Str)(s:St)(hl:l.length<2^62):cw (.f Q6y) [.str l] s=some (.ret (.val (.bool (conR l))),s):=by
 rw[Qix]
 simp only[go_sem,Q6Q l _ hl]
 rfl
theorem QdI(n:Int)(s:St):cw (.f Q5c) [.int .i64 n] s=some (.ret (.val (.int .i64 (bif decide (n.tmod 2147483648<0) then (bif decide (n.tmod 2147483648+2147483648≥1073741824) then n.tmod 2147483648 else n.tmod 2147483648+2147483648) else (bif decide (n.tmod 2147483648≥1073741824) then n.tmod 2147483648 - 2147483648 else n.tmod 2147483648)))),s):=by
 rw[QgI]
 have h1:-2147483648<n.tmod 2147483648:=Int.lt_tmod_of_pos n (by decide)
 have h2:n.tmod 2147483648<2147483648:=Int.tmod_lt_of_pos n (by decide)
 simp only[go_sem,Int.reduceEq,ne_eq,not_false_eq_true,QcL]
 generalize n.tmod 2147483648=m at *
 by_cases h:m<0
 ·simp only[go_sem,decide_eq_true h]
  rw[wrap64 (n:=m+2147483648) (by omega) (by omega),wrap64 (by omega) (by omega)]
  congr;omega
 ·simp only[go_sem,decide_eq_false h]
  rw[wrap64 (n:=m - 2147483648) (by omega) (by omega)]
end Go.Proofs.YtgfhplcmcdimiaaGreatDoor
namespace Go.Am
open Go
theorem Qhz(sub:List UInt8):Go.Lib.contains [] sub=sub.isEmpty:=by
 unfold Go.Lib.contains Go.Lib.index
 cases sub.isEmpty<;>rfl
theorem Q7e(c:UInt8)(s sub:List UInt8):Go.Lib.contains (c::s) sub=(sub.isPrefixOf (c::s) || Go.Lib.contains s sub):=by
 have h:=Go.Lib.index_ge s sub
 unfold Go.Lib.contains
 rw[Go.Lib.index]
 cases sub.isPrefixOf (c::s) with
 |true=>rfl
 |false=>
   simp only[Bool.false_eq_true,if_false,Yt]
   by_cases h1:Go.Lib.index s sub = -1
   ·rw[h1];rfl
   ·have h2:(Go.Lib.index s sub == -1)=false:=by simpa using h1
    rw[h2]
    simp only[Bool.false_eq_true,if_false]
    congr 1
    rw[eq_iff_iff]
    omega
theorem Qgk:∀ (w T x:List UInt8),(∀ c ∈ w,c≠32)->Go.Lib.contains (w++T) (32::x)=Go.Lib.contains T (32::x)
 |[],_,_,_=>rfl
 |c::w,T,x,h=>by
   have hc:((32:UInt8) == c)=false:=by have:=h c (by simp);rw[beq_eq_false_iff_ne];exact λe=>this e.symm
   rw[Yk,Q7e,List.isPrefixOf,hc,Bool.false_and,Yt]
   exact Qgk w T x λd hd=>h d (Yc _ hd)
theorem Qcm:∀ (l w T:List UInt8),(∀ c ∈ l,c≠32)->(∀ c ∈ w,c≠32)->(l++[32]).isPrefixOf (w++32::T)=decide (l=w)
 |[],[],T,_,_=>by simp[List.isPrefixOf]
 |[],c::w,T,_,h=>by
   have hc:((32:UInt8) == c)=false:=by have:=h c (by simp);rw[beq_eq_false_iff_ne];exact λe=>this e.symm
   simp[List.isPrefixOf,hc]
 |a::l,[],T,h,_=>by
   have hc:(a == (32:UInt8))=false:=by have:=h a (by simp);rw[beq_eq_false_iff_ne];exact this
   simp[List.isPrefixOf,hc]
 |a::l,c::w,T,h,g=>by
   have ih:=Qcm l w T (λd hd=>h d (Yc _ hd)) (λd hd=>g d (Yc _ hd))
   rw[Yk,Yk,List.isPrefixOf,ih]
   by_cases hac:a=c
   ·subst hac;simp
   ·have:(a == c)=false:=by rw[beq_eq_false_iff_ne];exact hac
    simp[this,hac]
theorem QkF(l:Str)(hl:∀ c ∈ l,c≠32):∀ ws:List Str,(∀ w ∈ ws,∀ c ∈ w,c≠32)->Go.Lib.contains (32::(ws.flatMap λw=>w++[32])) (32::(l++[32]))=ws.any λw=>decide (l=w)
 |[],_=>by
   rw[List.flatMap_nil,Q7e,Qhz]
   cases l<;>simp[List.isPrefixOf]
 |w::ws,h=>by
   have hw:=h w (by simp)
   have e:(w::ws).flatMap (λw=>w++[32])=w++32::(ws.flatMap λw=>w++[32]):=by simp
   rw[e,Q7e,List.isPrefixOf,beq_self_eq_true,Bool.true_and,Qcm l w _ hl hw,Qgk w _ _ hw,QkF l hl ws λv hv=>h v (Yc _ hv),List.any_cons]
def wordsAll:List Str:=wordsR++[[116,114,117,101],[102,97,108,115,101],[95]]
theorem Qoa:wordsS=32::(wordsAll.flatMap λw=>w++[32]):=by decide +kernel
theorem QjX:∀ w ∈ wordsAll,∀ c ∈ w,c≠32:=by decide +kernel
theorem Qpk(n:Int):restR n = !unrestB n:=by
 simp only[restR,unrestB,smallB,greatB]
 by_cases h1:n≥97<;>by_cases h2:n<=122<;>by_cases h3:n=95<;>by_cases h4:n≥65<;>by_cases h5:n<=90<;>by_cases h6:n<48<;>by_cases h7:n>57<;>by_cases h8:n=39<;>simp[h1,h2,h3,h4,h5,h6,h7,h8]<;>omega
theorem Qbe(l:Str)(cap:Bool):shapedR l cap=(!decide (l=[])&&letterR (headB l) cap&&runB l):=by
 have e:((l.drop 1).all λc=>restR c.toNat)=restAll (l.drop 1):=by
  unfold restAll
  congr 1
  funext c
  exact Qpk _
 unfold shapedR runB
 rw[e]
 have e1:decide ((l.length:Int)<1)=decide (l=[]):=by cases l<;>simp;omega
 have e2:decide ((l.length:Int)>32) = !decide (l.length<=32):=by
  by_cases h:l.length<=32
  ·rw[decide_eq_true h,decide_eq_false (by omega)];rfl
  ·rw[decide_eq_false h,decide_eq_true (by omega)];rfl
 rw[e1,e2]
 cases decide (l=[])<;>cases decide (l.length<=32)<;>cases letterR (headB l) cap<;>cases restAll (l.drop 1)<;>rfl
theorem QlM(l:Str):capR l=capB l:=Qbe l true
theorem QlO(l:Str):conR l=conB l:=by unfold conR conB;rw[QlM]
theorem QnB(l:Str)(h:shapedR l false=true):∀ c ∈ l,c≠32:=by
 rw[Qbe] at h
 simp only[Yf] at h
 obtain⟨⟨h0,h1⟩,h2⟩:=h
 cases l with
 |nil=>intro c hc;cases hc
 |cons a l=>
   intro c hc e
   subst e
   rcases List.mem_cons.1 hc with rfl|hc
   ·change letterR 32 false=true at h1
    revert h1;decide
   ·simp only[runB,Yf,restAll,List.drop_one,List.tail_cons,List.all_eq_true] at h2
    have:=h2.1 32 hc
    revert this;decide
theorem QaZ(l:Str):lowR l=lowB l:=by
 unfold lowR
 have e:lowB l=(shapedR l false && !Go.Lib.contains wordsS (32::(l++[32]))):=by rw[Qbe];rfl
 rw[e]
 cases hs:shapedR l false with
 |false=>rfl
 |true=>
   rw[Qoa,QkF l (QnB l hs) wordsAll QjX]
   unfold wordsAll amongR
   rw[List.any_append]
   have e3:(wordsR.any λw=>decide (w=l))=wordsR.any λw=>decide (l=w):=by congr 1;funext w;congr 1;rw[eq_iff_iff];exact eq_comm
   rw[e3]
   simp only[List.any_cons,List.any_nil]
   cases (wordsR.any λw=>decide (l=w))<;>cases decide (l=[95])<;>cases decide (l=[116,114,117,101])<;>cases decide (l=[102,97,108,115,101])<;>rfl
theorem Qpa:lowB [105,110,116]=true:=by decide +kernel
theorem Qnv:lowB [98,111,111,108]=true:=by decide +kernel
theorem Qnw:lowB [117,110,105,116]=true:=by decide +kernel
theorem Qp9:lowB [101,120,110]=true:=by decide +kernel
end Go.Am
namespace Go.Proofs.YtgfhplcmcdimiaaGreatDoor
open Go Go.Am
set_option maxRecDepth 4000
theorem Q8l(n:Int)(s:St)(h:-9223372036854775808<=n)(h':n<=9223372036854775807):cw (.f Q4w) [.int .i64 n] s=some (.ret (.val (.bool (isIntB n))),s):=by
 rw[Qfg]
 have h1:-2147483648<n.tmod 2147483648:=Int.lt_tmod_of_pos n (by decide)
 have h2:n.tmod 2147483648<2147483648:=Int.tmod_lt_of_pos n (by decide)
 have h3:n=2147483648*n.tdiv 2147483648+n.tmod 2147483648:=(Int.mul_tdiv_add_tmod n 2147483648).symm
 have h4:0<=n->0<=n.tmod 2147483648:=λh=>Int.tmod_nonneg _ h
 have h5:n<=0->n.tmod 2147483648<=0:=λh=>by have:=Int.tmod_nonneg (2147483648) (show 0<=-n by omega);rw[Int.neg_tmod] at this;omega
 simp only[go_sem,QdI]
 generalize n.tmod 2147483648=m at *
 generalize n.tdiv 2147483648=d at *
 refine congrArg (λb=>some (Out.ret (Slot.val (AV.bool b)),s)) ?_
 rw[Bool.eq_iff_iff]
 simp only[isIntB,Yf,decide_eq_true_eq,Bool.cond_decide]
 split<;>split<;>omega
theorem Qfe(e:Exp)(s:St)(hn:e.name.length<2^62)(hl:e.kids.length<2^40)(h:-9223372036854775808<=e.n)(h':e.n<=9223372036854775807):cw (.f Q8Y) [e.enc] s=some (.ret (.val (.int .i64 (wrongExpB e))),s):=by
 obtain⟨k,a,nm,n,l,lb,c,cb,d,db⟩:=e
 rw[QiA]
 have hl':l.length<2^40:=hl
 have hi:=λs=>Q8l n s h h'
 have hk:k=1\/k=2\/k=3\/k=4\/k=5\/k=6\/k=7\/k=8\/k=9\/k=10\/k=11\/k=12\/k=13\/k=14\/k=15\/k=16\/k=17\/k=18\/k=19\/k=20\/(k<1\/k>20):=by omega
 rcases hk with rfl|rfl|rfl|rfl|rfl|rfl|rfl|rfl|rfl|rfl|rfl|rfl|rfl|rfl|rfl|rfl|rfl|rfl|rfl|rfl|hk
 rotate_left 20
 ·have h:(decide (k<1) || decide (k>20))=true:=by simpa using hk
  have e:wrongExpB (Exp.mk k a nm n l lb c cb d db)=29:=by
   show (bif (decide (k<1) || decide (k>20) || _ || _ || _ || _ || _) then (29:Int) else _)=29
   rw[h];rfl
  simp only[go_sem,Nat.reduceAdd,Nat.reduceLeDiff,h,e]
 all_goals
  simp only[go_sem,Int.reduceEq,Int.reduceGT,Int.reduceLT,Nat.reduceAdd,Nat.reduceLeDiff,QgQ,Qd0,Qd1,Q2e nm _ hn,Q9o nm _ hn,hi,Q4B,wrongExpB,expLM,Exp.kind,Exp.name,Exp.n,Exp.kids,Exp.cases,Exp.decs,QaZ,QlO,isR]
  try rfl
 all_goals grind
theorem Qfh(t:Pat)(s:St)(hn:t.name.length<2^62)(h:-9223372036854775808<=t.n)(h':t.n<=9223372036854775807):cw (.f Q8Z) [t.enc] s=some (.ret (.val (.int .i64 (wrongPatB t))),s):=by
 obtain⟨k,a,nm,n,l,nl⟩:=t
 rw[QiC]
 have hi:=λs=>Q8l n s h h'
 have hk:k=1\/k=2\/k=3\/k=4\/k=5\/k=6\/(k<1\/k>6):=by omega
 rcases hk with rfl|rfl|rfl|rfl|rfl|rfl|hk
 rotate_left 6
 ·have h:(decide (k<1) || decide (k>6))=true:=by simpa using hk
  have e:wrongPatB (Pat.mk k a nm n l nl)=29:=by
   show (bif (decide (k<1) || decide (k>6)) then (29:Int) else _)=29
   rw[h];rfl
  simp only[go_sem,Nat.reduceAdd,Nat.reduceLeDiff,h,e]
 all_goals
  simp only[go_sem,Int.reduceEq,Int.reduceGT,Int.reduceLT,Nat.reduceAdd,Nat.reduceLeDiff,Q2e nm _ hn,Q9o nm _ hn,hi,Q4B,wrongPatB,patLM,Pat.kind,Pat.name,Pat.n,Pat.kids,QaZ,QlO,isR]
  try rfl
 all_goals grind
def argsR(nm:Str):Int × Int:=
 bif decide (nm=[105,110,116]) || decide (nm=[98,111,111,108]) || decide (nm=[117,110,105,116]) || decide (nm=[101,120,110]) then (0,0) else bif decide (nm=[114,101,102]) then (1,1) else bif decide (nm=[45,62]) then (2,2) else bif decide (nm=[42]) then (2,8) else (0,8)
theorem QdP(nm:Str)(s:St):cw (.f Q5g) [.str nm] s=some (.ret (.val (.tup [.int .i64 (argsR nm).1,.int .i64 (argsR nm).2])),s):=by
 rw[QgO]
 simp only[go_sem,QcR]
 delta argsR
 generalize decide (nm=[105,110,116])=x1
 generalize decide (nm=[98,111,111,108])=x2
 generalize decide (nm=[117,110,105,116])=x3
 generalize decide (nm=[101,120,110])=x4
 generalize decide (nm=[114,101,102])=x5
 generalize decide (nm=[45,62])=x6
 generalize decide (nm=[42])=x7
 cases x1<;>cases x2<;>cases x3<;>cases x4<;>cases x5<;>cases x6<;>cases x7<;>rfl
theorem QbT(t:Ty)(s:St):cw (.f Q6d) [t.enc] s=some (.ret (.val (.bool (decide (t.kind=0)&&decide (t.n=0)&&decide (t.name=[])&&decide ((t.args.length:Int)=0)))),s):=by
 rw[QdW]
 simp only[go_sem,Nat.reduceAdd,Nat.reduceLeDiff,Ty.cells_eq]
theorem QgS(t:Ty)(s:St)(hn:t.name.length<2^62):cw (.f Q9D) [t.enc] s=some (.ret (.val (.int .i64 (wrongTyB t))),s):=by
 obtain⟨k,n,nm,l,nl⟩:=t
 rw[QjI]
 simp only[go_sem,Nat.reduceAdd,Nat.reduceLeDiff,QdP,Q2e nm _ hn,Q4B,QaZ]
 show _=some (Out.ret (.val (.int .i64 (wrongTyC k n nm l.length))),s)
 by_cases h1:nm=[105,110,116]
 ·subst h1;simp (decide:=true) only[wrongTyC,tyLM,argsR,isR,Qpa];grind
 by_cases h2:nm=[98,111,111,108]
 ·subst h2;simp (decide:=true) only[wrongTyC,tyLM,argsR,isR,Qnv];grind
 by_cases h3:nm=[117,110,105,116]
 ·subst h3;simp (decide:=true) only[wrongTyC,tyLM,argsR,isR,Qnw];grind
 by_cases h4:nm=[101,120,110]
 ·subst h4;simp (decide:=true) only[wrongTyC,tyLM,argsR,isR,Qp9];grind
 simp only[wrongTyC,tyLM,argsR,isR,h1,h2,h3,h4]
 grind
theorem Qfc(d:Dec)(inn:Bool)(s:St)(hn:d.name.length<2^62):cw (.f Q8X) [d.enc,.bool inn] s=some (.ret (.val (.int .i64 (wrongDecB d inn))),s):=by
 obtain⟨k,a,nm,p,l,nb,c,cb,f,fb⟩:=d
 rw[Qiz]
 simp only[go_sem,Nat.reduceAdd,Nat.reduceLeDiff,Q2e nm _ hn,Q4B,QaZ,isR]
 show _=some (Out.ret (.val (.int .i64 (wrongDecC k nm p l.length c.length f.length inn))),s)
 have hk:k=1\/k=2\/k=3\/k=4\/(k≠1/\k≠2/\k≠3/\k≠4):=by omega
 simp only[wrongDecC]
 rcases hk with rfl|rfl|rfl|rfl|⟨h1,h2,h3,h4⟩
 all_goals grind
open Go Go.Am
set_option maxRecDepth 4000
abbrev Nodes(r:Res)(s:St)(l:List TNode):Prop:=RetA r Qh s (l.map TNode.enc)
abbrev NAcc(s0 s:St)(x:Slot)(l:List TNode):Prop:=AccR Qh s0 s x (l.map TNode.enc)
theorem nacc{s0 s:St}{x y:Slot}{A B:List TNode}(h:NAcc s0 s x A)(hy:y.list? = some (B.map TNode.enc))(b:A.length+B.length<2^30):∃ x' s',appendS Qh (C.ti Qh) s x y=some (x',s')/\NAcc s0 s' x' (A++B):=
 AccR.appendF h hy (λa=>by rw[Q7h];exact TNode.cells_len a) (by rw[Q7h];decide) b (by rw[QaC];decide)
theorem Q8H(a:Int)(t:Ty)(hl:t.args.length<2^40)(s0:St):∀ (suf pre:List Ty) (A:List TNode) (x:Slot) (s:St) (i:Nat),NAcc s0 s x A->pre++suf=t.args->i=pre.length->(∀ t ∈ suf,∀ s,Nodes (cw (.f Q1Y) [t.enc,.int .i64 a] s) s (nodesTy a t))->A.length+Ty.sizes suf<2^30->
  Nodes (Q2S (.val (.int .i64 a)) (t.cells.map .val) x (.val (.int .i64 i)) s) s0 (A++nodesTys a suf)
 |[],pre,A,x,s,i,hx,h,hi,H,hb=>by
   subst hi
   rw[Q8i];simp only[go_sem,Nat.reduceAdd,Nat.reduceLeDiff,Ty.cells_eq,Qg (by simpa using h),nodesTys]
   exact RetA.mk hx
 |u::suf,pre,A,x,s,i,hx,h,hi,H,hb=>by
   subst hi
   obtain⟨f1,f2,f3⟩:=Qe (x:=.val (encS t.nl (t.args.map Ty.enc))) (Q4 _ _) h (by omega) (Ty.cells_len u) (by decide)
   obtain⟨y,s1,e1,g1⟩:=H u (Yd) s
   have hlen:=Q6C a u
   simp only[Ty.sizes] at hb
   obtain⟨x',s2,e2,g2⟩:=nacc (hx.move g1.grew) g1.list? (by omega)
   have:=Q8H a t hl s0 suf (pre++[u]) (A++nodesTy a u) x' s2 (pre.length+1) g2 (by simpa using h) (by simp) (λw hw=>H w (Yc _ hw)) (by rw[Yb];omega)
   rw[Q8i];rw[Ty.cells_eq] at this |-;simp only[go_sem,Nat.reduceAdd,Nat.reduceLeDiff,f1,f2,f3,e1,e2] at this |-
   simp only[nodesTys]
   exact this
theorem Q8I:∀ (m:Nat) (a:Int) (t:Ty) (s:St),t.size<=m->t.size<2^28->Nodes (cw (.f Q1Y) [t.enc,.int .i64 a] s) s (nodesTy a t)
 |0,a,.mk _ _ _ _ _,_,h,_=>by simp only[Ty.size] at h;omega
 |m+1,a,.mk k n nm l nl,s,h,h'=>by
   simp only[Ty.size] at h h'
   have hl:=Ty.len_sizes l
   have:=Q8H a (.mk k n nm l nl) (by simp only[Ty.args];omega) s l [] [.ty (.mk k n nm l nl) a] (.full [(TNode.ty (.mk k n nm l nl) a).enc]) s 0 (AccR.full _ _ _) rfl rfl (λu hu s=>by have:=Ty.mem_sizes hu;exact Q8I m a u s (by omega) (by omega)) (by simp only[Yl];omega)
   rw[QgP];simp only[go_sem,Nat.reduceAdd,Nat.reduceLeDiff,Ty.enc,TNode.cells,Dec.zero,Exp.zero,Pat.zero,Fun.zero,Case.zero,Con.zero,Ty.zero,Con.cells,TNode.enc,nodesTy] at this |-
   exact this
theorem Q8h(t:Pat)(hl:t.kids.length<2^40)(s0:St):∀ (suf pre:List Pat) (A:List TNode) (x:Slot) (s:St) (i:Nat),NAcc s0 s x A->pre++suf=t.kids->i=pre.length->(∀ t ∈ suf,∀ s,Nodes (cw (.f Q0z) [t.enc] s) s (nodesPat t))->A.length+Pat.sizes suf<2^30->
  Nodes (Q2k (t.cells.map .val) x (.val (.int .i64 i)) s) s0 (A++nodesPats suf)
 |[],pre,A,x,s,i,hx,h,hi,H,hb=>by
   subst hi
   rw[Q7o];simp only[go_sem,Nat.reduceAdd,Nat.reduceLeDiff,Pat.cells_eq,Qg (by simpa using h),nodesPats]
   exact RetA.mk hx
 |u::suf,pre,A,x,s,i,hx,h,hi,H,hb=>by
   subst hi
   obtain⟨f1,f2,f3⟩:=Qe (x:=.val (encS t.kb (t.kids.map Pat.enc))) (Q4 _ _) h (by omega) (Pat.cells_len u) (by decide)
   obtain⟨y,s1,e1,g1⟩:=H u (Yd) s
   have hlen:=Q2d u
   simp only[Pat.sizes] at hb
   obtain⟨x',s2,e2,g2⟩:=nacc (hx.move g1.grew) g1.list? (by omega)
   have:=Q8h t hl s0 suf (pre++[u]) (A++nodesPat u) x' s2 (pre.length+1) g2 (by simpa using h) (by simp) (λw hw=>H w (Yc _ hw)) (by rw[Yb];omega)
   rw[Q7o];rw[Pat.cells_eq] at this |-;simp only[go_sem,Nat.reduceAdd,Nat.reduceLeDiff,f1,f2,f3,e1,e2] at this |-
   simp only[nodesPats]
   exact this
theorem Q4P:∀ (m:Nat) (t:Pat) (s:St),t.size<=m->t.size<2^28->Nodes (cw (.f Q0z) [t.enc] s) s (nodesPat t)
 |0,.mk _ _ _ _ _ _,_,h,_=>by simp only[Pat.size] at h;omega
 |m+1,.mk k a nm n l nl,s,h,h'=>by
   simp only[Pat.size] at h h'
   have hl:=Pat.len_sizes l
   have:=Q8h (.mk k a nm n l nl) (by simp only[Pat.kids];omega) s l [] [.pat (.mk k a nm n l nl)] (.full [(TNode.pat (.mk k a nm n l nl)).enc]) s 0 (AccR.full _ _ _) rfl rfl (λu hu s=>by have:=Pat.mem_sizes hu;exact Q4P m u s (by omega) (by omega)) (by simp only[Yl];omega)
   rw[Qf8];simp only[go_sem,Nat.reduceAdd,Nat.reduceLeDiff,Pat.enc,TNode.cells,Dec.zero,Exp.zero,Pat.zero,Fun.zero,Case.zero,Con.zero,Ty.zero,Con.cells,TNode.enc,nodesPat,Pat.at_] at this |-
   exact this
def ofExpOK(t:Exp):Prop:=∀ s,Nodes (cw (.f ZJ) [t.enc] s) s (nodesExp t)
def ofCaseOK(t:Case):Prop:=∀ s,Nodes (cw (.f Q1X) [t.enc] s) s (nodesCase t)
def ofDecOK(t:Dec):Prop:=∀ inn s,Nodes (cw (.f Q1k) [t.enc,.bool inn] s) s (nodesDec inn t)
theorem QdR(p:Pat)(e:Exp)(h:ofExpOK e)(hs:(Case.mk p e).size<2^28):ofCaseOK (.mk p e):=λs=>by
 simp only[Case.size] at hs
 obtain⟨y,s1,e1,g1⟩:=Q4P _ p s (Yg _) (by omega)
 obtain⟨z,s2,e2,g2⟩:=h s1
 have h1:=Q2d p
 have h2:=Q2c e
 obtain⟨x',s3,e3,g3⟩:=nacc (g1.move g2.grew) g2.list? (by omega)
 rw[QdQ];simp only[go_sem,Nat.reduceAdd,Nat.reduceLeDiff,Nat.reduceSub,e1,e2,e3]
 simp only[nodesCase]
 exact RetA.mk g3
theorem Q60(t:Exp)(hl:t.cases.length<2^40)(s0:St):∀ (suf pre:List Case) (A:List TNode) (x:Slot) (s:St) (i:Nat),NAcc s0 s x A->pre++suf=t.cases->i=pre.length->(∀ t ∈ suf,ofCaseOK t)->A.length+Case.sizes suf<2^30->
  Nodes (Q2j (t.cells.map .val) x (.val (.int .i64 i)) s) s0 (A++nodesCases suf)
 |[],pre,A,x,s,i,hx,h,hi,H,hb=>by
   subst hi
   rw[Q7n];simp only[go_sem,Exp.cells_eq,Qg (by simpa using h),nodesCases]
   exact RetA.mk hx
 |u::suf,pre,A,x,s,i,hx,h,hi,H,hb=>by
   subst hi
   obtain⟨f1,f2,f3⟩:=Qe (x:=.val (encS t.cb (t.cases.map Case.enc))) (Q4 _ _) h (by omega) (Case.cells_len u) (by decide)
   obtain⟨y,s1,e1,g1⟩:=H u (Yd) s
   have hlen:=Q2N u
   simp only[Case.sizes] at hb
   obtain⟨x',s2,e2,g2⟩:=nacc (hx.move g1.grew) g1.list? (by omega)
   have:=Q60 t hl s0 suf (pre++[u]) (A++nodesCase u) x' s2 (pre.length+1) g2 (by simpa using h) (by simp) (λw hw=>H w (Yc _ hw)) (by rw[Yb];omega)
   rw[Q7n];rw[Exp.cells_eq] at this |-;simp only[go_sem,Nat.reduceLeDiff,f1,f2,f3,e1,e2] at this |-
   simp only[nodesCases]
   exact this
theorem Q5Z(t:Exp)(hl:t.kids.length<2^40)(hl2:t.cases.length<2^40)(Hc:∀ c ∈ t.cases,ofCaseOK c)(s0:St):∀ (suf pre:List Exp) (A:List TNode) (x:Slot) (s:St) (i:Nat),NAcc s0 s x A->pre++suf=t.kids->i=pre.length->(∀ t ∈ suf,ofExpOK t)->A.length+Exp.sizes suf+Case.sizes t.cases<2^30->
  Nodes (Q2i (t.cells.map .val) x (.val (.int .i64 i)) s) s0 (A++(nodesExps suf++nodesCases t.cases))
 |[],pre,A,x,s,i,hx,h,hi,H,hb=>by
   subst hi
   have:=Q60 t hl2 s0 t.cases [] A x s 0 hx rfl rfl Hc (by omega)
   rw[Q7m];rw[Exp.cells_eq] at this |-;simp only[go_sem,Qg (by simpa using h),nodesExps] at this |-
   exact this
 |u::suf,pre,A,x,s,i,hx,h,hi,H,hb=>by
   subst hi
   obtain⟨f1,f2,f3⟩:=Qe (x:=.val (encS t.kb (t.kids.map Exp.enc))) (Q4 _ _) h (by omega) (Exp.cells_len u) (by decide)
   obtain⟨y,s1,e1,g1⟩:=H u (Yd) s
   have hlen:=Q2c u
   simp only[Exp.sizes] at hb
   obtain⟨x',s2,e2,g2⟩:=nacc (hx.move g1.grew) g1.list? (by omega)
   have:=Q5Z t hl hl2 Hc s0 suf (pre++[u]) (A++nodesExp u) x' s2 (pre.length+1) g2 (by simpa using h) (by simp) (λw hw=>H w (Yc _ hw)) (by rw[Yb];omega)
   rw[Q7m];rw[Exp.cells_eq] at this |-;simp only[go_sem,Nat.reduceLeDiff,f1,f2,f3,e1,e2] at this |-
   simp only[go_sem,nodesExps]
   exact this
theorem Q5Y(t:Exp)(hl0:t.decs.length<2^40)(hl:t.kids.length<2^40)(hl2:t.cases.length<2^40)(He:∀ c ∈ t.kids,ofExpOK c)(Hc:∀ c ∈ t.cases,ofCaseOK c)(s0:St):∀ (suf pre:List Dec) (A:List TNode) (x:Slot) (s:St) (i:Nat),NAcc s0 s x A->pre++suf=t.decs->i=pre.length->(∀ t ∈ suf,ofDecOK t)->A.length+Dec.sizes suf+Exp.sizes t.kids+Case.sizes t.cases<2^30->
  Nodes (Q2h (t.cells.map .val) x (.val (.int .i64 i)) s) s0 (A++(nodesDecs true suf++(nodesExps t.kids++nodesCases t.cases)))
 |[],pre,A,x,s,i,hx,h,hi,H,hb=>by
   subst hi
   have:=Q5Z t hl hl2 Hc s0 t.kids [] A x s 0 hx rfl rfl He (by omega)
   rw[Q7l];rw[Exp.cells_eq] at this |-;simp only[go_sem,Nat.reduceAdd,Nat.reduceLeDiff,Qg (by simpa using h),nodesDecs] at this |-
   exact this
 |u::suf,pre,A,x,s,i,hx,h,hi,H,hb=>by
   subst hi
   obtain⟨f1,f2,f3⟩:=Qe (x:=.val (encS t.db (t.decs.map Dec.enc))) (Q4 _ _) h (by omega) (Dec.cells_len u) (by decide)
   obtain⟨y,s1,e1,g1⟩:=H u (Yd) true s
   have hlen:=Qb2 true u
   simp only[Dec.sizes] at hb
   obtain⟨x',s2,e2,g2⟩:=nacc (hx.move g1.grew) g1.list? (by omega)
   have:=Q5Y t hl0 hl hl2 He Hc s0 suf (pre++[u]) (A++nodesDec true u) x' s2 (pre.length+1) g2 (by simpa using h) (by simp) (λw hw=>H w (Yc _ hw)) (by rw[Yb];omega)
   rw[Q7l];rw[Exp.cells_eq] at this |-;simp only[go_sem,Nat.reduceAdd,Nat.reduceLeDiff,f1,f2,f3,e1,e2] at this |-
   simp only[go_sem,nodesDecs]
   exact this
theorem Q3b(t:Dec)(hl:t.cons.length<2^40)(s0:St):∀ (suf pre:List Con) (A:List TNode) (x:Slot) (s:St) (i:Nat),NAcc s0 s x A->pre++suf=t.cons->i=pre.length->A.length+Con.sizes suf<2^28->
  Nodes (Q0Y (t.cells.map .val) x (.val (.int .i64 i)) s) s0 (A++nodesCons suf)
 |[],pre,A,x,s,i,hx,h,hi,hb=>by
   subst hi
   rw[Q41];simp only[go_sem,Nat.reduceAdd,Nat.reduceLeDiff,Dec.cells_eq,Qg (by simpa using h),nodesCons]
   exact RetA.mk hx
 |.mk nm a hs arg::suf,pre,A,x,s,i,hx,h,hi,hb=>by
   subst hi
   obtain⟨f1,f2,f3⟩:=Qe (x:=.val (encS t.nb (t.cons.map Con.enc))) (Q4 _ _) h (by omega) (Con.cells_len ⟨nm,a,hs,arg⟩) (by decide)
   have hlen:=Q6C a arg
   simp only[Con.sizes,Con.size] at hb
   obtain⟨x',s2,e2,g2⟩:=nacc (B:=[.con ⟨nm,a,hs,arg⟩]) (y:=.full [(TNode.con ⟨nm,a,hs,arg⟩).enc]) hx rfl (by simp only[Yl];omega)
   cases hs with
   |false=>
     have:=Q3b t hl s0 suf (pre++[⟨nm,a,false,arg⟩]) (A++[.con ⟨nm,a,false,arg⟩]) x' s2 (pre.length+1) g2 (by simpa using h) (by simp) (by simp only[Yb,Yl];omega)
     rw[Q41];rw[Dec.cells_eq] at this |-;simp only[go_sem,Nat.reduceAdd,Nat.reduceLeDiff,f1,f2,f3,TNode.cells,Dec.zero,Exp.zero,Pat.zero,Fun.zero,Case.zero,Con.zero,Ty.zero,Con.cells,TNode.enc] at e2 this |-
     simp only[go_sem,e2,nodesCons,nodesCon]
     exact this
   |true=>
     obtain⟨y,s1,e1,g1⟩:=Q8I _ a arg s2 (Yg _) (by omega)
     obtain⟨x3,s3,e3,g3⟩:=nacc (g2.move g1.grew) g1.list? (by simp only[Yb,Yl];omega)
     have:=Q3b t hl s0 suf (pre++[⟨nm,a,true,arg⟩]) (A++[.con ⟨nm,a,true,arg⟩]++nodesTy a arg) x3 s3 (pre.length+1) g3 (by simpa using h) (by simp) (by simp only[Yb,Yl];omega)
     rw[Q41];rw[Dec.cells_eq] at this |-;simp only[go_sem,Nat.reduceAdd,Nat.reduceLeDiff,f1,f2,f3,TNode.cells,Dec.zero,Exp.zero,Pat.zero,Fun.zero,Case.zero,Con.zero,Ty.zero,Con.cells,TNode.enc] at e2 this |-
     simp only[go_sem,e2,e1,e3,nodesCons,nodesCon]
     exact this
theorem Q5X(t:Dec)(hl:t.funs.length<2^40)(hl2:t.cons.length<2^40)(s0:St):∀ (suf pre:List Fun) (A:List TNode) (x:Slot) (s:St) (i:Nat),NAcc s0 s x A->pre++suf=t.funs->i=pre.length->(∀ f ∈ suf,ofCaseOK f.case)->A.length+Fun.sizes suf+Con.sizes t.cons<2^28->
  Nodes (Q2g (t.cells.map .val) x (.val (.int .i64 i)) s) s0 (A++(nodesFuns suf++nodesCons t.cons))
 |[],pre,A,x,s,i,hx,h,hi,H,hb=>by
   subst hi
   have:=Q3b t hl2 s0 t.cons [] A x s 0 hx rfl rfl (by omega)
   rw[Q7k];rw[Dec.cells_eq] at this |-;simp only[go_sem,Nat.reduceAdd,Nat.reduceLeDiff,Qg (by simpa using h),nodesFuns] at this |-
   exact this
 |.mk nm a c::suf,pre,A,x,s,i,hx,h,hi,H,hb=>by
   subst hi
   obtain⟨f1,f2,f3⟩:=Qe (x:=.val (encS t.fb (t.funs.map Fun.enc))) (Q4 _ _) h (by omega) (Fun.cells_len (.mk nm a c)) (by decide)
   have hlen:=Q2N c
   simp only[Fun.sizes,Fun.size] at hb
   obtain⟨x',s2,e2,g2⟩:=nacc (B:=[.fn (.mk nm a c)]) (y:=.full [(TNode.fn (.mk nm a c)).enc]) hx rfl (by simp only[Yl];omega)
   obtain⟨y,s1,e1,g1⟩:=H (.mk nm a c) (Yd) s2
   simp only[Fun.case] at e1 g1
   obtain⟨x3,s3,e3,g3⟩:=nacc (g2.move g1.grew) g1.list? (by simp only[Yb,Yl];omega)
   have:=Q5X t hl hl2 s0 suf (pre++[.mk nm a c]) (A++[.fn (.mk nm a c)]++nodesCase c) x3 s3 (pre.length+1) g3 (by simpa using h) (by simp) (λw hw=>H w (Yc _ hw)) (by simp only[Yb,Yl];omega)
   rw[Q7k];rw[Dec.cells_eq] at this |-;simp only[go_sem,Nat.reduceAdd,Nat.reduceLeDiff,f1,f2,f3,TNode.cells,Dec.zero,Exp.zero,Pat.zero,Fun.zero,Case.zero,Con.zero,Ty.zero,Con.cells,TNode.enc,Fun.at_] at e2 this |-
   simp only[go_sem,e2,e1,e3,nodesFuns,nodesFun]
   exact this
theorem Q5W(t:Dec)(hl0:t.case.length<2^40)(hl:t.funs.length<2^40)(hl2:t.cons.length<2^40)(Hf:∀ f ∈ t.funs,ofCaseOK f.case)(s0:St):∀ (suf pre:List Case) (A:List TNode) (x:Slot) (s:St) (i:Nat),NAcc s0 s x A->pre++suf=t.case->i=pre.length->(∀ f ∈ suf,ofCaseOK f)->A.length+Case.sizes suf+Fun.sizes t.funs+Con.sizes t.cons<2^28->
  Nodes (Q2f (t.cells.map .val) x (.val (.int .i64 i)) s) s0 (A++(nodesCases suf++(nodesFuns t.funs++nodesCons t.cons)))
 |[],pre,A,x,s,i,hx,h,hi,H,hb=>by
   subst hi
   have:=Q5X t hl hl2 s0 t.funs [] A x s 0 hx rfl rfl Hf (by omega)
   rw[Q7j];rw[Dec.cells_eq] at this |-;simp only[go_sem,Qg (by simpa using h),nodesCases] at this |-
   exact this
 |u::suf,pre,A,x,s,i,hx,h,hi,H,hb=>by
   subst hi
   obtain⟨f1,f2,f3⟩:=Qe (x:=.val (encS t.cb (t.case.map Case.enc))) (Q4 _ _) h (by omega) (Case.cells_len u) (by decide)
   obtain⟨y,s1,e1,g1⟩:=H u (Yd) s
   have hlen:=Q2N u
   simp only[Case.sizes] at hb
   obtain⟨x',s2,e2,g2⟩:=nacc (hx.move g1.grew) g1.list? (by omega)
   have:=Q5W t hl0 hl hl2 Hf s0 suf (pre++[u]) (A++nodesCase u) x' s2 (pre.length+1) g2 (by simpa using h) (by simp) (λw hw=>H w (Yc _ hw)) (by rw[Yb];omega)
   rw[Q7j];rw[Dec.cells_eq] at this |-;simp only[go_sem,Nat.reduceLeDiff,f1,f2,f3,e1,e2] at this |-
   simp only[go_sem,nodesCases]
   exact this
theorem QiB:∀ m:Nat,(∀ e:Exp,e.size<=m->e.size<2^26->ofExpOK e)/\(∀ l:Dec,l.size<=m->l.size<2^26->ofDecOK l):=by
 intro m
 induction m with
 |zero=>
   refine⟨λe h _=>?_,λl h _=>?_⟩
   ·obtain⟨k,a,nm,n,l,lb,c,cb,d,db⟩:=e
    simp only[Exp.size] at h;omega
   ·obtain⟨k,a,nm,p,l,nb,c,cb,f,fb⟩:=l;simp only[Dec.size] at h;omega
 |succ m ih=>
   obtain⟨ihE,ihD⟩:=ih
   have hcase1:∀ t:Case,t.size<=m+1->t.size<2^26->ofCaseOK t:=λt h h'=>by
    obtain⟨p,e⟩:=t
    exact QdR p e (ihE e (by simp only[Case.size] at h;omega) (by simp only[Case.size] at h';omega)) (by omega)
   have hcase:∀ (c:List Case),Case.sizes c<=m+1->Case.sizes c<2^26->∀ t ∈ c,ofCaseOK t:=λc h h' t ht=>by
    have:=Case.mem_sizes ht
    exact hcase1 t (by omega) (by omega)
   refine⟨λe h h' s=>?_,λd h h' inn s=>?_⟩
   ·obtain⟨k,a,nm,n,l,lb,c,cb,d,db⟩:=e
    simp only[Exp.size] at h h'
    have hl:=Exp.len_sizes l
    have hl2:=Case.len_sizes c
    have hl3:=Dec.len_sizes d
    have:=Q5Y (.mk k a nm n l lb c cb d db) (by simp only[Exp.decs];omega) (by simp only[Exp.kids];omega) (by simp only[Exp.cases];omega) (λt ht=>by have:=Exp.mem_sizes ht;simp only[Exp.kids] at this;exact ihE t (by omega) (by omega)) (hcase c (by omega) (by omega)) s d [] [.exp (.mk k a nm n l lb c cb d db)] (.full [(TNode.exp (.mk k a nm n l lb c cb d db)).enc]) s 0 (AccR.full _ _ _) rfl rfl (λt ht=>ihD t (by have:=Dec.mem_sizes ht;omega) (by have:=Dec.mem_sizes ht;omega)) (by simp only[Yl,Exp.kids,Exp.cases];omega)
    rw[Qf7];simp only[go_sem,Nat.reduceAdd,Nat.reduceLeDiff,Exp.enc,TNode.cells,Dec.zero,Exp.zero,Pat.zero,Fun.zero,Case.zero,Con.zero,Ty.zero,Con.cells,TNode.enc,nodesExp,Exp.at_,Exp.kids,Exp.cases] at this |-
    exact this
   ·obtain⟨k,a,nm,p,l,nb,c,cb,f,fb⟩:=d
    simp only[Dec.size] at h h'
    have hl:=Con.len_sizes l
    have hl2:=Case.len_sizes c
    have hl3:=Fun.len_sizes f
    have:=Q5W (.mk k a nm p l nb c cb f fb) (by simp only[Dec.case];omega) (by simp only[Dec.funs];omega) (by simp only[Dec.cons];omega) (λt ht=>by
     have h2:=Fun.mem_sizes ht
     obtain⟨nm,a,c'⟩:=t
     simp only[Dec.funs,Fun.size] at h2
     exact hcase1 c' (by omega) (by omega)) s c [] [.dec inn (.mk k a nm p l nb c cb f fb)] (.full [(TNode.dec inn (.mk k a nm p l nb c cb f fb)).enc]) s 0 (AccR.full _ _ _) rfl rfl (hcase c (by omega) (by omega)) (by simp only[Yl,Dec.funs,Dec.cons];omega)
    rw[Qf6];simp only[go_sem,Nat.reduceAdd,Nat.reduceLeDiff,Dec.enc,TNode.cells,Dec.zero,Exp.zero,Pat.zero,Fun.zero,Case.zero,Con.zero,Ty.zero,Con.cells,TNode.enc,nodesDec,Dec.at_,Dec.funs,Dec.cons] at this |-
    exact this
theorem QcU(e:Exp)(s:St)(h:e.size<2^26):Nodes (cw (.f ZJ) [e.enc] s) s (nodesExp e):=(QiB e.size).1 e (Yg _) h s
end Go.Proofs.YtgfhplcmcdimiaaGreatDoor
namespace Go.Am
open Go
@[go_sem] theorem QyY(b:Bool)(sz:Nat)(x:Slot)(r:List Slot):gd b (fullO (bslS sz (gdV b x::r)))=gd b (fullO (bslS sz (x::r))):=by cases b<;>rfl
end Go.Am
namespace Go.Proofs.YtgfhplcmcdimiaaGreatDoor
open Go Go.Am
set_option maxRecDepth 4000
end Go.Proofs.YtgfhplcmcdimiaaGreatDoor
namespace Go.Am
open Go
def levelT(t:Ty):Int:=bif decide (t.kind=2)&&decide (t.name=[45,62]) then 0 else bif decide (t.kind=2)&&decide (t.name=[42]) then 1 else 2
end Go.Am
namespace Go.Proofs.YtgfhplcmcdimiaaGreatDoor
open Go Go.Am
set_option maxRecDepth 4000
open Go Go.Am
theorem wrapU8{n:Int}(h:0<=n)(g:n<=255):IntKind.u8.wrap n=n:=by
 unfold IntKind.wrap
 simp[IntKind.bits,IntKind.signed]
 omega
theorem QhA(n:Int):convS (C.ti Qb) (C.ti Q1) (.val (.int .u8 n))=some (.val (.int .i64 (IntKind.i64.wrap n))):=by
 simp only[convS,Q35,QlG]
theorem Q9K{c:UInt8}(h:digC c=true):(48:Int)<=c.toNat/\(c.toNat:Int)<=57:=by
 simp only[digC,digB,Yf,decide_eq_true_eq] at h
 omega
theorem QjD(L:Str)(td:Bool)(hl:L.length<=10):∀ (suf pre:Str) (n:Int) (s:St) (i:Nat),pre++suf=L->i=pre.length->suf.all digC=true->0<=n->n<10 ^ pre.length->
  Q2M (.val (.str L)) (.val (.bool td)) (.val (.int .i64 n)) (.val (.int .i64 L.length)) (.val (.int .i64 (i:Int))) s =
   some (.ret (.val (.tup [.int .i64 (numV n suf),.bool (decide (numV n suf<1073741824) || decide (numV n suf=1073741824)&&td)])),s):=by
 intro suf
 induction suf with
 |nil=>
   intro pre n s i h hi hd h0 h1
   rw[Yr] at h
   subst h hi
   rw[Q89,show numV n []=n from rfl]
   simp only[go_sem,Int.lt_irrefl]
 |cons c suf ih=>
   intro pre n s i h hi hd h0 h1
   subst hi
   have hc:L[pre.length]? = some c:=by rw[<-h];simp
   have hlt:pre.length<L.length:=by rw[<-h];simp
   simp only[List.all_cons,Yf] at hd
   obtain⟨b1,b2⟩:=Q9K hd.1
   have hp:(10:Int) ^ pre.length<=10 ^ 9:=by exact_mod_cast (Nat.pow_le_pow_right (n:=10) (by decide) (show pre.length<=9 by omega))
   have hp2:(10:Int) ^ (pre.length+1)=10*10 ^ pre.length:=by rw[Int.pow_succ,Int.mul_comm]
   have hb:decide ((pre.length:Int)<(L.length:Int))=true:=by simpa using hlt
   have:=ih (pre++[c]) (10*n+((c.toNat:Int) - 48)) s (pre.length+1) (by simp[h]) (by simp) hd.2 (by omega) (by rw[Yb,Yl,hp2];omega)
   rw[Q89]
   simp only[go_sem,hb,Zb Qk hc]
   rw[wrapU8 (by omega) (by omega),QhA]
   simp only[go_sem,Nat.reduceAdd,Nat.reduceLeDiff]
   rw[wrap64 (n:=10*n) (by omega) (by omega),wrap64 (n:=(c.toNat:Int) - 48) (by omega) (by omega),wrap64 (n:=10*n+_) (by omega) (by omega),wrap64 (n:=(pre.length:Int)+1) (by omega) (by omega)]
   have e:(pre.length:Int)+1=((pre.length+1:Nat):Int):=by omega
   rw[e,this]
   rfl
theorem QdA(t:Str)(td:Bool)(h0:t≠[])(hd:t.all digC=true)(hl:t.length<2^62)(s:St) :
  cw (.f Q59) [.str t,.bool td] s=some (.ret (.val (.tup [.int .i64 (numA t td).1,.bool (numA t td).2])),s):=by
 rw[QgA]
 have hz:decide (((t.headD 0).toNat:Int)=48)=decide (t.headD 0=48):=by
  rw[decide_eq_decide]
  constructor
  ·intro h;exact UInt8.toNat_inj.1 (by show _=48;omega)
  ·intro h;rw[h];rfl
 cases h1:decide ((t.length:Int)>1)&&decide (t.headD 0=48) || decide ((t.length:Int)>10)
 ·have hn:numA t td=(numV 0 t,decide (numV 0 t<1073741824) || decide (numV 0 t=1073741824)&&td):=by unfold numA;rw[h1];rfl
  have hlen:t.length<=10:=by
   simp only[Bool.or_eq_false_iff,decide_eq_false_iff_not] at h1;omega
  have:=QjD t td hlen t [] 0 s 0 rfl rfl hd (by decide) (by simp)
  rw[hn]
  simp only[Int.ofNat_zero] at this
  rw[<-this]
  simp only[Bool.or_eq_false_iff] at h1
  obtain⟨h2,h3⟩:=h1
  cases h4:decide ((t.length:Int)>1)
  ·simp only[go_sem,h4,h3]
  ·simp only[h4,Bool.true_and] at h2
   simp only[go_sem,h4,Q0R Qk h0,hz,h2,h3]
 ·have hn:numA t td=(0,false):=by unfold numA;rw[h1];rfl
  rw[hn]
  cases h4:decide ((t.length:Int)>1)
  ·simp only[h4,Bool.false_and,Yt] at h1
   simp only[go_sem,h4,h1]
  ·simp only[h4,Bool.true_and] at h1
   cases h2:decide (t.headD 0=48)
   ·simp only[h2,Yt] at h1
    simp only[go_sem,h4,Q0R Qk h0,hz,h2,h1]
   ·simp only[go_sem,h4,Q0R Qk h0,hz,h2]
theorem QeV(t:Str)(h0:t≠[])(s:St):cw (.f Q8V) [.str t] s=some (.ret (.val (.int .i64 (namedA t))),s):=by
 rw[Qi7,QjY]
 simp only[go_sem,Q4y t lwords (by decide)]
 unfold namedA
 cases hasL lwords t
 ·simp only[go_sem]
  cases h1:decide (t=[116,114,117,101])
  ·simp only[go_sem]
   cases h2:decide (t=[102,97,108,115,101])
   ·simp only[go_sem,Q0R Qk h0]
   ·simp only[go_sem]
  ·simp only[go_sem]
 ·simp only[go_sem]
theorem Ql3(s:Str)(n:Nat)(h:n<=s.length)(st:St):cw (.f Qz) [.sl (lsigns.map .str),.str (s.take n)] st=some (.ret (.val (.bool (hasL lsigns (s.take n)))),st):=Q4y _ _ (by decide) _
theorem Qgj(t:Str)(s:St):∀ n:Nat,n<=t.length->n<=2->Q4c (.val (.str t)) (.val (.int .i64 (n:Int))) s =
  some (.ret (.val (.str (bif decide (2<=n)&&hasL lsigns (t.take 2) then t.take 2 else bif decide (1<=n)&&hasL lsigns (t.take 1) then t.take 1 else []))),s)
 |0,_,_=>by rw[Q9h];simp only[go_sem,Nat.reduceLeDiff];try rfl
 |n+1,h,h2=>by
   rw[Q9h,QjT]
   have hb:decide (((n+1:Nat):Int)>0)=true:=by simp
   simp only[go_sem,Nat.reduceLeDiff,hb,Q8P Qk h,Ql3 t (n+1) h]
   have e:((n+1:Nat):Int) - 1=(n:Int):=by omega
   rw[e,wrap64 (by omega) (by omega),Qgj t s n (by omega) (by omega)]
   rcases Nat.lt_or_ge n 1 with hn|hn
   ·obtain rfl:n=0:=by omega
    simp only[go_sem,Nat.reduceAdd,Nat.reduceLeDiff]
    try (cases hasL lsigns (t.take 1)<;>rfl)
   ·obtain rfl:n=1:=by omega
    simp only[go_sem,Nat.reduceAdd,Nat.reduceLeDiff]
    try (cases hasL lsigns (t.take 2)<;>rfl)
theorem QgD(t:Str)(hl:t.length<2^62)(s:St):cw (.f Q7J) [.str t] s=some (.ret (.val (.str (signA t))),s):=by
 rw[QjA]
 have hm:min2 (.val (.int .i64 2)) (.val (.int .i64 (t.length:Int)))=some (.val (.int .i64 ((min 2 t.length:Nat):Int))):=by
  simp only[min2]
  congr 4
  split<;>omega
 simp only[go_sem,hm]
 rw[Qgj t s (min 2 t.length) (by omega) (by omega)]
 unfold signA
 have h1:decide (2<=min 2 t.length)=decide (2<=t.length):=by rw[decide_eq_decide];omega
 have h2:decide (1<=min 2 t.length)=decide (1<=t.length):=by rw[decide_eq_decide];omega
 rw[h1,h2]
open Go Go.Am
set_option maxRecDepth 4000
section
variable (t:Str) (hl:t.length<2^60) (s:St)
include hl
theorem Qo8:cw (.f Q1K) [.int .i64 0,.fn Q1J [],.cp [.str t]] s=some (.ret (.val (.str (t.takeWhile digC))),s):=
 QbA Q1J digB Q6p [] t 0 rfl (by simpa using (by omega:t.length<2^62)) s
theorem Qo7:cw (.f Q1K) [.int .i64 0,.fn Q0L [],.cp [.str t]] s=some (.ret (.val (.str (t.takeWhile amoC))),s):=
 QbA Q0L amoB Q9g [] t 0 rfl (by simpa using (by omega:t.length<2^62)) s
theorem QmG(h0:t≠[]):cw (.f Q1K) [.int .i64 1,.fn Q0L [],.cp [.str t]] s=some (.ret (.val (.str (t.take 1++(t.drop 1).takeWhile amoC))),s):=by
 have h1:(t.take 1).length=1:=by cases t with|nil=>exact absurd rfl h0|cons a r=>rfl
 have:=QbA Q0L amoB Q9g (t.take 1) (t.drop 1) 1 h1.symm (by rw[List.take_append_drop];omega) s
 rw[List.take_append_drop] at this
 exact this
end
theorem Q4R(c:UInt8)(n:Nat)(h:n<256):decide ((c.toNat:Int)=(n:Int))=decide (c=UInt8.ofNat n):=by
 rw[decide_eq_decide]
 constructor
 ·intro h'
  apply UInt8.toNat_inj.1
  simp only[UInt8.toNat_ofNat']
  omega
 ·intro h'
  rw[h']
  simp only[UInt8.toNat_ofNat']
  omega
theorem Qi9(t:Str)(td:Bool)(hl:t.length<2^60)(s:St)(z:List Slot)(hz:z.length=4) :
  Q5B (.val (.cp [.str t])) z s=some (.ret (.val (.tup [(restA t).2.enc,.int .i64 (restA t).1])),s):=by
 rw[QgB]
 have hs:=QgD t (by omega) s
 obtain⟨a,b,c,d,rfl⟩:∃ a b c d,z=[a,b,c,d]:=by
  match z,hz with
  |[a,b,c,d],_=>exact⟨a,b,c,d,rfl⟩
 simp only[go_sem,Nat.reduceAdd,Nat.reduceLeDiff,hs]
 unfold restA
 cases decide (signA t=[])
 ·simp only[go_sem];rfl
 ·simp only[go_sem];rfl
theorem get1{t:Str}(h:1<t.length):t[1]? = some ((t.drop 1).headD 0):=by
 match t,h with
 |a::b::r,_=>rfl
theorem Qia(t:Str)(td:Bool)(h0:t≠[])(hl:t.length<2^60)(s:St) :
  cw (.f Q8y) [.str t,.bool td] s=some (.ret (.val (.tup [(oneA t td).2.enc,.int .i64 (oneA t td).1])),s):=by
 rw[Ql7]
 have hr:=Qi9 t td hl s [.val (.int .i64 0),.val (.int .i64 0),.val (.str []),.val (.int .i64 0)] rfl
 have hn:digC (t.headD 0)=true->t.takeWhile digC≠[]/\(t.takeWhile digC).all digC=true:=λh=>by
  cases t with
  |nil=>exact absurd rfl h0
  |cons c r=>
    have h:digC c=true:=h
    refine⟨by simp[List.takeWhile_cons,h],?_⟩
    exact List.all_takeWhile
 have hld:(t.takeWhile digC).length<=t.length:=Q1j _ _
 have hla:(t.takeWhile amoC).length<=t.length:=Q1j _ _
 unfold oneA
 simp only[go_sem,Nat.reduceAdd,Nat.reduceLeDiff,Q0R Qk h0,Q6p,Q6q,Qo8 t hl,Qo7 t hl]
 rw[show digB ((t.headD 0).toNat:Int)=digC (t.headD 0) from rfl,show firB ((t.headD 0).toNat:Int)=firC (t.headD 0) from rfl]
 cases hd:digC (t.headD 0)
 ·simp only[go_sem]
  cases hf:firC (t.headD 0)
  ·simp only[go_sem]
   rw[show decide (((t.headD 0).toNat:Int)=39)=decide (t.headD 0=39) from Q4R _ 39 (by decide)]
   cases h3:decide (t.headD 0=39)
   ·simp only[go_sem,hr]
   ·simp only[go_sem]
    have e1:decide ((t.length:Int)>1)=decide (1<t.length):=by rw[decide_eq_decide];omega
    rw[e1]
    cases h4:decide (1<t.length)
    ·simp only[go_sem,hr]
    ·have h5:=get1 (of_decide_eq_true h4)
     have h6:=Zb (t:=C.ti Q0) (et:=C.ti T_0) (n:=1) Qk h5
     simp only[Int.cast_ofNat_Int] at h6
     have h8:(t.take 1++(t.drop 1).takeWhile amoC).length<=t.length:=by
      have:=Q1j amoC (t.drop 1)
      simp only[Yb,List.length_take,List.length_drop] at *
      have:=of_decide_eq_true h4
      omega
     have hu:=QmG t hl s h0
     generalize t.take 1++(t.drop 1).takeWhile amoC=u at h8 hu |-
     simp only[go_sem,Nat.reduceAdd,Nat.reduceLeDiff,h6,Q6q,hu]
     rw[show firB (((t.drop 1).headD 0).toNat:Int)=firC ((t.drop 1).headD 0) from rfl]
     cases h7:firC ((t.drop 1).headD 0)
     ·simp only[go_sem,hr]
     ·simp only[go_sem]
      rw[wrap64 (by omega) (by omega)]
      unfold tyvA
      cases decide ((u.length:Int) - 1>32)
      ·simp only[go_sem];rfl
      ·simp only[go_sem];rfl
  ·simp only[go_sem]
   have h9:t.takeWhile amoC≠[]:=by
    cases t with
    |nil=>exact absurd rfl h0
    |cons c r=>
      have hf:firC c=true:=hf
      have:amoC c=true:=by unfold amoC amoB;unfold firC at hf;rw[hf];rfl
      simp[List.takeWhile_cons,this]
   cases h3:decide (t.takeWhile amoC=[95])
   ·simp only[go_sem]
    cases h4:decide (((t.takeWhile amoC).length:Int)>32)
    ·simp only[go_sem,Nat.reduceAdd,Nat.reduceLeDiff,QeV _ h9];rfl
    ·simp only[go_sem];rfl
   ·simp only[go_sem,hr]
 ·obtain⟨h1,h2⟩:=hn hd
  simp only[go_sem,Nat.reduceAdd,Nat.reduceLeDiff,QdA _ td h1 h2 (by omega)]
  cases (numA (t.takeWhile digC) td).2
  ·simp only[go_sem];rfl
  ·simp only[go_sem];rfl
end Go.Proofs.YtgfhplcmcdimiaaGreatDoor