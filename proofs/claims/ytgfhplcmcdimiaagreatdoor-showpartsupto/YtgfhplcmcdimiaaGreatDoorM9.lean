/- A part of the proof: RBaseSA, PLex, SLex0, RLaid7, RBaseX, SLex1, PTy, STree1, STree2, STree3, STree4. -/
import Derived.Test.YtgfhplcmcdimiaaGreatDoorM3
import Derived.Test.YtgfhplcmcdimiaaGreatDoorM6
import Derived.Test.YtgfhplcmcdimiaaGreatDoorM7
import Derived.Test.YtgfhplcmcdimiaaGreatDoorM8
import Derived.Test.YtgfhplcmcdimiaaGreatDoorTie
import Derived.Lib.LaidTab
import Derived.Lib.AppendIntMem
import Derived.Lib.Bytealg
set_option linter.unusedVariables false
set_option linter.unusedSimpArgs false
open List renaming length_cons→Ya,mem_cons_of_mem→Yc,mem_cons_self→Yd,length_nil→Ye,cons_append→Yk,nil_append→Ym,append_nil→Yr,mem_append→Yy
open Nat renaming le_refl→Yg,eq_of_beq_eq_true→Yn
namespace Go.Proofs.YtgfhplcmcdimiaaGreatDoor
open Go Go.Proofs Go.Am Go.RowKit
def ExtOK(f:FuncId)(g:List AV->St->Option (Slot × St)):Prop:=∀ l s v s',g l s=some (v,s')->∀ κ B w vs,Inv C κ B s w->GlobOK C κ->B<=w.heap.size->VRl κ l vs->Called Tryz.prog f vs.toArray w (CPost C κ B w (.ret v) s')
theorem Qcb{f:Nat}{g:List AV->St->Option (Slot × St)}:∀ {l:List (Nat × (List AV->St->Option (Slot × St)))},findExt f l=some g->(f,g) ∈ l
 |[],h=>by cases h
 |(k,c)::r,h=>by
   unfold findExt at h
   cases hf:Nat.beq f k with
   |true=>
     rw[hf] at h
     cases h
     rw[Yn hf]
     exact Yd
   |false=>
     rw[hf] at h
     exact Yc _ (Qcb h)
theorem pow10G : Tryz.prog.globalNamed "internal/strconv.uint64pow10" = some 5 := by kernel_rfl
theorem Qnh:ExtOK 141 (pureX extItoa):=by
 intro l s sl s' hg κ B w vs hi hG hB hv
 obtain⟨v,hq,rfl,rfl⟩:=Qa3 hg
 clear hg
 have hg:=hq
 clear hq
 unfold extItoa at hg
 split at hg
 ·rename_i n
  split at hg
  ·rename_i hn
   cases hg
   obtain⟨v1,r1,rfl,h1,h3⟩:=hv
   simp only[VRl] at h3
   subst h3
   simp only[VR] at h1
   subst h1
   obtain⟨h1,_,t,z,h2⟩:=hi.tabs (5,(Go.Lib.pow10Tab.map λz=>Value.int .u64 z).toArray) (by simp[C])
   have htab : Lib.TabIs Tryz.prog w "internal/strconv.uint64pow10" .u64 Lib.pow10Tab := by
    unfold Lib.TabIs World.var?
    rw[pow10G]
    simp only[Option.bind_some]
    rw[h2]
   have he:=enters_of Tryz.func141 (by kernel_rfl) (c:=body Tryz.f141) (by kernel_rfl) #[.int .i64 n] w
   refine .inr ⟨he,(callsIn_wide (n:=0).2 (Tryz.strconv_Itoa n hn.1 hn.2 w htab)).mono λe w' h=>?_⟩
   obtain⟨rfl,k,os,rfl⟩:=h
   have hb:=Lib.below_grow w.heap.size w (Yg _) k os
   exact⟨κ,Mv.below hi hb,hi.below hb,by simp only[OutR,SR,VR];exact⟨_,rfl,rfl⟩⟩
  ·cases hg
 ·cases hg
theorem QlX:ExtOK 119 (pureX extIndexByte):=by
 intro l s sl s' hg κ B w vs hi hG hB hv
 obtain⟨v,hq,rfl,rfl⟩:=Qa3 hg
 clear hg
 have hg:=hq
 clear hq
 unfold extIndexByte at hg
 split at hg
 ·rename_i str c
  cases hg
  obtain⟨v1,r1,rfl,h1,v2,r2,rfl,h2,h3⟩:=hv
  simp only[VRl] at h3
  subst h3
  simp only[VR] at h1 h2
  obtain⟨z1,rfl,rfl⟩:=h1
  subst h2
  have he:=enters_of Tryz.func119 (by kernel_rfl) (c:=body Tryz.f119) (by kernel_rfl) #[.string z1,.int .u8 c] w
  refine .inr ⟨he,(callsIn_wide (n:=0).2 (Tryz.strings_IndexByte z1 c w)).mono λe w' h=>?_⟩
  obtain⟨h4,h5⟩:=h
  subst h4
  subst h5
  exact⟨κ,.refl _ _,hi,by simp only[OutR,SR,VR]⟩
 ·cases hg
theorem QhN:ExtOK 164 (pureX extContains):=by
 intro l s sl s' hg κ B w vs hi hG hB hv
 obtain⟨v,hq,rfl,rfl⟩:=Qa3 hg
 clear hg
 have hg:=hq
 clear hq
 unfold extContains at hg
 split at hg
 ·rename_i x y
  split at hg
  ·rename_i hx
   cases hg
   obtain⟨v1,r1,rfl,h1,v2,r2,rfl,h2,h3⟩:=hv
   simp only[VRl] at h3
   subst h3
   simp only[VR] at h1 h2
   obtain⟨z1,rfl,rfl⟩:=h1
   obtain⟨z2,rfl,rfl⟩:=h2
   obtain⟨m,hm⟩:=hG.2 4 (by simp[C])
   have hc:=hi.im 4 0 _ hm
   have hk:=Tryz.strings_Contains z1 z2 m w (by simpa using hx) hc
   have he:=enters_of Tryz.func164 (by kernel_rfl) (c:=body Tryz.f164) (by kernel_rfl) #[.string z1,.string z2] w
   refine .inr ⟨he,(callsIn_wide (n:=0).2 hk).mono λe w' h=>?_⟩
   obtain⟨h4,h5⟩:=h
   subst h4
   subst h5
   exact⟨κ,.refl _ _,hi,by simp only[OutR,SR,VR]⟩
  ·cases hg
 ·cases hg
theorem Qp2:∀ p ∈ exts,ExtOK p.1 p.2:=by
 unfold exts
 repeat (refine List.forall_mem_cons.2 ⟨by first|exact Qjr|exact QkU|exact Qng|exact Qnh|exact QlX|exact QhN,?_⟩)
 intro p hp
 cases hp
theorem codeOK:CodeOK Tryz.prog C where
 ty:=types
 code:=QoM rfl QlN
 quiet:=Qpj
 ext:=λf g l s sl s' hf hg=>Qp2 (f,g) (Qcb hf) l s sl s' hg
def laidT : List (String × DataW Unit) := [("internal/strconv.uint64pow10", Lib.tabData .u64 Lib.pow10Tab)]
theorem tabsOK {L : List (String × DataW Unit)} {W : World} (h : laidMetH Tryz.prog L W) (e : (L.filter fun x => x.1 == "internal/strconv.uint64pow10") = laidT := by kernel_rfl) : TabsOK C (kn0 W) W.heap.size W := by
 intro p hp
 have h1:laidMetH Tryz.prog laidT W:=e ▸ h.filter _
 rw[MakeChecks.laidMetH_plain _ _ _ (by kernel_rfl)] at h1
 have ht:=Lib.tabIs_of_head (t:=223) (e:=184) (n:=20) pow10G (by kernel_rfl) (by kernel_rfl) (by kernel_rfl) (by kernel_rfl) (by kernel_rfl) h1
 obtain rfl:p=(5,(Go.Lib.pow10Tab.map λz=>Value.int .u64 z).toArray):=by simpa [C] using hp
 have hc:=ht.cell pow10G 0 (by decide)
 unfold Lib.TabIs World.var? at ht
 rw[pow10G] at ht
 simp only[Option.bind_some] at ht
 have hlt:5<W.heap.size:=World.block_lt_of_cell? W ⟨5,0,none⟩ hc
 refine⟨hlt,⟨_,hc⟩,?_⟩
 split at ht
 ·rename_i cs t z hw
  cases ht
  exact⟨t,z,hw⟩
 ·cases ht
end Go.Proofs.YtgfhplcmcdimiaaGreatDoor
namespace Go.Am
open Go
structure LTok where
 kind:Int
 pos:Int
 text:Str
 num:Int
 deriving Inhabited,DecidableEq
namespace LTok
def cells(t:LTok):List AV:=[.int .i64 t.kind,.int .i64 t.pos,.str t.text,.int .i64 t.num]
abbrev enc(t:LTok):AV:=.agg t.cells
@[go_sem] theorem cells_len(t:LTok):t.cells.length=4:=rfl
def zero:LTok:=⟨0,0,[],0⟩
end LTok
def digB(n:Int):Bool:=decide (n≥48)&&decide (n<=57)
def firB(n:Int):Bool:=decide (n≥97)&&decide (n<=122) || decide (n≥65)&&decide (n<=90) || decide (n=95)
def amoB(n:Int):Bool:=firB n || digB n || decide (n=39)
def digC(c:UInt8):Bool:=digB c.toNat
def firC(c:UInt8):Bool:=firB c.toNat
def amoC(c:UInt8):Bool:=amoB c.toNat
def blankC(c:UInt8):Bool:=decide (c=32) || decide (c=9) || decide (c=10) || decide (c=13)
def lxCom:Int->Str->Option Nat
 |d,a::b::r=>bif decide (a=40)&&decide (b=42) then (lxCom (d+1) r).map (· + 2)
   else bif decide (a=42)&&decide (b=41) then (bif decide (d - 1=0) then some 2 else (lxCom (d - 1) r).map (· + 2))
   else (lxCom d (b::r)).map (· + 1)
 |_,_=>none
theorem Qhu(d:Int)(a b:UInt8)(r:Str):lxCom d (a::b::r)=bif decide (a=40)&&decide (b=42) then (lxCom (d+1) r).map (· + 2)
  else bif decide (a=42)&&decide (b=41) then (bif decide (d - 1=0) then some 2 else (lxCom (d - 1) r).map (· + 2))
  else (lxCom d (b::r)).map (· + 1):=by rw[lxCom]
def lxOpens(s:Str):Bool:=match s with
 |a::b::_=>decide (a=40)&&decide (b=42)
 |_=>false
def lwords:List Str:=[[97,110,100],[97,110,100,97,108,115,111],[97,115],[99,97,115,101],[100,97,116,97,116,121,112,101],[100,105,118],[101,108,115,101],[101,110,100],[101,120,99,101,112,116,105,111,110],[102,110],[102,117,110],[104,97,110,100,108,101],[105,102],[105,110],[108,101,116],[109,111,100],[111,102],[111,114,101,108,115,101],[112,114,105,110,116],[114,97,105,115,101],[114,101,97,100],[114,101,102],[116,104,101,110],[118,97,108]]
def lsigns:List Str:=[[33],[40],[41],[42],[43],[44],[45],[45,62],[58],[58,61],[59],[60],[60,61],[60,62],[61],[61,62],[95],[124],[126]]
def hasL(l:List Str)(x:Str):Bool:=l.any λw=>decide (x=w)
def numV:Int->Str->Int
 |acc,[]=>acc
 |acc,c::r=>numV (10*acc+((c.toNat:Int) - 48)) r
def numA(t:Str)(b:Bool):Int × Bool:=
 bif decide ((t.length:Int)>1)&&decide (t.headD 0=48) || decide ((t.length:Int)>10) then (0,false)
 else (numV 0 t,decide (numV 0 t<1073741824) || decide (numV 0 t=1073741824)&&b)
def namedA(t:Str):Int:=
 bif hasL lwords t then 5
 else bif decide (t=[116,114,117,101]) || decide (t=[102,97,108,115,101]) || decide (((t.headD 0).toNat:Int)≥65)&&decide (((t.headD 0).toNat:Int)<=90) then 3 else 2
def signA(s:Str):Str:=
 bif decide (2<=s.length)&&hasL lsigns (s.take 2) then s.take 2
 else bif decide (1<=s.length)&&hasL lsigns (s.take 1) then s.take 1 else []
def restA(s:Str):Int × LTok:=bif decide (signA s=[]) then (11,.zero) else (0,⟨6,0,signA s,0⟩)
def tyvA(u:Str):Int × LTok:=bif decide ((u.length:Int) - 1>32) then (4,.zero) else (0,⟨4,0,u,0⟩)
def oneA(s:Str)(td:Bool):Int × LTok:=
 bif digC (s.headD 0) then (bif (numA (s.takeWhile digC) td).2 then (0,⟨1,0,s.takeWhile digC,(numA (s.takeWhile digC) td).1⟩) else (13,.zero))
 else bif firC (s.headD 0) then (bif decide (s.takeWhile amoC=[95]) then restA s
  else bif decide (((s.takeWhile amoC).length:Int)>32) then (4,.zero) else (0,⟨namedA (s.takeWhile amoC),0,s.takeWhile amoC,0⟩))
 else bif decide (s.headD 0=39)&&decide (1<s.length)&&firC ((s.drop 1).headD 0) then
  tyvA (s.take 1++(s.drop 1).takeWhile amoC)
 else restA s
def tildeL(acc:List LTok):Bool:=decide (0<acc.length)&&decide ((acc.getLastD .zero).text=[126])
def scanF:Nat->Nat->Str->List LTok->List LTok × Int × Int
 |0,_,_,acc=>(acc,0,0)
 |_+1,_,[],acc=>(acc,0,0)
 |n+1,i,c::r,acc=>
   bif blankC c then scanF n (i+1) r acc
   else bif lxOpens (c::r) then (match lxCom 0 (c::r) with|some k=>scanF n (i+k) ((c::r).drop k) acc|none=>([],12,(i:Int)))
   else bif decide (acc.length≥16384) then ([],4,(i:Int))
   else bif decide ((oneA (c::r) (tildeL acc)).1=0) then scanF n (i+(oneA (c::r) (tildeL acc)).2.text.length) ((c::r).drop (oneA (c::r) (tildeL acc)).2.text.length) (acc++[{ (oneA (c::r) (tildeL acc)).2 with pos:=(i:Int) }])
   else ([],(oneA (c::r) (tildeL acc)).1,(i:Int))
def lxScan(s:Str):List LTok × Int × Int:=bif decide ((s.length:Int)>65536) then ([],4,0) else scanF (s.length+1) 0 s []
theorem Q5z:∀ (s:Str) (d:Int) (k:Nat),lxCom d s=some k->2<=k/\k<=s.length
 |[],_,_,h=>by simp[lxCom] at h
 |[_],_,_,h=>by simp[lxCom] at h
 |a::b::r,d,k,h=>by
   unfold lxCom at h
   cases h1:decide (a=40)&&decide (b=42)
   ·rw[h1] at h
    simp only[cond_false] at h
    cases h2:decide (a=42)&&decide (b=41)
    ·rw[h2] at h
     simp only[cond_false,Option.map_eq_some_iff] at h
     obtain⟨j,hj,rfl⟩:=h
     have:=Q5z (b::r) d j hj
     simp only[Ya] at this |-
     omega
    ·rw[h2] at h
     simp only[cond_true] at h
     cases h3:decide (d - 1=0)
     ·rw[h3] at h
      simp only[cond_false,Option.map_eq_some_iff] at h
      obtain⟨j,hj,rfl⟩:=h
      have:=Q5z r (d - 1) j hj
      simp only[Ya]
      omega
     ·rw[h3] at h
      simp only[cond_true,Option.some.injEq] at h
      simp only[Ya]
      omega
   ·rw[h1] at h
    simp only[cond_true,Option.map_eq_some_iff] at h
    obtain⟨j,hj,rfl⟩:=h
    have:=Q5z r (d+1) j hj
    simp only[Ya]
    omega
theorem QiW{α:Type}(p:α->Bool)(s:List α):s.takeWhile p=s.take (s.takeWhile p).length:=by
 induction s with
 |nil=>rfl
 |cons a l ih=>
   rw[List.takeWhile_cons]
   cases h:p a
   ·rfl
   ·simp only[if_true,Ya,List.take_succ_cons]
    rw[<-ih]
theorem Q1j{α:Type}(p:α->Bool)(s:List α):(s.takeWhile p).length<=s.length:=(List.takeWhile_prefix p).length_le
theorem Qmv(s:Str):signA s <+: s:=by
 unfold signA
 cases decide (2<=s.length)&&hasL lsigns (s.take 2)
 ·cases decide (1<=s.length)&&hasL lsigns (s.take 1)
  ·exact List.nil_prefix
  ·exact List.take_prefix _ _
 ·exact List.take_prefix _ _
def PreT(s:Str)(x:Int × LTok):Prop:=x.1=0->x.2.text <+: s/\x.2.text≠[]/\x.2.pos=0
theorem PreT.bif{s:Str}{b:Bool}{x y:Int × LTok}(hx:b=true->PreT s x)(hy:b=false->PreT s y):PreT s (bif b then x else y):=by
 cases b
 ·exact hy rfl
 ·exact hx rfl
theorem PreT.bad{s:Str}{e:Int}{x:LTok}(h:e≠0):PreT s (e,x):=λg=>absurd g h
theorem PreT.rest(s:Str):PreT s (restA s):=PreT.bif (λ_=>.bad (by decide)) (λh _=>⟨Qmv s,of_decide_eq_false h,rfl⟩)
theorem QcJ(s:Str)(td:Bool)(hs:s≠[]):PreT s (oneA s td):=by
 obtain⟨c,r,rfl⟩:=List.exists_cons_of_ne_nil hs
 refine .bif (λh=>.bif (λ_ _=>⟨List.takeWhile_prefix _,?_,rfl⟩) λ_=>.bad (by decide)) λ_=>.bif (λh=>.bif (λ_=>.rest _) λ_=>.bif (λ_=>.bad (by decide)) λ_ _=>⟨List.takeWhile_prefix _,?_,rfl⟩) λ_=>.bif (λh=>.bif (λ_=>.bad (by decide)) λ_ _=>⟨?_,by simp,rfl⟩) λ_=>.rest _
 ·have h:digC c=true:=h
  simp[List.takeWhile_cons,h]
 ·have h:firC c=true:=h
  have:amoC c=true:=by unfold amoC amoB;unfold firC at h;rw[h];rfl
  simp[List.takeWhile_cons,this]
 ·simp only[List.take_succ_cons,List.take_zero,List.drop_succ_cons,List.drop_zero,Yk,Ym]
  exact (List.prefix_cons_inj _).2 (List.takeWhile_prefix _)
theorem Q7S:∀ (n m i:Nat) (s:Str) (acc:List LTok),s.length<n->s.length<m->scanF n i s acc=scanF m i s acc
 |0,_,_,_,_,h,_=>by omega
 |_,0,_,_,_,_,h=>by omega
 |n+1,m+1,i,[],acc,_,_=>rfl
 |n+1,m+1,i,c::r,acc,hn,hm=>by
   simp only[Ya] at hn hm
   unfold scanF
   rw[Q7S n m (i+1) r acc (by omega) (by omega)]
   congr 1
   congr 1
   ·cases hc:lxCom 0 (c::r) with
    |none=>rfl
    |some k=>
      have:=Q5z _ _ _ hc
      exact Q7S n m _ _ _ (by simp only[List.length_drop,Ya];omega) (by simp only[List.length_drop,Ya];omega)
   ·congr 1
    cases ho:decide ((oneA (c::r) (tildeL acc)).1=0)
    ·rfl
    ·have:=QcJ (c::r) (tildeL acc) (by simp) (of_decide_eq_true ho)
     have h1:0<(oneA (c::r) (tildeL acc)).2.text.length:=List.length_pos_iff.2 this.2.1
     exact Q7S n m _ _ _ (by simp only[List.length_drop,Ya];omega) (by simp only[List.length_drop,Ya];omega)
end Go.Am
namespace Go.Proofs.YtgfhplcmcdimiaaGreatDoor
open Go Go.Am
theorem Zj{i n most:Nat}(h:i<=most):bound (some (.val (.int .i64 (i:Int)))) n most=some i:=by
 unfold bound;simp only[];rw[if_pos ⟨by omega,by omega⟩];simp
theorem QjU{t:TI}(hk:t.k = .str){l:Str}{i:Nat}(h:i<=l.length):sliceS t 0 (.val (.str l)) (some (.val (.int .i64 (i:Int)))) none none=some (.val (.str (l.drop i))):=by
 simp only[sliceS,hk,Zj h,show bound none l.length l.length=some l.length from rfl,List.take_length]
theorem Q8P{t:TI}(hk:t.k = .str){l:Str}{i:Nat}(h:i<=l.length):sliceS t 0 (.val (.str l)) none (some (.val (.int .i64 (i:Int)))) none=some (.val (.str (l.take i))):=by
 simp only[sliceS,hk,Zj h,show bound none 0 i=some 0 from rfl,List.drop_zero]
theorem Q5P{t:TI}(hk:t.k = .str){l:Str}{i j:Nat}(h:i<=j)(h':j<=l.length):sliceS t 0 (.val (.str l)) (some (.val (.int .i64 (i:Int)))) (some (.val (.int .i64 (j:Int)))) none=some (.val (.str ((l.take j).drop i))):=by
 simp only[sliceS,hk,Zj h',Zj h]
theorem Q9j(pre suf:Str)(k:Nat):((pre++suf).take (pre.length+k)).drop pre.length=suf.take k:=by
 rw[List.take_length_add_append,List.drop_left]
def badEnc(k p:Int):AV:=.agg [.int .i64 k,.int .i64 p,.str []]
theorem QjY:sliceA 24 (C.ti Q0) (.val (.cp glob2)) none none none=some (.val (.sl (lwords.map .str))):=by
 have:rows (C.ti Q0) 24 glob2=some (lwords.map .str):=by kernel_rfl
 simp only[sliceA,Qag,show Nat.beq 1 0=false from rfl,cond_false,show bound none 24 24=some 24 from rfl,show bound none 0 24=some 0 from rfl,this]
 rfl
theorem QjT:sliceA 19 (C.ti Q0) (.val (.cp glob3)) none none none=some (.val (.sl (lsigns.map .str))):=by
 have:rows (C.ti Q0) 19 glob3=some (lsigns.map .str):=by kernel_rfl
 simp only[sliceA,Qag,show Nat.beq 1 0=false from rfl,cond_false,show bound none 19 19=some 19 from rfl,show bound none 0 19=some 0 from rfl,this]
 rfl
end Go.Proofs.YtgfhplcmcdimiaaGreatDoor
namespace Go.Am
open Go Go.RowKit
section
variable {C:Cfg} {κ:Kn} {B:Nat} {s:St} {w w':World}
theorem Qma{H:Type}{enc:TypeId × Value->H}{P:Program}{base:Nat}{sp:Nat->Bool}{held:Bool}{n fuel:Nat}{t e:TypeId}{cs:List Value}{d:DataW H}{ps:List MemPlace}
  (hu:P.underlying t=some (.array n e)) (he:P.underlying e=some (.int .i64)) (h1:P.cellsOf e=1) (hn:P.cellsOf t=n) (h:DataW.trod enc P w base sp held fuel t cs=some (d,ps)) (l:List Int) (hd:d = .agg (l.map λs=>.lit (.int .i64 s))) (κ:Kn) :
  VRl κ (l.map (AV.int .i64)) cs/\Ones cs:=by
 obtain⟨xs,m,rfl,hx,hc,hxn,hel⟩:=DataW.trod_array hu h
 simp only[Prod.mk.injEq] at hx
 obtain⟨hx1,-⟩:=hx
 rw[hd] at hx1
 have hx2:l.map (λs=>(DataW.lit (.int .i64 s):DataW H))=xs.map (·.1):=by simpa using hx1
 have hll:l.length=n:=by have:=congrArg List.length hx2;simp at this;omega
 have hcl:cs.length=n:=by rw[hc,hn]
 have key:∀ (i:Nat) (v:Value),cs[i]? = some v->∃ b:Int,v = .int .i64 b/\l[i]? = some b:=by
  intro i v hv
  have hi:i<n:=by rw[<-hcl];exact (List.getElem?_eq_some_iff.1 hv).1
  have ht:=hel i hi
  rw[h1,Nat.mul_one] at ht
  have hi2:i<xs.length:=by rw[hxn];exact hi
  rw[List.getElem?_eq_getElem hi2] at ht
  obtain⟨b,hb1,hb2,-⟩:=DataW.trod_int he ht
  have hv2:(cs.drop i).take 1=[v]:=by
   have hlt:=(List.getElem?_eq_some_iff.1 hv).1
   rw[List.drop_eq_getElem_cons hlt,List.take_succ_cons,List.take_zero]
   rw[List.getElem?_eq_getElem hlt] at hv
   rw[Option.some.inj hv]
  rw[hv2] at hb1
  cases hb1
  refine⟨b,rfl,?_⟩
  have hg:=congrArg (λq=>q[i]?) hx2
  simp only[List.getElem?_map,List.getElem?_eq_getElem hi2,Option.map_some,hb2] at hg
  cases hli:l[i]? with
  |none=>rw[hli] at hg;simp at hg
  |some y=>rw[hli] at hg;simp at hg;rw[hg]
 refine⟨Qae (by simp[hll,hcl]) λi a v ha hv=>?_,λv hv=>?_⟩
 ·obtain⟨b,rfl,hb⟩:=key i v hv
  rw[List.getElem?_map,hb] at ha
  cases ha
  simp only[VR]
 ·obtain⟨i,hi⟩:=List.mem_iff_getElem?.1 hv
  obtain⟨b,rfl,-⟩:=key i v hi
  rfl
end
end Go.Am
namespace Go.Proofs.YtgfhplcmcdimiaaGreatDoor
open Go Go.Am Go.RowKit
def lprims:List Str:=[[43],[45],[42],[100,105,118],[109,111,100],[61],[60,62],[60],[60,61]]
def llevels:List Int:=[9,9,9,9,9,0,8,9,0,0,9,2,0,5,4,3,8,8,1,8,9]
theorem QkZ:glob0=lprims.map AV.str:=by kernel_rfl
theorem Qjw:glob1=llevels.map (AV.int .i64):=by kernel_rfl
theorem Ql1:glob2=lwords.map AV.str:=by kernel_rfl
theorem Ql0:glob3=lsigns.map AV.str:=by kernel_rfl
def laidL : List (String × DataW Unit) := [("camlet/lex.words", Rows.laid_camlet_lex_words), ("camlet/lex.signs", Rows.laid_camlet_lex_signs), ("camlet/show.levels", Rows.laid_camlet_show_levels), ("camlet/show.prims", Rows.laid_camlet_show_prims)]
theorem gWords : Tryz.prog.globalNamed "camlet/lex.words" = some 2 := by kernel_rfl
theorem gSigns : Tryz.prog.globalNamed "camlet/lex.signs" = some 3 := by kernel_rfl
theorem gLevels : Tryz.prog.globalNamed "camlet/show.levels" = some 1 := by kernel_rfl
theorem gPrims : Tryz.prog.globalNamed "camlet/show.prims" = some 0 := by kernel_rfl
theorem Qm3{W:World}(h:laidMetH Tryz.prog laidL W):∀ (g:Nat) (l:List AV),C.glob g=some l->VR (kn0 W) (.cp l) (.pointer (some ⟨g,0,none⟩)):=by
 rw[MakeChecks.laidMetH_plain _ _ _ (by kernel_rfl)] at h
 obtain⟨ps,⟨g2,t2,cs2,f2,p2,q2,hg2,ht2,hv2,hd2,⟨g3,t3,cs3,f3,p3,q3,hg3,ht3,hv3,hd3,⟨g1,t1,cs1,f1,p1,q1,hg1,ht1,hv1,hd1,⟨g0,t0,cs0,f0,p0,q0,hg0,ht0,hv0,hd0,_,_⟩,_⟩,_⟩,_⟩,_,_⟩:=h
 obtain rfl:=Option.some.inj (gWords.symm.trans hg2)
 obtain rfl:=Option.some.inj (gSigns.symm.trans hg3)
 obtain rfl:=Option.some.inj (gLevels.symm.trans hg1)
 obtain rfl:=Option.some.inj (gPrims.symm.trans hg0)
 obtain rfl:=Option.some.inj ((show (Tryz.prog.globals[2]?).map (·.type)=some 205 by kernel_rfl).symm.trans ht2)
 obtain rfl:=Option.some.inj ((show (Tryz.prog.globals[3]?).map (·.type)=some 206 by kernel_rfl).symm.trans ht3)
 obtain rfl:=Option.some.inj ((show (Tryz.prog.globals[1]?).map (·.type)=some 181 by kernel_rfl).symm.trans ht1)
 obtain rfl:=Option.some.inj ((show (Tryz.prog.globals[0]?).map (·.type)=some 152 by kernel_rfl).symm.trans ht0)
 intro g l hg
 have w0:=Qbi (n:=9) (t:=152) (e:=Q0) (by kernel_rfl) (by kernel_rfl) (by kernel_rfl) (by kernel_rfl) hd0 lprims (by kernel_rfl) (kn0 W)
 have w1:=Qma (n:=21) (t:=181) (e:=Q1) (by kernel_rfl) (by kernel_rfl) (by kernel_rfl) (by kernel_rfl) hd1 llevels (by kernel_rfl) (kn0 W)
 have w2:=Qbi (n:=24) (t:=205) (e:=Q0) (by kernel_rfl) (by kernel_rfl) (by kernel_rfl) (by kernel_rfl) hd2 lwords (by kernel_rfl) (kn0 W)
 have w3:=Qbi (n:=19) (t:=206) (e:=Q0) (by kernel_rfl) (by kernel_rfl) (by kernel_rfl) (by kernel_rfl) hd3 lsigns (by kernel_rfl) (kn0 W)
 have hc0:=World.var?_cell hg0 hv0
 have hc1:=World.var?_cell hg1 hv1
 have hc2:=World.var?_cell hg2 hv2
 have hc3:=World.var?_cell hg3 hv3
 change (bif Nat.beq g 0 then some glob0 else bif Nat.beq g 1 then some glob1 else bif Nat.beq g 2 then some glob2 else bif Nat.beq g 3 then some glob3 else none)=some l at hg
 cases h0:Nat.beq g 0 with
 |true=>
   rw[h0] at hg
   cases hg
   obtain rfl:=Yn h0
   rw[QkZ]
   simp only[VR]
   exact⟨⟨0,0,none⟩,cs0.toList,rfl,rfl,λj u hj=>by
    simp only[kn0,Nat.zero_add]
    rw[hc0,<-Array.getElem?_toList];exact hj,w0.2,w0.1⟩
 |false=>
   rw[h0] at hg
   cases h1:Nat.beq g 1 with
   |true=>
     rw[h1] at hg
     cases hg
     obtain rfl:=Yn h1
     rw[Qjw]
     simp only[VR]
     exact⟨⟨1,0,none⟩,cs1.toList,rfl,rfl,λj u hj=>by
      simp only[kn0,Nat.zero_add]
      rw[hc1,<-Array.getElem?_toList];exact hj,w1.2,w1.1⟩
   |false=>
     rw[h1] at hg
     cases h2:Nat.beq g 2 with
     |true=>
       rw[h2] at hg
       cases hg
       obtain rfl:=Yn h2
       rw[Ql1]
       simp only[VR]
       exact⟨⟨2,0,none⟩,cs2.toList,rfl,rfl,λj u hj=>by
        simp only[kn0,Nat.zero_add]
        rw[hc2,<-Array.getElem?_toList];exact hj,w2.2,w2.1⟩
     |false=>
       rw[h2] at hg
       cases h3:Nat.beq g 3 with
       |true=>
         rw[h3] at hg
         cases hg
         obtain rfl:=Yn h3
         rw[Ql0]
         simp only[VR]
         exact⟨⟨3,0,none⟩,cs3.toList,rfl,rfl,λj u hj=>by
          simp only[kn0,Nat.zero_add]
          rw[hc3,<-Array.getElem?_toList];exact hj,w3.2,w3.1⟩
       |false=>
         rw[h3] at hg
         cases hg
open Go Go.Proofs Go.Am Go.RowKit
theorem globOK {L : List (String × DataW Unit)} {W : World} (h : laidMetH Tryz.prog L W) (hs : W.ShapedOpen Tryz.prog) (e : (L.filter fun x => x.1 == "camlet/lex.words" || x.1 == "camlet/lex.signs" || x.1 == "camlet/show.levels" || x.1 == "camlet/show.prims") = laidL := by kernel_rfl) : GlobOK C (kn0 W) := by
 refine⟨Qm3 (e ▸ h.filter _),λg hg=>?_⟩
 obtain rfl:g=4:=by simpa [C] using hg
 exact Tryz.laysM144.s1_3 W hs
open Go Go.Am
theorem Q6p(n:Int)(s:St):cw (.f Q1J) [.int .u8 n] s=some (.ret (.val (.bool (digB n))),s):=by
 rw[Qi5];simp only[go_sem];rfl
theorem Q6q(n:Int)(s:St):cw (.f Q44) [.int .u8 n] s=some (.ret (.val (.bool (firB n))),s):=by
 rw[Qi6];simp only[go_sem];rfl
theorem Q9g(n:Int)(s:St):cw (.f Q0L) [.int .u8 n] s=some (.ret (.val (.bool (amoB n))),s):=by
 rw[Qi4];simp only[go_sem,Q6q,Q6p]
 unfold amoB
 cases firB n<;>cases digB n<;>rfl
theorem QmH(F:Nat)(p:Int->Bool)(hF:∀ n s,cw (.f F) [.int .u8 n] s=some (.ret (.val (.bool (p n))),s))(L:Str)(hl:L.length<2^62):∀ (suf pre:Str) (s:St) (i:Nat),pre++suf=L->i=pre.length->
  Q3s (.val (.fn F [])) (.val (.cp [.str L])) (.val (.int .i64 (i:Int))) s=some (.ret (.val (.str (pre++suf.takeWhile λc=>p c.toNat))),s):=by
 intro suf
 induction suf with
 |nil=>
   intro pre s i h hi
   rw[Yr] at h
   subst h hi
   rw[Q8E]
   simp only[go_sem,Nat.reduceAdd,Nat.reduceLeDiff,Int.lt_irrefl,Q8P Qk (Yg pre.length)]
   simp
 |cons c suf ih=>
   intro pre s i h hi
   subst hi
   have hc:L[pre.length]? = some c:=by rw[<-h];simp
   have hlt:pre.length<L.length:=by rw[<-h];simp
   have:=ih (pre++[c]) s (pre++[c]).length (by simp[h]) rfl
   rw[Q8E]
   have hb:decide ((pre.length:Int)<(L.length:Int))=true:=by simpa using hlt
   simp only[go_sem,Nat.reduceAdd,Nat.reduceLeDiff,hb,Zb Qk hc,hF]
   rw[wrap64 (by omega) (by omega)]
   have e:(pre.length:Int)+1=((pre++[c]).length:Int):=by simp
   rw[e,this,List.takeWhile_cons]
   cases hp:p c.toNat
   ·simp only[go_sem,Q8P Qk (Nat.le_of_lt hlt)]
    rw[<-h];simp
   ·simp only[go_sem,Int.reduceNeg]
theorem QbA(F:Nat)(p:Int->Bool)(hF:∀ n s,cw (.f F) [.int .u8 n] s=some (.ret (.val (.bool (p n))),s))(pre suf:Str)(i:Nat)(hi:i=pre.length)(hl:(pre++suf).length<2^62)(s:St) :
  cw (.f Q1K) [.int .i64 (i:Int),.fn F [],.cp [.str (pre++suf)]] s=some (.ret (.val (.str (pre++suf.takeWhile λc=>p c.toNat))),s):=by
 rw[Qi8]
 exact QmH F p hF (pre++suf) hl suf pre s i rfl hi
theorem Ql4(x:Str)(L:List Str)(hl:L.length<2^62):∀ (suf pre:List Str) (s:St) (i:Nat),pre++suf=L->i=pre.length->
  ∃ k:Int,Z4 (.val (.sl (L.map .str))) (.val (.str x)) (.val (.int .i64 L.length)) (.val (.int .i64 (i:Int))) s=some (.ret (.val (.int .i64 k)),s)/\decide (k≥0)=hasL suf x:=by
 intro suf
 induction suf with
 |nil=>
   intro pre s i h hi
   rw[Yr] at h
   subst h hi
   rw[Q0S]
   simp only[go_sem,Int.reduceNeg,Int.lt_irrefl]
   exact⟨-1,rfl,rfl⟩
 |cons c suf ih=>
   intro pre s i h hi
   subst hi
   obtain⟨f1,f2,f3⟩:=Qe (f:=AV.str) (x:=.val (.sl (L.map .str))) (sz:=1) rfl h hl rfl (by decide)
   obtain⟨k,h1,h2⟩:=ih (pre++[c]) s (pre.length+1) (by simp[h]) (by simp)
   rw[Q0S]
   simp only[go_sem,Int.reduceNeg,Nat.reduceAdd,Nat.reduceLeDiff,f1,f2,f3]
   rw[h1]
   simp only[hasL,List.any_cons]
   by_cases hx:x=c
   ·subst hx
    simp only[go_sem,Int.reduceNeg]
    exact⟨_,rfl,by simp⟩
   ·simp only[go_sem,hx]
    exact⟨k,rfl,h2⟩
theorem Q4y(x:Str)(L:List Str)(hl:L.length<2^62)(s:St):cw (.f Qz) [.sl (L.map .str),.str x] s=some (.ret (.val (.bool (hasL L x))),s):=by
 rw[Q4k]
 obtain⟨k,h1,h2⟩:=Ql4 x L hl L [] s 0 rfl rfl
 have hi:cw (.f Zk) [.sl (L.map .str),.str x] s=some (.ret (.val (.int .i64 k)),s):=by
  rw[Q5Q]
  simp only[go_sem,Int.reduceNeg]
  exact h1
 simp only[go_sem,hi,h2]
theorem QeL(a b:Str)(s:St):cw (.f Q38) [.str a,.str b] s=some (.ret (.val (.bool (decide (b.length<=a.length)&&decide (a.take b.length=b)))),s):=by
 have h:cw (.f ZN) [.str a,.str b] s=some (.ret (.val (.bool (decide (b.length<=a.length)&&decide (a.take b.length=b)))),s):=by
  rw[Q4a]
  by_cases hb:b.length<=a.length
  ·have hb':decide ((a.length:Int)≥(b.length:Int))=true:=by simpa using hb
   simp only[go_sem,hb',hb,Q8P Qk hb]
  ·have hb':decide ((a.length:Int)≥(b.length:Int))=false:=by simpa using hb
   simp only[go_sem,hb',hb]
 rw[Qa7]
 simp only[go_sem,h]
theorem QeO(a:Str)(c:UInt8)(s:St):cw (.f Q39) [.str a,.int .u8 c.toNat] s=some (.ret (.val (.int .i64 (Go.Lib.indexByte a c))),s):=by
 have e:C.ext Q39=some (pureX extIndexByte):=by kernel_rfl
 rw[cw,Q3];unfold callR;rw[e];simp[pureX,extIndexByte]
theorem Qn0(c:UInt8):decide (Go.Lib.indexByte [32,9,10,13] c≥0)=blankC c:=by
 simp only[Go.Lib.indexByte,blankC]
 by_cases h1:c=32
 ·subst h1;rfl
 by_cases h2:c=9
 ·subst h2;rfl
 by_cases h3:c=10
 ·subst h3;rfl
 by_cases h4:c=13
 ·subst h4;rfl
 have g:∀ x:UInt8,c≠x->(x == c)=false:=λx h=>by simp[Ne.symm h]
 simp[g _ h1,g _ h2,g _ h3,g _ h4,h1,h2,h3,h4]
theorem QjL(L:Str)(hl:L.length<2^61):∀ (suf pre:Str) (d:Int) (s:St) (i:Nat),pre++suf=L->i=pre.length->-(pre.length:Int)<=d->d<=pre.length->
  Q0C (.val (.str L)) (.val (.int .i64 (i:Int))) (.val (.int .i64 d)) s=some (.ret (.val (.int .i64 (match lxCom d suf with|some k=>((i+k:Nat):Int)|none=> -1))),s):=by
 intro suf
 generalize hn:suf.length=n
 induction n using Nat.strongRecOn generalizing suf with
 |ind n ih=>
   intro pre d s i h hi hd1 hd2
   subst hi
   have hL:pre.length+suf.length=L.length:=by rw[<-h];simp
   rw[QcD]
   match suf,hn,h,hL with
   |[],_,h,hL=>
     simp only[Ye,Nat.add_zero] at hL
     simp only[go_sem,Int.reduceNeg]
     rw[wrap64 (by omega) (by omega)]
     have hb:decide ((pre.length:Int)+1<(L.length:Int))=false:=by simp;omega
     simp only[go_sem,Int.reduceNeg,hb,lxCom]
   |[_],_,h,hL=>
     simp only[Ya,Ye] at hL
     simp only[go_sem,Int.reduceNeg]
     rw[wrap64 (by omega) (by omega)]
     have hb:decide ((pre.length:Int)+1<(L.length:Int))=false:=by simp;omega
     simp only[go_sem,Int.reduceNeg,hb,lxCom]
   |a::b::r,hn,h,hL=>
     simp only[Ya] at hL hn
     simp only[go_sem,Int.reduceNeg]
     rw[wrap64 (by omega) (by omega),wrap64 (by omega) (by omega)]
     have hb:decide ((pre.length:Int)+1<(L.length:Int))=true:=by simp;omega
     have hs:=Q5P (t:=C.ti Q0) Qk (l:=L) (i:=pre.length) (j:=pre.length+2) (by omega) (by omega)
     have ht:(L.take (pre.length+2)).drop pre.length=[a,b]:=by rw[<-h,Q9j];rfl
     rw[ht] at hs
     have e2:(pre.length:Int)+2=((pre.length+2:Nat):Int):=by omega
     rw[e2]
     simp only[go_sem,Int.reduceNeg,hb,hs]
     rw[wrap64 (by omega) (by omega),wrap64 (by omega) (by omega)]
     have i1:=ih r.length (by omega) r rfl (pre++[a,b]) (d+1) s (pre.length+2) (by simp[h]) (by simp) (by simp;omega) (by simp;omega)
     have i2:=ih r.length (by omega) r rfl (pre++[a,b]) (d - 1) s (pre.length+2) (by simp[h]) (by simp) (by simp;omega) (by simp;omega)
     have i3:=ih (r.length+1) (by omega) (b::r) (by simp) (pre++[a]) d s (pre.length+1) (by simp[h]) (by simp) (by simp;omega) (by simp;omega)
     have e1:(pre.length:Int)+1=((pre.length+1:Nat):Int):=by omega
     rw[e1,i1,i2,i3]
     rw[Qhu]
     have c1:decide ([a,b]=[40,42])=(decide (a=40)&&decide (b=42)):=by simp[Bool.decide_and]
     have c2:decide ([a,b]=[42,41])=(decide (a=42)&&decide (b=41)):=by simp[Bool.decide_and]
     rw[c1,c2]
     cases decide (a=40)&&decide (b=42)
     ·cases decide (a=42)&&decide (b=41)
      ·simp only[go_sem,Int.reduceNeg]
       cases lxCom d (b::r)<;>simp only[go_sem,Int.reduceNeg]
       simp;omega
      ·simp only[go_sem,Int.reduceNeg]
       cases decide (d - 1=0)
       ·simp only[go_sem,Int.reduceNeg]
        cases lxCom (d - 1) r<;>simp only[go_sem,Int.reduceNeg]
        simp;omega
       ·simp only[go_sem,Int.reduceNeg]
     ·simp only[go_sem,Int.reduceNeg]
      cases lxCom (d+1) r<;>simp only[go_sem,Int.reduceNeg]
      simp;omega
theorem QdB(pre suf:Str)(hl:(pre++suf).length<2^61)(s:St):cw (.f Q5a) [.str (pre++suf),.int .i64 (pre.length:Int)] s=some (.ret (.val (.int .i64 (match lxCom 0 suf with|some k=>((pre.length+k:Nat):Int)|none=> -1))),s):=by
 rw[QgC]
 exact QjL (pre++suf) hl suf pre 0 s pre.length rfl rfl (by omega) (by omega)
end Go.Proofs.YtgfhplcmcdimiaaGreatDoor
namespace Go.Am
open Go
def tvar(n:Int):Ty:=.mk 1 n [] [] true
mutual
def ownTy:Ty->Ty
 |.mk k n s l _=>.mk k n s (ownTys l) true
def ownTys:List Ty->List Ty
 |[]=>[]
 |t::l=>ownTy t::ownTys l
end
section
variable {σ:Type} (to:Int->σ->Ty × σ)
end
def givenB(nm:Str):Int × Int × Bool:=
 bif decide (nm=[105,110,116]) || decide (nm=[98,111,111,108]) || decide (nm=[117,110,105,116]) || decide (nm=[101,120,110]) then (0,0,true) else
 bif decide (nm=[114,101,102]) then (1,1,true) else bif decide (nm=[45,62]) then (2,2,true) else bif decide (nm=[42]) then (2,8,true) else (0,8,false)
def goodC(k n:Int)(nm:Str)(len:Int)(low:Bool):Bool:=
 bif decide (k=1) then decide (n≥0)&&decide (nm=[])&&decide (len=0)
 else bif decide (k=2) then decide (n=0)&&decide (len≥(givenB nm).1)&&decide (len<=(givenB nm).2.1)&&((givenB nm).2.2 || low)
 else false
def goodB(t:Ty):Bool:=goodC t.kind t.n t.name t.args.length (lowB t.name)
mutual
def allTy(p:Ty->Bool):Ty->Bool
 |.mk k n s l b=>p (.mk k n s l b)&&allTys p l
def allTys(p:Ty->Bool):List Ty->Bool
 |[]=>true
 |t::l=>allTy p t&&allTys p l
end
theorem Qb4(a:Int):∀ {l:List Ty} {t:Ty},t ∈ l->∀ n ∈ nodesTy a t,n ∈ nodesTys a l
 |x::l,t,h,n,hn=>by
   simp only[nodesTys,Yy]
   rcases List.mem_cons.1 h with rfl|h
   ·exact .inl hn
   ·exact .inr (Qb4 a h n hn)
def NamesTy(t:Ty):Prop:=∀ n ∈ nodesTy 0 t,n.ok
theorem NamesTy.name{k n:Int}{s:Str}{l:List Ty}{b:Bool}(h:NamesTy (.mk k n s l b)):s.length<2^40:=h (.ty (.mk k n s l b) 0) (by simp only[nodesTy];exact Yd)
theorem NamesTy.arg{k n:Int}{s:Str}{l:List Ty}{b:Bool}(h:NamesTy (.mk k n s l b)){t:Ty}(ht:t ∈ l):NamesTy t:=λnd hn=>h nd (by simp only[nodesTy];exact Yc _ (Qb4 0 ht nd hn))
section
variable {σ:Type} (to:Int->σ->Ty × σ)
end
end Go.Am
namespace Go.Proofs.YtgfhplcmcdimiaaGreatDoor
open Go Go.Am
theorem Q8U(n:Int)(s:St):cw (.f Q5v) [.int .u8 n] s=some (.ret (.val (.bool (smallB n))),s):=by
 rw[Qhh];simp only[go_sem];rfl
theorem Q8R(n:Int)(s:St):cw (.f Q5s) [.int .u8 n] s=some (.ret (.val (.bool (greatB n))),s):=by
 rw[Qhd];simp only[go_sem];rfl
theorem Q8S(n:Int)(s:St):cw (.f Q5t) [.int .i64 n] s=some (.ret (.val (.bool (isIntB n))),s):=by
 rw[Qhe];simp only[go_sem,Int.reduceNeg];rfl
theorem Qhg(l:Str)(pre:Str):∀ (suf:Str) (s:St),pre++suf=l->l.length<2^62->Q4m (.val (.str l)) (.val (.int .i64 pre.length)) s=some (.ret (.val (.bool (restAll suf&&decide (l.length<=32)))),s):=by
 intro suf
 induction suf generalizing pre with
 |nil=>
   intro s h hl
   rw[Yr] at h
   subst h
   rw[Q9y];simp only[Qhm,Qhk,Q9T Qk,Q7N,Q9F,Q7O]
   rw[QeM (by simp)]
   simp only[go_sem]
   simp[restAll]
   omega
 |cons c suf ih=>
   intro s h hl
   have hc:l[pre.length]? = some c:=by rw[<-h];simp
   have hlt:pre.length<l.length:=by rw[<-h];simp
   have:=ih (pre++[c]) s (by simp[h]) hl
   rw[Q9y]
   simp only[Qhm,Qhk,Q9T Qk,Q7N,Q9F,Q7O]
   rw[QeN (by simpa using hlt),Zb Qk hc]
   simp only[go_sem,Q8U,Q8R]
   rw[wrap64 (by omega) (by omega)]
   have e:(pre.length:Int)+1=((pre++[c]).length:Int):=by simp
   rw[e,this]
   simp only[go_sem,restAll,List.all_cons,unrestB]
   cases (!smallB c.toNat && !greatB c.toNat&&(decide ((c.toNat:Int)<48) || decide ((c.toNat:Int)>57)) && !decide ((c.toNat:Int)=39))<;>simp
theorem Qas(l:Str)(s:St)(h0:l≠[])(hl:l.length<2^62):cw (.f Q5u) [.str l] s=some (.ret (.val (.bool (runB l))),s):=by
 rw[QjW]
 cases l with
 |nil=>exact absurd rfl h0
 |cons c l=>exact Qhg (c::l) [c] l s rfl hl
theorem Q9v(a b:Str)(s:St)(h:a.length<4294967281):cw (.f Q3p) [.str a,.str b] s=some (.ret (.val (.bool (Go.Lib.contains a b))),s):=by
 have e:C.ext Q3p=some (pureX extContains):=by kernel_rfl
 rw[cw,Q3];unfold callR;rw[e];simp[pureX,extContains,h]
theorem Q7z(l:Str)(s:St)(hl:l.length<2^62):cw (.f Q3L) [.str l] s=some (.ret (.val (.bool (capB l))),s):=by
 rw[Qek]
 by_cases h0:l=[]
 ·subst h0;simp only[go_sem];rfl
 ·simp only[go_sem,h0,Q8R,not_false_eq_true,Q0R Qk h0,Qas l s h0 hl]
  simp[capB,h0,headB]
theorem Q54(l:Str)(s:St)(hl:l.length<2^62):cw (.f Q1u) [.str l] s=some (.ret (.val (.bool (conB l))),s):=by
 rw[Qax]
 simp only[go_sem,Q7z l s hl]
 rfl
theorem Q2X(l:Str)(s:St)(hl:l.length<2^62):cw (.f Q2B) [.str l] s=some (.ret (.val (.bool (lowB l))),s):=by
 rw[QjV]
 by_cases h0:l=[]
 ·subst h0;simp only[go_sem];rfl
 ·have hk:Qdm=wordsS:=by decide +kernel
  have hc:=λb s=>Q9v wordsS b s (by decide +kernel)
  simp only[go_sem,h0,Q8U,not_false_eq_true,Q0R Qk h0,Qas l s h0 hl,QfE (C.ti Q0) [32] l (by simp;omega),QfE (C.ti Q0) (32::l) [32] (by simp;omega),hk,hc]
  simp[lowB,h0,headB,Bool.and_assoc]
open Go Go.Am
set_option maxRecDepth 4000
theorem Qc0(t:Ty)(s:St)(hn:t.name.length<2^62):cw (.f Q25) [t.enc] s=some (.ret (.val (.int .i64 (wrongTyB t))),s):=by
 obtain⟨k,n,nm,l,nl⟩:=t
 rw[Qep]
 simp only[go_sem,Nat.reduceAdd,Nat.reduceLeDiff,Qbv,Qbw,Q2X nm _ hn]
 show _=some (Out.ret (.val (.int .i64 (wrongTyC k n nm l.length))),s)
 delta wrongTyC tyLM
 generalize decide (nm=[105,110,116])=x1
 generalize decide (nm=[98,111,111,108])=x2
 generalize decide (nm=[117,110,105,116])=x3
 generalize decide (nm=[101,120,110])=x4
 generalize decide (nm=[114,101,102])=x5
 generalize decide (nm=[45,62])=x6
 generalize decide (nm=[42])=x7
 generalize lowB nm=x8
 cases x1<;>cases x2<;>cases x3<;>cases x4<;>cases x5<;>cases x6<;>cases x7<;>cases x8<;>rfl
theorem Qbu(t:Pat)(s:St)(hn:t.name.length<2^62):cw (.f Q3g) [t.enc] s=some (.ret (.val (.int .i64 (wrongPatB t))),s):=by
 obtain⟨k,a,nm,n,l,nl⟩:=t
 rw[Qdi]
 have hk:k=1\/k=2\/k=3\/k=4\/k=5\/k=6\/(k<1\/k>6):=by omega
 rcases hk with rfl|rfl|rfl|rfl|rfl|rfl|hk
 rotate_left 6
 ·simp only[go_sem,Nat.reduceAdd,decide_eq_false (show ¬ k=1 by omega),decide_eq_false (show ¬ k=2 by omega),decide_eq_false (show ¬ k=3 by omega),decide_eq_false (show ¬ k=4 by omega),decide_eq_false (show ¬ k=5 by omega),decide_eq_false (show ¬ k=6 by omega)]
  have:(decide (k<1) || decide (k>6))=true:=by simpa using hk
  have e:wrongPatB (Pat.mk k a nm n l nl)=29:=by
   show (bif (decide (k<1) || decide (k>6)) then (29:Int) else _)=29
   rw[this];rfl
  rw[e]
 all_goals
  simp only[go_sem,Int.reduceEq,Int.reduceGT,Int.reduceLT,Nat.reduceAdd,Nat.reduceLeDiff,QaB,Q2X nm _ hn,Q54 nm _ hn,Q8S,wrongPatB,patLM,Pat.kind,Pat.name,Pat.n,Pat.kids]
  try rfl
theorem Qbr(c:Con)(s:St)(hn:c.name.length<2^62):cw (.f Q5w) [c.enc] s=some (.ret (.val (.int .i64 (wrongConB c))),s):=by
 rw[Qdg]
 simp only[go_sem,Nat.reduceAdd,Nat.reduceLeDiff,Con.cells,Ty.cells_eq,Q7z _ _ hn]
 rfl
theorem Qbt(e:Exp)(s:St)(hn:e.name.length<2^62):cw (.f Q5x) [e.enc] s=some (.ret (.val (.int .i64 (wrongExpB e))),s):=by
 obtain⟨k,a,nm,n,l,lb,c,cb,d,db⟩:=e
 rw[Qdh]
 have hk:k=1\/k=2\/k=3\/k=4\/k=5\/k=6\/k=7\/k=8\/k=9\/k=10\/k=11\/k=12\/k=13\/k=14\/k=15\/k=16\/k=17\/k=18\/k=19\/k=20\/(k<1\/k>20):=by omega
 rcases hk with rfl|rfl|rfl|rfl|rfl|rfl|rfl|rfl|rfl|rfl|rfl|rfl|rfl|rfl|rfl|rfl|rfl|rfl|rfl|rfl|hk
 rotate_left 20
 ·simp only[go_sem,Nat.reduceAdd,Nat.reduceLeDiff,Q9x,Q7E,Q7F,Q7G,decide_eq_false (show ¬ k=1 by omega),decide_eq_false (show ¬ k=2 by omega),decide_eq_false (show ¬ k=3 by omega),decide_eq_false (show ¬ k=4 by omega),decide_eq_false (show ¬ k=5 by omega),decide_eq_false (show ¬ k=6 by omega),decide_eq_false (show ¬ k=7 by omega),decide_eq_false (show ¬ k=8 by omega),decide_eq_false (show ¬ k=9 by omega),decide_eq_false (show ¬ k=10 by omega),decide_eq_false (show ¬ k=11 by omega),decide_eq_false (show ¬ k=12 by omega),decide_eq_false (show ¬ k=13 by omega),decide_eq_false (show ¬ k=14 by omega),decide_eq_false (show ¬ k=15 by omega),decide_eq_false (show ¬ k=16 by omega),decide_eq_false (show ¬ k=17 by omega),decide_eq_false (show ¬ k=18 by omega),decide_eq_false (show ¬ k=19 by omega),decide_eq_false (show ¬ k=20 by omega)]
  have h:(decide (k<1) || decide (k>20))=true:=by simpa using hk
  have e:wrongExpB (Exp.mk k a nm n l lb c cb d db)=29:=by
   show (bif (decide (k<1) || decide (k>20) || _ || _ || _ || _ || _) then (29:Int) else _)=29
   rw[h];rfl
  rw[e]
 all_goals
  simp only[go_sem,Int.reduceEq,Int.reduceGT,Int.reduceLT,Nat.reduceAdd,Nat.reduceLeDiff,Q9x,Q7E,Q7F,Q7G,Q2X nm _ hn,Q54 nm _ hn,Q8S,wrongExpB,expLM,Exp.kind,Exp.name,Exp.n,Exp.kids,Exp.cases,Exp.decs]
  try rfl
theorem Qbs(d:Dec)(inn:Bool)(a:Int)(r:List AV)(s:St)(hn:d.name.length<2^62):cw (.f Q0s) [.agg [.cp (d.cells++r),.bool inn,.nilp,.nilp,.nilp,.nilp,.nilp,.int .i64 a]] s=some (.ret (.val (.int .i64 (wrongDecB d inn))),s):=by
 obtain⟨k,at_,nm,p,l,nb,c,cb,f,fb⟩:=d
 rw[Q9a]
 simp only[go_sem,Nat.reduceAdd,Q2X nm _ hn,Q7T]
 show _=some (Out.ret (.val (.int .i64 (wrongDecC k nm p l.length c.length f.length inn))),s)
 delta wrongDecC
 generalize decide (k=1)=x1
 generalize decide (k=2)=x2
 generalize decide (k=3)=x3
 generalize decide (k=4)=x4
 cases x1<;>cases x2<;>cases x3<;>cases x4<;>rfl
open Go Go.Am
set_option maxRecDepth 4000
theorem Qaa(nd:TNode)(r:List AV)(s:St):cw (.f Q40) [nd.thing r] s=some (.ret (.val (.bool nd.isNode)),s):=by
 rw[Qbq]
 cases nd<;>simp only[go_sem,Nat.reduceAdd,TNode.thing,TNode.isNode]
theorem Q9z(nd:TNode)(r:List AV)(s:St)(h:nd.name.length<2^40):cw (.f Q1v) [nd.thing r] s=some (.ret (.val nd.bad.enc),s):=by
 rw[Qay]
 have key:∀ (e a:Int) (nm:Str) (v:List Slot) (s:St),v.getD 7 .und = .val (.int .i64 a)->v.length=8->QN v [.val (.int .i64 0),.val (.int .i64 0),.val (.str [])] (.val (.int .i64 e)) (.val (.str nm)) s=some (.ret (.val (mkBad e a nm).enc),s):=by
  intro e a nm v s hv hl
  have hd:(v.drop 7).take 1=[.val (.int .i64 a)]:=by
   match v,hl with
   |[_,_,_,_,_,_,_,x],_=>simpa using hv
  rw[Q9b]
  by_cases h0:e=0
  ·subst h0
   simp only[go_sem,Int.reduceEq,Nat.reduceAdd,Nat.reduceLeDiff,hd]
   rfl
  ·by_cases h8:e=8
   ·subst h8
    simp only[go_sem,Int.reduceEq,Nat.reduceAdd,Nat.reduceLeDiff,hd]
    rfl
   ·simp only[go_sem,Nat.reduceAdd,Nat.reduceLeDiff,hd,decide_eq_false h0,decide_eq_false h8,mkBad]
    rfl
 cases nd with
 |dec inn d=>
   have hn:d.name.length<2^62:=by simp only[TNode.name] at h;omega
   have hw:=λs=>Qbs d inn d.at_ r s hn
   obtain⟨k,a,nm,p,l,nb,c,cb,f,fb⟩:=d
   simp only[go_sem,Exp.enc,Pat.enc,Ty.enc,Dec.enc] at hw
   simp only[go_sem,Nat.reduceAdd,Nat.reduceLeDiff,TNode.thing,hw]
   exact key _ _ _ _ _ rfl rfl
 |exp e=>
   have hn:e.name.length<2^62:=by simp only[TNode.name] at h;omega
   have hw:=λs=>Qbt e s hn
   obtain⟨k,a,nm,n,l,lb,c,cb,d,db⟩:=e
   simp only[go_sem,Exp.enc,Pat.enc,Ty.enc,Dec.enc] at hw
   simp only[go_sem,Nat.reduceAdd,Nat.reduceLeDiff,TNode.thing,hw]
   exact key _ _ _ _ _ rfl rfl
 |pat e=>
   have hn:e.name.length<2^62:=by simp only[TNode.name] at h;omega
   have hw:=λs=>Qbu e s hn
   obtain⟨k,a,nm,n,l,lb⟩:=e
   simp only[go_sem,Exp.enc,Pat.enc,Ty.enc,Dec.enc] at hw
   simp only[go_sem,Nat.reduceAdd,Nat.reduceLeDiff,TNode.thing,hw]
   exact key _ _ _ _ _ rfl rfl
 |ty e a=>
   have hn:e.name.length<2^62:=by simp only[TNode.name] at h;omega
   have hw:=λs=>Qc0 e s hn
   obtain⟨k,n,nm,l,lb⟩:=e
   simp only[go_sem,Exp.enc,Pat.enc,Ty.enc,Dec.enc] at hw
   simp only[go_sem,Nat.reduceAdd,Nat.reduceLeDiff,TNode.thing,hw]
   exact key _ _ _ _ _ rfl rfl
 |fn f=>
   have hn:f.name.length<2^62:=by simp only[TNode.name] at h;omega
   have hw:=λs=>Q2X f.name s hn
   obtain⟨nm,a,c⟩:=f
   simp only[Fun.name] at hw
   have k0:=λv s h1 h2=>key 0 a nm v s h1 h2
   have k8:=λv s h1 h2=>key 8 a nm v s h1 h2
   simp only[go_sem,Nat.reduceAdd,Nat.reduceLeDiff,TNode.thing,hw,Fun.at_]
   show _=some (Out.ret (.val (mkBad (bif !lowB nm then 8 else 0) a nm).enc),s)
   cases lowB nm
   ·simp only[go_sem];exact key 8 a nm _ s rfl rfl
   ·simp only[go_sem];exact key 0 a nm _ s rfl rfl
 |con c=>
   have hn:c.name.length<2^62:=by simp only[TNode.name] at h;omega
   have hw:=λs=>Qbr c s hn
   obtain⟨nm,a,hs,arg⟩:=c
   simp only[go_sem,Con.enc,Con.cells] at hw
   simp only[go_sem,Nat.reduceAdd,Nat.reduceLeDiff,TNode.thing,Con.cells,hw]
   exact key _ _ _ _ _ rfl rfl
open Go Go.Am
set_option maxRecDepth 4000
theorem Q8u(L:List Ty)(x:Slot)(hx:x.list? = some (L.map Ty.enc))(hl:L.length<2^40):∀ (suf pre:List Ty) (n:Int) (s:St) (i:Nat),pre++suf=L->i=pre.length->(∀ t ∈ suf,∀ s,cw (.f Q1n) [t.enc] s=some (.ret (.val (.int .i64 (deepTy t))),s))->0<=n->n<2^40->Ty.sizes suf<2^40->
  Q2v (.val (.int .i64 n)) x (.val (.int .i64 L.length)) (.val (.int .i64 i)) s=some (.ret (.val (.int .i64 (deepTys suf n+1))),s)
 |[],pre,n,s,i,h,hi,H,h0,h1,h2=>by
   subst hi
   rw[Q7D];simp only[go_sem,Qg (by simpa using h)]
   rw[wrap64 (by omega) (by omega)];rfl
 |t::suf,pre,n,s,i,h,hi,H,h0,h1,h2=>by
   subst hi
   obtain⟨f1,f2,f3⟩:=Qe hx h (by omega) (Ty.cells_len t) (by decide)
   have ht:=Q4X t
   have hm:=QZ n (deepTy t) (2^40 - 1)
   have hn:=QY n (deepTy t)
   simp only[Ty.sizes] at h2
   rw[Q7D];simp only[go_sem,Nat.reduceAdd,Nat.reduceLeDiff,f1,f2,f3,H t (Yd)]
   exact Q8u L x hx hl suf (pre++[t]) _ s _ (by simpa using h) (by simp) (λu hu=>H u (Yc _ hu)) (by omega) (by omega) (by omega)
theorem Q8v:∀ (m:Nat) (t:Ty) (s:St),t.size<=m->t.size<2^40->cw (.f Q1n) [t.enc] s=some (.ret (.val (.int .i64 (deepTy t))),s)
 |0,.mk _ _ _ _ _,_,h,_=>by simp only[Ty.size] at h;omega
 |m+1,.mk k n nm l nl,s,h,h'=>by
   simp only[Ty.size] at h h'
   have hl:=Ty.len_sizes l
   rw[Qfz];simp only[go_sem,Nat.reduceAdd,Nat.reduceLeDiff,Ty.enc]
   exact Q8u l _ (by simp only[go_sem]) (by omega) l [] 0 s 0 rfl rfl (λu hu s=>by have:=Ty.mem_sizes hu;exact Q8v m u s (by omega) (by omega)) (by omega) (by omega) (by omega)
theorem Q7C(L:List Pat)(x:Slot)(hx:x.list? = some (L.map Pat.enc))(hl:L.length<2^40):∀ (suf pre:List Pat) (n:Int) (s:St) (i:Nat),pre++suf=L->i=pre.length->(∀ t ∈ suf,∀ s,cw (.f Q0a) [t.enc] s=some (.ret (.val (.int .i64 (deepPat t))),s))->0<=n->n<2^40->Pat.sizes suf<2^40->
  Q1I (.val (.int .i64 n)) x (.val (.int .i64 L.length)) (.val (.int .i64 i)) s=some (.ret (.val (.int .i64 (deepPats suf n+1))),s)
 |[],pre,n,s,i,h,hi,H,h0,h1,h2=>by
   subst hi
   rw[Q76];simp only[go_sem,Qg (by simpa using h)]
   rw[wrap64 (by omega) (by omega)];rfl
 |t::suf,pre,n,s,i,h,hi,H,h0,h1,h2=>by
   subst hi
   obtain⟨f1,f2,f3⟩:=Qe hx h (by omega) (Pat.cells_len t) (by decide)
   have ht:=Q0K t
   have hm:=QZ n (deepPat t) (2^40 - 1)
   have hn:=QY n (deepPat t)
   simp only[Pat.sizes] at h2
   rw[Q76];simp only[go_sem,Nat.reduceAdd,Nat.reduceLeDiff,f1,f2,f3,H t (Yd)]
   exact Q7C L x hx hl suf (pre++[t]) _ s _ (by simpa using h) (by simp) (λu hu=>H u (Yc _ hu)) (by omega) (by omega) (by omega)
theorem Q42:∀ (m:Nat) (t:Pat) (s:St),t.size<=m->t.size<2^40->cw (.f Q0a) [t.enc] s=some (.ret (.val (.int .i64 (deepPat t))),s)
 |0,.mk _ _ _ _ _ _,_,h,_=>by simp only[Pat.size] at h;omega
 |m+1,.mk k a nm n l nl,s,h,h'=>by
   simp only[Pat.size] at h h'
   have hl:=Pat.len_sizes l
   rw[Qen];simp only[go_sem,Nat.reduceAdd,Nat.reduceLeDiff,Pat.enc]
   exact Q7C l _ (by simp only[go_sem]) (by omega) l [] 0 s 0 rfl rfl (λu hu s=>by have:=Pat.mem_sizes hu;exact Q42 m u s (by omega) (by omega)) (by omega) (by omega) (by omega)
def deepExpOK(t:Exp):Prop:=∀ s,cw (.f Q09) [t.enc] s=some (.ret (.val (.int .i64 (deepExp t))),s)
def deepCasesOK(l:List Case):Prop:=∀ (v:AV) (s:St),(Slot.val v).list? = some (l.map Case.enc)->cw (.f ZO) [v] s=some (.ret (.val (.int .i64 (deepCases l 0))),s)
def deepDecsOK(l:List Dec):Prop:=∀ (v:AV) (s:St),(Slot.val v).list? = some (l.map Dec.enc)->cw (.f Q0r) [v] s=some (.ret (.val (.int .i64 (deepDecs l 0))),s)
theorem Q7B(L:List Exp)(x:Slot)(hx:x.list? = some (L.map Exp.enc))(hl:L.length<2^40):∀ (suf pre:List Exp) (n:Int) (s:St) (i:Nat),pre++suf=L->i=pre.length->(∀ t ∈ suf,deepExpOK t)->0<=n->n<2^40->Exp.sizes suf<2^40->
  Q1H (.val (.int .i64 n)) x (.val (.int .i64 L.length)) (.val (.int .i64 i)) s=some (.ret (.val (.int .i64 (deepExps suf n+1))),s)
 |[],pre,n,s,i,h,hi,H,h0,h1,h2=>by
   subst hi
   rw[Q75];simp only[go_sem,Qg (by simpa using h)]
   rw[wrap64 (by omega) (by omega)];rfl
 |t::suf,pre,n,s,i,h,hi,H,h0,h1,h2=>by
   subst hi
   obtain⟨f1,f2,f3⟩:=Qe hx h (by omega) (Exp.cells_len t) (by decide)
   have ht:=Q0J t
   have hm:=QZ n (deepExp t) (2^40 - 1)
   have hn:=QY n (deepExp t)
   simp only[Exp.sizes] at h2
   rw[Q75];simp only[go_sem,Nat.reduceAdd,Nat.reduceLeDiff,f1,f2,f3,H t (Yd) s]
   exact Q7B L x hx hl suf (pre++[t]) _ s _ (by simpa using h) (by simp) (λu hu=>H u (Yc _ hu)) (by omega) (by omega) (by omega)
theorem Q3c(L:List Case)(x:Slot)(hx:x.list? = some (L.map Case.enc))(hl:L.length<2^40):∀ (suf pre:List Case) (n:Int) (s:St) (i:Nat),pre++suf=L->i=pre.length->(∀ t ∈ suf,deepExpOK t.exp)->0<=n->n<2^40->Case.sizes suf<2^40->
  Q0I (.val (.int .i64 n)) x (.val (.int .i64 L.length)) (.val (.int .i64 i)) s=some (.ret (.val (.int .i64 (deepCases suf n))),s)
 |[],pre,n,s,i,h,hi,H,h0,h1,h2=>by
   subst hi
   rw[Q5S];simp only[go_sem,Qg (by simpa using h)];rfl
 |.mk p e::suf,pre,n,s,i,h,hi,H,h0,h1,h2=>by
   subst hi
   obtain⟨f1,f2,f3⟩:=Qe hx h (by omega) (Case.cells_len (.mk p e)) (by decide)
   have ht:=Q0J e
   have hp:=Q0K p
   simp only[Case.sizes,Case.size] at h2
   have h4:=QY n (deepPat p)
   have h5:=QY (maxI n (deepPat p)) (deepExp e)
   have h6:=QZ n (deepPat p) (2^40 - 1) (by omega) (by omega)
   have h7:=QZ (maxI n (deepPat p)) (deepExp e) (2^40 - 1) (by omega) (by omega)
   have He:deepExpOK e:=H (.mk p e) (Yd)
   rw[Q5S];simp only[go_sem,Nat.reduceAdd,Nat.reduceLeDiff,Nat.reduceSub,f1,f2,f3,Q42 _ p _ (Yg _) (show p.size<2^40 by omega),He s]
   exact Q3c L x hx hl suf (pre++[.mk p e]) _ s _ (by simpa using h) (by simp) (λu hu=>H u (Yc _ hu)) (by omega) (by omega) (by omega)
theorem Q2u(L:List Con)(x:Slot)(hx:x.list? = some (L.map Con.enc))(hl:L.length<2^40)(y1 x11 x12:Slot)(n0:Int)(j:Nat):∀ (suf pre:List Con) (n:Int) (s:St) (i:Nat),pre++suf=L->i=pre.length->0<=n->n<2^40->Con.sizes suf<2^40->j<2^40->
  Q0d (.val (.int .i64 n0)) (.val (.int .i64 n)) x11 x12 (.val (.int .i64 j)) x (.val (.int .i64 L.length)) (.val (.int .i64 i)) s=ZP (.val (.int .i64 (maxI n0 (deepCons suf n+1)))) x11 x12 (.val (.int .i64 (j+1:Nat))) s
 |[],pre,n,s,i,h,hi,h0,h1,h2,hj=>by
   subst hi
   rw[Q69];simp only[go_sem,Qg (by simpa using h)]
   rw[wrap64 (n:=n+1) (by omega) (by omega),wrap64 (by omega) (by omega)];rfl
 |c::suf,pre,n,s,i,h,hi,h0,h1,h2,hj=>by
   subst hi
   obtain⟨f1,f2,f3⟩:=Qe hx h (by omega) (Con.cells_len c) (by decide)
   have ht:=Q4X c.arg
   simp only[Con.sizes,Con.size] at h2
   have hm:=QZ n (deepTy c.arg) (2^40 - 1)
   have hn:=QY n (deepTy c.arg)
   obtain⟨nm,a,hs,arg⟩:=c
   dsimp only at ht hm hn h2
   rw[Q69];simp only[go_sem,Nat.reduceAdd,Nat.reduceLeDiff,f1,f2,f3,Con.cells]
   cases hs with
   |false=>
     simp only[go_sem]
     exact Q2u L x hx hl y1 x11 x12 n0 j suf (pre++[_]) n s _ (by simpa using h) (by simp) (by omega) (by omega) (by omega) hj
   |true=>
     simp only[go_sem,Q8v _ arg _ (Yg _) (show arg.size<2^40 by omega)]
     exact Q2u L x hx hl y1 x11 x12 n0 j suf (pre++[_]) _ s _ (by simpa using h) (by simp) (by omega) (by omega) (by omega) hj
theorem Q55(L:List Fun)(x:Slot)(hx:x.list? = some (L.map Fun.enc))(hl:L.length<2^40)(d:Dec)(x11 x12:Slot)(n0:Int)(j:Nat)(hd:Con.sizes d.cons<2^40):∀ (suf pre:List Fun) (n:Int) (s:St) (i:Nat),pre++suf=L->i=pre.length->(∀ t ∈ suf,deepCasesOK [t.case])->0<=n->n<2^40->Fun.sizes suf<2^40->j<2^40->
  Q1h (.val (.int .i64 n0)) (d.cells.map .val) (.val (.int .i64 n)) x11 x12 (.val (.int .i64 j)) x (.val (.int .i64 L.length)) (.val (.int .i64 i)) s=ZP (.val (.int .i64 (maxI n0 (deepCons d.cons (deepFuns suf n)+1)))) x11 x12 (.val (.int .i64 (j+1:Nat))) s
 |[],pre,n,s,i,h,hi,H,h0,h1,h2,hj=>by
   subst hi
   have hc:=Con.len_sizes d.cons
   rw[Q68];simp only[go_sem,Qg (by simpa using h),Dec.cells_eq]
   exact Q2u d.cons _ (by simp only[go_sem]) (by omega) x x11 x12 n0 j d.cons [] n s 0 rfl rfl h0 h1 hd hj
 |.mk nm a c::suf,pre,n,s,i,h,hi,H,h0,h1,h2,hj=>by
   subst hi
   obtain⟨f1,f2,f3⟩:=Qe hx h (by omega) (Fun.cells_len (.mk nm a c)) (by decide)
   have ht:=Qc6 c
   simp only[Fun.sizes,Fun.size] at h2
   have hm:=QZ n (deepCase c) (2^40 - 1)
   have hn:=QY n (deepCase c)
   have hc:∀ s,cw (.f ZO) [.sl [c.enc]] s=some (.ret (.val (.int .i64 (deepCase c))),s):=λs=>by
    rw[H (.mk nm a c) (Yd) (.sl [c.enc]) s (by simp only[go_sem];rfl)]
    obtain⟨p,e⟩:=c
    simp only[Fun.case,deepCases,deepCase]
   rw[Q68];simp only[go_sem,Nat.reduceAdd,Nat.reduceLeDiff,f1,f2,f3,hc]
   exact Q55 L x hx hl d x11 x12 n0 j hd suf (pre++[_]) _ s _ (by simpa using h) (by simp) (λu hu=>H u (Yc _ hu)) (by omega) (by omega) (by omega) hj
theorem Q3E(L:List Dec)(x:Slot)(hx:x.list? = some (L.map Dec.enc))(hl:L.length<2^40):∀ (suf pre:List Dec) (n:Int) (s:St) (i:Nat),pre++suf=L->i=pre.length->(∀ d ∈ suf,deepCasesOK d.case/\∀ f ∈ d.funs,deepCasesOK [f.case])->0<=n->n<2^40->Dec.sizes suf<2^40->
  ZP (.val (.int .i64 n)) x (.val (.int .i64 L.length)) (.val (.int .i64 i)) s=some (.ret (.val (.int .i64 (deepDecs suf n))),s)
 |[],pre,n,s,i,h,hi,H,h0,h1,h2=>by
   subst hi
   rw[Q67];simp only[go_sem,Qg (by simpa using h)];rfl
 |.mk k a nm p l nb c cb f fb::suf,pre,n,s,i,h,hi,H,h0,h1,h2=>by
   subst hi
   obtain⟨f1,f2,f3⟩:=Qe hx h (by omega) (Dec.cells_len (.mk k a nm p l nb c cb f fb)) (by decide)
   obtain⟨hC,hF⟩:=H (.mk k a nm p l nb c cb f fb) (Yd)
   simp only[Dec.case,Dec.funs] at hC hF
   simp only[Dec.sizes,Dec.size] at h2
   have g1:=Q28 c 0
   have g2:=Q6B f (deepCases c 0)
   have g3:=Q6A l (deepFuns f (deepCases c 0))
   have g5:=QY n (deepCons l (deepFuns f (deepCases c 0))+1)
   have g6:=QZ n (deepCons l (deepFuns f (deepCases c 0))+1) (2^40 - 1) (by omega) (by omega)
   have g7:=Fun.len_sizes f
   have hlen:pre.length<L.length:=by rw[<-h];simp
   have hc1:=λs=>hC (encS cb (c.map Case.enc)) s (by simp only[go_sem])
   rw[Q67];simp only[go_sem,Nat.reduceAdd,Nat.reduceLeDiff,f1,f2,hc1]
   have:=Q55 f (.val (encS fb (f.map Fun.enc))) (by simp only[go_sem]) (by omega) (.mk k a nm p l nb c cb f fb) x (.val (.int .i64 L.length)) n pre.length (by simp only[Dec.cons];omega) f [] (deepCases c 0) s 0 rfl rfl hF (by omega) (by omega) (by omega) (by omega)
   simp only[go_sem,Dec.cons] at this
   rw[show ((0:Nat):Int)=0 from rfl] at this
   rw[this]
   exact Q3E L x hx hl suf (pre++[_]) _ s _ (by simpa using h) (by simp) (λu hu=>H u (Yc _ hu)) (by omega) (by omega) (by omega)
theorem Qhc:∀ m:Nat,(∀ e:Exp,e.size<=m->e.size<2^40->deepExpOK e)/\(∀ l:List Case,Case.sizes l<=m->Case.sizes l<2^40->deepCasesOK l)/\(∀ l:List Dec,Dec.sizes l<=m->Dec.sizes l<2^40->deepDecsOK l):=by
 intro m
 induction m with
 |zero=>
   refine⟨λe h _=>?_,λl h _ v s hv=>?_,λl h _ v s hv=>?_⟩
   ·obtain⟨k,a,nm,n,l,lb,c,cb,d,db⟩:=e
    simp only[Exp.size] at h;omega
   ·cases l with
    |cons c l=>obtain⟨p,e⟩:=c;simp only[Case.sizes,Case.size] at h;omega
    |nil=>
      rw[Q7A];simp only[go_sem,hv]
      exact Q3c [] _ hv (by decide) [] [] 0 s 0 rfl rfl (by simp) (by decide) (by decide) (by simp only[Case.sizes];decide)
   ·cases l with
    |cons c l=>obtain⟨k,a,nm,p,l,nb,c,cb,f,fb⟩:=c;simp only[Dec.sizes,Dec.size] at h;omega
    |nil=>
      rw[Q8t];simp only[go_sem,hv]
      exact Q3E [] _ hv (by decide) [] [] 0 s 0 rfl rfl (by simp) (by decide) (by decide) (by simp only[Dec.sizes];decide)
 |succ m ih=>
   obtain⟨ihE,ihC,ihD⟩:=ih
   have hC:∀ l:List Case,Case.sizes l<=m+1->Case.sizes l<2^40->deepCasesOK l:=λl h h' v s hv=>by
    have:=Case.len_sizes l
    rw[Q7A];simp only[go_sem,hv]
    exact Q3c l _ hv (by omega) l [] 0 s 0 rfl rfl (λt ht=>ihE t.exp (by have:=Case.mem_sizes ht;obtain⟨p,e⟩:=t;simp only[Case.size,Case.exp] at *;omega) (by have:=Case.mem_sizes ht;obtain⟨p,e⟩:=t;simp only[Case.size,Case.exp] at *;omega)) (by decide) (by decide) h'
   refine⟨λe h h' s=>?_,hC,λl h h' v s hv=>?_⟩
   ·obtain⟨k,a,nm,n,l,lb,c,cb,d,db⟩:=e
    simp only[Exp.size] at h h'
    have hl:=Exp.len_sizes l
    have g1:=Q49 d 0
    have g2:=Q28 c 0
    have g3:=QZ (deepDecs d 0) (deepCases c 0) (2^40 - 1) (by omega) (by omega)
    have g4:=QY (deepDecs d 0) (deepCases c 0)
    have hD:=λs=>ihD d (by omega) (by omega) (encS db (d.map Dec.enc)) s (by simp only[go_sem])
    have hCc:=λs=>ihC c (by omega) (by omega) (encS cb (c.map Case.enc)) s (by simp only[go_sem])
    rw[Qem];simp only[go_sem,Nat.reduceAdd,Nat.reduceLeDiff,Exp.enc,hD,hCc]
    exact Q7B l _ (by simp only[go_sem]) (by omega) l [] _ s 0 rfl rfl (λt ht=>ihE t (by have:=Exp.mem_sizes ht;omega) (by have:=Exp.mem_sizes ht;omega)) (by omega) (by omega) (by omega)
   ·have:=Dec.len_sizes l
    rw[Q8t];simp only[go_sem,hv]
    refine Q3E l _ hv (by omega) l [] 0 s 0 rfl rfl (λt ht=>?_) (by decide) (by decide) h'
    have h1:=Dec.mem_sizes ht
    obtain⟨k,a,nm,p,l,nb,c,cb,f,fb⟩:=t
    simp only[Dec.size] at h1
    refine⟨ihC c (by omega) (by omega),λg hg=>?_⟩
    have h2:=Fun.mem_sizes hg
    obtain⟨nm,a,c'⟩:=g
    simp only[Dec.funs,Fun.size] at h2
    exact ihC [c'] (by simp only[Case.sizes];omega) (by simp only[Case.sizes];omega)
theorem QbX(e:Exp)(s:St)(h:e.size<2^40):cw (.f Q09) [e.enc] s=some (.ret (.val (.int .i64 (deepExp e))),s):=(Qhc e.size).1 e (Yg _) h s
end Go.Proofs.YtgfhplcmcdimiaaGreatDoor