/- A part of the proof: RBaseSA, PLex, SLex0, RLaid7, RBaseX, SLex1, PTy, STree1, STree2, STree3, STree4, STree5. -/
import Derived.Test.YtgfhplcmcdimiaaGreatDoorM3
import Derived.Test.YtgfhplcmcdimiaaGreatDoorM6
import Derived.Test.YtgfhplcmcdimiaaGreatDoorM7
import Derived.Test.YtgfhplcmcdimiaaGreatDoorM8
import Derived.Test.YtgfhplcmcdimiaaGreatDoorTie
import Derived.Lib.LaidTab
import Derived.Lib.AppendIntMem
import Derived.Lib.Bytealg
set_option linter.unusedVariables false
set_option linter.unusedSimpArgs false
set_option linter.unusedSimpArgs false
set_option linter.unusedVariables false
namespace Go.Proofs.YtgfhplcmcdimiaaGreatDoor
open Go Go.Proofs Go.Am Go.RowKit
def ExtOK(f:FuncId)(g:List AV→St→Option (Slot × St)):Prop:=∀ l s v s',g l s=some (v,s')→∀ κ B w vs,Inv C κ B s w→GlobOK C κ→B≤w.heap.size→VRl κ l vs→Called Tryz.prog f vs.toArray w (CPost C κ B w (.ret v) s')
theorem QaM{f:Nat}{g:List AV→St→Option (Slot × St)}:∀ {l:List (Nat × (List AV→St→Option (Slot × St)))},findExt f l=some g→(f,g) ∈ l
 |[],h=>by cases h
 |(k,c)::r,h=>by
   unfold findExt at h
   cases hf:Nat.beq f k with
   |true=>
     rw[hf] at h
     cases h
     rw[Nat.eq_of_beq_eq_true hf]
     exact List.mem_cons_self
   |false=>
     rw[hf] at h
     exact List.mem_cons_of_mem _ (QaM h)
theorem pow10G : Tryz.prog.globalNamed "internal/strconv.uint64pow10" = some 5 := by kernel_rfl
theorem QkE:ExtOK 141 (pureX extItoa):=by
 intro l s sl s' hg κ B w vs hi hG hB hv
 obtain⟨v,hq,rfl,rfl⟩:=Q8S hg
 clear hg
 have hg:=hq
 clear hq
 unfold extItoa at hg
 split at hg
 ·rename_i n
  split at hg
  ·rename_i hn
   cases hg
   obtain⟨v1,r1,rfl,h1,h3⟩:=hv
   simp only[VRl] at h3
   subst h3
   simp only[VR] at h1
   subst h1
   obtain⟨h1,_,t,z,h2⟩:=hi.tabs (5,(Go.Lib.pow10Tab.map λz=>Value.int .u64 z).toArray) (by simp[C])
   have htab : Lib.TabIs Tryz.prog w "internal/strconv.uint64pow10" .u64 Lib.pow10Tab := by
    unfold Lib.TabIs World.var?
    rw[pow10G]
    simp only[Option.bind_some]
    rw[h2]
   have he:=enters_of Tryz.func141 (by kernel_rfl) (c:=body Tryz.f141) (by kernel_rfl) #[.int .i64 n] w
   refine .inr ⟨he,(callsIn_wide (n:=0).2 (Tryz.strconv_Itoa n hn.1 hn.2 w htab)).mono λe w' h=>?_⟩
   obtain⟨rfl,k,os,rfl⟩:=h
   have hb:=Lib.below_grow w.heap.size w (Nat.le_refl _) k os
   exact⟨κ,Mv.below hi hb,hi.below hb,by simp only[OutR,SR,VR];exact⟨_,rfl,rfl⟩⟩
  ·cases hg
 ·cases hg
theorem Qjq:ExtOK 119 (pureX extIndexByte):=by
 intro l s sl s' hg κ B w vs hi hG hB hv
 obtain⟨v,hq,rfl,rfl⟩:=Q8S hg
 clear hg
 have hg:=hq
 clear hq
 unfold extIndexByte at hg
 split at hg
 ·rename_i str c
  cases hg
  obtain⟨v1,r1,rfl,h1,v2,r2,rfl,h2,h3⟩:=hv
  simp only[VRl] at h3
  subst h3
  simp only[VR] at h1 h2
  obtain⟨z1,rfl,rfl⟩:=h1
  subst h2
  have he:=enters_of Tryz.func119 (by kernel_rfl) (c:=body Tryz.f119) (by kernel_rfl) #[.string z1,.int .u8 c] w
  refine .inr ⟨he,(callsIn_wide (n:=0).2 (Tryz.strings_IndexByte z1 c w)).mono λe w' h=>?_⟩
  obtain⟨h4,h5⟩:=h
  subst h4
  subst h5
  exact⟨κ,.refl _ _,hi,by simp only[OutR,SR,VR]⟩
 ·cases hg
theorem QfI:ExtOK 164 (pureX extContains):=by
 intro l s sl s' hg κ B w vs hi hG hB hv
 obtain⟨v,hq,rfl,rfl⟩:=Q8S hg
 clear hg
 have hg:=hq
 clear hq
 unfold extContains at hg
 split at hg
 ·rename_i x y
  split at hg
  ·rename_i hx
   cases hg
   obtain⟨v1,r1,rfl,h1,v2,r2,rfl,h2,h3⟩:=hv
   simp only[VRl] at h3
   subst h3
   simp only[VR] at h1 h2
   obtain⟨z1,rfl,rfl⟩:=h1
   obtain⟨z2,rfl,rfl⟩:=h2
   obtain⟨m,hm⟩:=hG.2 4 (by simp[C])
   have hc:=hi.im 4 0 _ hm
   have hk:=Tryz.strings_Contains z1 z2 m w (by simpa using hx) hc
   have he:=enters_of Tryz.func164 (by kernel_rfl) (c:=body Tryz.f164) (by kernel_rfl) #[.string z1,.string z2] w
   refine .inr ⟨he,(callsIn_wide (n:=0).2 hk).mono λe w' h=>?_⟩
   obtain⟨h4,h5⟩:=h
   subst h4
   subst h5
   exact⟨κ,.refl _ _,hi,by simp only[OutR,SR,VR]⟩
  ·cases hg
 ·cases hg
theorem Qmk:∀ p ∈ exts,ExtOK p.1 p.2:=by
 unfold exts
 repeat (refine List.forall_mem_cons.2 ⟨by first | exact Qh6 | exact Qip | exact QkD | exact QkE | exact Qjq | exact QfI,?_⟩)
 intro p hp
 cases hp
theorem codeOK:CodeOK Tryz.prog C where
 ty:=types
 code:=Qm3 rfl Qjf
 quiet:=Qmz
 ext:=λf g l s sl s' hf hg=>Qmk (f,g) (QaM hf) l s sl s' hg
def laidT : List (String × DataW Unit) := [("internal/strconv.uint64pow10", Lib.tabData .u64 Lib.pow10Tab)]
theorem tabsOK {L : List (String × DataW Unit)} {W : World} (h : laidMetH Tryz.prog L W) (e : (L.filter fun x => x.1 == "internal/strconv.uint64pow10") = laidT := by kernel_rfl) : TabsOK C (kn0 W) W.heap.size W := by
 intro p hp
 have h1:laidMetH Tryz.prog laidT W:=e ▸ h.filter _
 rw[MakeChecks.laidMetH_plain _ _ _ (by kernel_rfl)] at h1
 have ht:=Lib.tabIs_of_head (t:=223) (e:=184) (n:=20) pow10G (by kernel_rfl) (by kernel_rfl) (by kernel_rfl) (by kernel_rfl) (by kernel_rfl) h1
 obtain rfl:p=(5,(Go.Lib.pow10Tab.map λz=>Value.int .u64 z).toArray):=by simpa [C] using hp
 have hc:=ht.cell pow10G 0 (by decide)
 unfold Lib.TabIs World.var? at ht
 rw[pow10G] at ht
 simp only[Option.bind_some] at ht
 have hlt:5<W.heap.size:=World.block_lt_of_cell? W ⟨5,0,none⟩ hc
 refine⟨hlt,⟨_,hc⟩,?_⟩
 split at ht
 ·rename_i cs t z hw
  cases ht
  exact⟨t,z,hw⟩
 ·cases ht
end Go.Proofs.YtgfhplcmcdimiaaGreatDoor
namespace Go.Am
open Go
structure LTok where
 kind:Int
 pos:Int
 text:Str
 num:Int
 deriving Inhabited,DecidableEq
namespace LTok
def cells(t:LTok):List AV:=[.int .i64 t.kind,.int .i64 t.pos,.str t.text,.int .i64 t.num]
abbrev enc(t:LTok):AV:=.agg t.cells
@[go_sem] theorem cells_len(t:LTok):t.cells.length=4:=rfl
def zero:LTok:=⟨0,0,[],0⟩
end LTok
def digB(n:Int):Bool:=decide (n≥48)&&decide (n≤57)
def firB(n:Int):Bool:=decide (n≥97)&&decide (n≤122) || decide (n≥65)&&decide (n≤90) || decide (n=95)
def amoB(n:Int):Bool:=firB n || digB n || decide (n=39)
def amoC(c:UInt8):Bool:=amoB c.toNat
def lwords:List Str:=[[97,110,100],[97,110,100,97,108,115,111],[97,115],[99,97,115,101],[100,97,116,97,116,121,112,101],[100,105,118],[101,108,115,101],[101,110,100],[101,120,99,101,112,116,105,111,110],[102,110],[102,117,110],[104,97,110,100,108,101],[105,102],[105,110],[108,101,116],[109,111,100],[111,102],[111,114,101,108,115,101],[112,114,105,110,116],[114,97,105,115,101],[114,101,97,100],[114,101,102],[116,104,101,110],[118,97,108]]
def lsigns:List Str:=[[33],[40],[41],[42],[43],[44],[45],[45,62],[58],[58,61],[59],[60],[60,61],[60,62],[61],[61,62],[95],[124],[126]]
def hasL(l:List Str)(x:Str):Bool:=l.any λw=>decide (x=w)
end Go.Am
namespace Go.Proofs.YtgfhplcmcdimiaaGreatDoor
open Go Go.Am
set_option linter.unusedVariables false
theorem Q07{i n most:Nat}(h:i≤most):bound (some (.val (.int .i64 (i:Int)))) n most=some i:=by
 unfold bound;simp only[];rw[if_pos ⟨by omega,by omega⟩];simp
end Go.Proofs.YtgfhplcmcdimiaaGreatDoor
namespace Go.Am
open Go Go.RowKit
section
variable {C:Cfg} {κ:Kn} {B:Nat} {s:St} {w w':World}
theorem QjB{H:Type}{enc:TypeId × Value→H}{P:Program}{base:Nat}{sp:Nat→Bool}{held:Bool}{n fuel:Nat}{t e:TypeId}{cs:List Value}{d:DataW H}{ps:List MemPlace}
  (hu:P.underlying t=some (.array n e)) (he:P.underlying e=some (.int .i64)) (h1:P.cellsOf e=1) (hn:P.cellsOf t=n) (h:DataW.trod enc P w base sp held fuel t cs=some (d,ps)) (l:List Int) (hd:d = .agg (l.map λs=>.lit (.int .i64 s))) (κ:Kn) :
  VRl κ (l.map (AV.int .i64)) cs∧Ones cs:=by
 obtain⟨xs,m,rfl,hx,hc,hxn,hel⟩:=DataW.trod_array hu h
 simp only[Prod.mk.injEq] at hx
 obtain⟨hx1,-⟩:=hx
 rw[hd] at hx1
 have hx2:l.map (λs=>(DataW.lit (.int .i64 s):DataW H))=xs.map (·.1):=by simpa using hx1
 have hll:l.length=n:=by have:=congrArg List.length hx2;simp at this;omega
 have hcl:cs.length=n:=by rw[hc,hn]
 have key:∀ (i:Nat) (v:Value),cs[i]? = some v→∃ b:Int,v = .int .i64 b∧l[i]? = some b:=by
  intro i v hv
  have hi:i<n:=by rw[←hcl];exact (List.getElem?_eq_some_iff.1 hv).1
  have ht:=hel i hi
  rw[h1,Nat.mul_one] at ht
  have hi2:i<xs.length:=by rw[hxn];exact hi
  rw[List.getElem?_eq_getElem hi2] at ht
  obtain⟨b,hb1,hb2,-⟩:=DataW.trod_int he ht
  have hv2:(cs.drop i).take 1=[v]:=by
   have hlt:=(List.getElem?_eq_some_iff.1 hv).1
   rw[List.drop_eq_getElem_cons hlt,List.take_succ_cons,List.take_zero]
   rw[List.getElem?_eq_getElem hlt] at hv
   rw[Option.some.inj hv]
  rw[hv2] at hb1
  cases hb1
  refine⟨b,rfl,?_⟩
  have hg:=congrArg (λq=>q[i]?) hx2
  simp only[List.getElem?_map,List.getElem?_eq_getElem hi2,Option.map_some,hb2] at hg
  cases hli:l[i]? with
  |none=>rw[hli] at hg;simp at hg
  |some y=>rw[hli] at hg;simp at hg;rw[hg]
 refine⟨Q91 (by simp[hll,hcl]) λi a v ha hv=>?_,λv hv=>?_⟩
 ·obtain⟨b,rfl,hb⟩:=key i v hv
  rw[List.getElem?_map,hb] at ha
  cases ha
  simp only[VR]
 ·obtain⟨i,hi⟩:=List.mem_iff_getElem?.1 hv
  obtain⟨b,rfl,-⟩:=key i v hi
  rfl
end
end Go.Am
namespace Go.Proofs.YtgfhplcmcdimiaaGreatDoor
open Go Go.Am Go.RowKit
set_option linter.unusedVariables false
def lprims:List Str:=[[43],[45],[42],[100,105,118],[109,111,100],[61],[60,62],[60],[60,61]]
def llevels:List Int:=[9,9,9,9,9,0,8,9,0,0,9,2,0,5,4,3,8,8,1,8,9]
theorem Qit:glob0=lprims.map AV.str:=by kernel_rfl
theorem Qhb:glob1=llevels.map (AV.int .i64):=by kernel_rfl
theorem Qiv:glob2=lwords.map AV.str:=by kernel_rfl
theorem Qiu:glob3=lsigns.map AV.str:=by kernel_rfl
def laidL : List (String × DataW Unit) := [("camlet/lex.words", Rows.laid_camlet_lex_words), ("camlet/lex.signs", Rows.laid_camlet_lex_signs), ("camlet/show.levels", Rows.laid_camlet_show_levels), ("camlet/show.prims", Rows.laid_camlet_show_prims)]
theorem gWords : Tryz.prog.globalNamed "camlet/lex.words" = some 2 := by kernel_rfl
theorem gSigns : Tryz.prog.globalNamed "camlet/lex.signs" = some 3 := by kernel_rfl
theorem gLevels : Tryz.prog.globalNamed "camlet/show.levels" = some 1 := by kernel_rfl
theorem gPrims : Tryz.prog.globalNamed "camlet/show.prims" = some 0 := by kernel_rfl
theorem Qjv{W:World}(h:laidMetH Tryz.prog laidL W):∀ (g:Nat) (l:List AV),C.glob g=some l→VR (kn0 W) (.cp l) (.pointer (some ⟨g,0,none⟩)):=by
 rw[MakeChecks.laidMetH_plain _ _ _ (by kernel_rfl)] at h
 obtain⟨ps,⟨g2,t2,cs2,f2,p2,q2,hg2,ht2,hv2,hd2,⟨g3,t3,cs3,f3,p3,q3,hg3,ht3,hv3,hd3,⟨g1,t1,cs1,f1,p1,q1,hg1,ht1,hv1,hd1,⟨g0,t0,cs0,f0,p0,q0,hg0,ht0,hv0,hd0,_,_⟩,_⟩,_⟩,_⟩,_,_⟩:=h
 obtain rfl:=Option.some.inj (gWords.symm.trans hg2)
 obtain rfl:=Option.some.inj (gSigns.symm.trans hg3)
 obtain rfl:=Option.some.inj (gLevels.symm.trans hg1)
 obtain rfl:=Option.some.inj (gPrims.symm.trans hg0)
 obtain rfl:=Option.some.inj ((show (Tryz.prog.globals[2]?).map (·.type)=some 205 by kernel_rfl).symm.trans ht2)
 obtain rfl:=Option.some.inj ((show (Tryz.prog.globals[3]?).map (·.type)=some 206 by kernel_rfl).symm.trans ht3)
 obtain rfl:=Option.some.inj ((show (Tryz.prog.globals[1]?).map (·.type)=some 181 by kernel_rfl).symm.trans ht1)
 obtain rfl:=Option.some.inj ((show (Tryz.prog.globals[0]?).map (·.type)=some 152 by kernel_rfl).symm.trans ht0)
 intro g l hg
 have w0:=Q9X (n:=9) (t:=152) (e:=Q1) (by kernel_rfl) (by kernel_rfl) (by kernel_rfl) (by kernel_rfl) hd0 lprims (by kernel_rfl) (kn0 W)
 have w1:=QjB (n:=21) (t:=181) (e:=Q2) (by kernel_rfl) (by kernel_rfl) (by kernel_rfl) (by kernel_rfl) hd1 llevels (by kernel_rfl) (kn0 W)
 have w2:=Q9X (n:=24) (t:=205) (e:=Q1) (by kernel_rfl) (by kernel_rfl) (by kernel_rfl) (by kernel_rfl) hd2 lwords (by kernel_rfl) (kn0 W)
 have w3:=Q9X (n:=19) (t:=206) (e:=Q1) (by kernel_rfl) (by kernel_rfl) (by kernel_rfl) (by kernel_rfl) hd3 lsigns (by kernel_rfl) (kn0 W)
 have hc0:=World.var?_cell hg0 hv0
 have hc1:=World.var?_cell hg1 hv1
 have hc2:=World.var?_cell hg2 hv2
 have hc3:=World.var?_cell hg3 hv3
 change (bif Nat.beq g 0 then some glob0 else bif Nat.beq g 1 then some glob1 else bif Nat.beq g 2 then some glob2 else bif Nat.beq g 3 then some glob3 else none)=some l at hg
 cases h0:Nat.beq g 0 with
 |true=>
   rw[h0] at hg
   cases hg
   obtain rfl:=Nat.eq_of_beq_eq_true h0
   rw[Qit]
   simp only[VR]
   exact⟨⟨0,0,none⟩,cs0.toList,rfl,rfl,λj u hj=>by
    simp only[kn0,Nat.zero_add]
    rw[hc0,←Array.getElem?_toList];exact hj,w0.2,w0.1⟩
 |false=>
   rw[h0] at hg
   cases h1:Nat.beq g 1 with
   |true=>
     rw[h1] at hg
     cases hg
     obtain rfl:=Nat.eq_of_beq_eq_true h1
     rw[Qhb]
     simp only[VR]
     exact⟨⟨1,0,none⟩,cs1.toList,rfl,rfl,λj u hj=>by
      simp only[kn0,Nat.zero_add]
      rw[hc1,←Array.getElem?_toList];exact hj,w1.2,w1.1⟩
   |false=>
     rw[h1] at hg
     cases h2:Nat.beq g 2 with
     |true=>
       rw[h2] at hg
       cases hg
       obtain rfl:=Nat.eq_of_beq_eq_true h2
       rw[Qiv]
       simp only[VR]
       exact⟨⟨2,0,none⟩,cs2.toList,rfl,rfl,λj u hj=>by
        simp only[kn0,Nat.zero_add]
        rw[hc2,←Array.getElem?_toList];exact hj,w2.2,w2.1⟩
     |false=>
       rw[h2] at hg
       cases h3:Nat.beq g 3 with
       |true=>
         rw[h3] at hg
         cases hg
         obtain rfl:=Nat.eq_of_beq_eq_true h3
         rw[Qiu]
         simp only[VR]
         exact⟨⟨3,0,none⟩,cs3.toList,rfl,rfl,λj u hj=>by
          simp only[kn0,Nat.zero_add]
          rw[hc3,←Array.getElem?_toList];exact hj,w3.2,w3.1⟩
       |false=>
         rw[h3] at hg
         cases hg
end Go.Proofs.YtgfhplcmcdimiaaGreatDoor
set_option linter.unusedSimpArgs false
set_option linter.unusedVariables false
namespace Go.Proofs.YtgfhplcmcdimiaaGreatDoor
open Go Go.Proofs Go.Am Go.RowKit
theorem globOK {L : List (String × DataW Unit)} {W : World} (h : laidMetH Tryz.prog L W) (hs : W.ShapedOpen Tryz.prog) (e : (L.filter fun x => x.1 == "camlet/lex.words" || x.1 == "camlet/lex.signs" || x.1 == "camlet/show.levels" || x.1 == "camlet/show.prims") = laidL := by kernel_rfl) : GlobOK C (kn0 W) := by
 refine⟨Qjv (e ▸ h.filter _),λg hg=>?_⟩
 obtain rfl:g=4:=by simpa [C] using hg
 exact Tryz.laysM144.s1_3 W hs
end Go.Proofs.YtgfhplcmcdimiaaGreatDoor
namespace Go.Proofs.YtgfhplcmcdimiaaGreatDoor
open Go Go.Am
set_option linter.unusedVariables false
theorem Qix(x:Str)(L:List Str)(hl:L.length<2^62):∀ (suf pre:List Str) (s:St) (i:Nat),pre++suf=L→i=pre.length→
  ∃ k:Int,QY (.val (.sl (L.map .str))) (.val (.str x)) (.val (.int .i64 L.length)) (.val (.int .i64 (i:Int))) s=some (.ret (.val (.int .i64 k)),s)∧decide (k≥0)=hasL suf x:=by
 intro suf
 induction suf with
 |nil=>
   intro pre s i h hi
   rw[List.append_nil] at h
   subst h hi
   rw[Q0D]
   simp only[go_sem,Int.reduceNeg,Int.lt_irrefl]
   exact⟨-1,rfl,rfl⟩
 |cons c suf ih=>
   intro pre s i h hi
   subst hi
   obtain⟨f1,f2,f3⟩:=Q9 (f:=AV.str) (x:=.val (.sl (L.map .str))) (sz:=1) rfl h hl rfl (by decide)
   obtain⟨k,h1,h2⟩:=ih (pre++[c]) s (pre.length+1) (by simp[h]) (by simp)
   rw[Q0D]
   simp only[go_sem,Int.reduceNeg,Nat.reduceAdd,Nat.reduceLeDiff,f1,f2,f3]
   rw[h1]
   simp only[hasL,List.any_cons]
   by_cases hx:x=c
   ·subst hx
    simp only[go_sem,Int.reduceNeg]
    exact⟨_,rfl,by simp⟩
   ·simp only[go_sem,hx]
    exact⟨k,rfl,h2⟩
theorem Q95(x:Str)(L:List Str)(hl:L.length<2^62)(s:St):cw (.f QD) [.sl (L.map .str),.str x] s=some (.ret (.val (.bool (hasL L x))),s):=by
 rw[Q3G]
 obtain⟨k,h1,h2⟩:=Qix x L hl L [] s 0 rfl rfl
 have hi:cw (.f Zb) [.sl (L.map .str),.str x] s=some (.ret (.val (.int .i64 k)),s):=by
  rw[Q4R]
  simp only[go_sem,Int.reduceNeg]
  exact h1
 simp only[go_sem,hi,h2]
end Go.Proofs.YtgfhplcmcdimiaaGreatDoor
namespace Go.Am
open Go
def tvar(n:Int):Ty:=.mk 1 n [] [] true
mutual
def ownTy:Ty→Ty
 |.mk k n s l _=>.mk k n s (ownTys l) true
def ownTys:List Ty→List Ty
 |[]=>[]
 |t::l=>ownTy t::ownTys l
end
def ofTy(name:Str)(l:List Ty):Ty:=.mk 2 0 name (l.map ownTy) true
section
variable {σ:Type} (to:Int→σ→Ty × σ)
end
def givenB(nm:Str):Int × Int × Bool:=
 bif decide (nm=[105,110,116]) || decide (nm=[98,111,111,108]) || decide (nm=[117,110,105,116]) || decide (nm=[101,120,110]) then (0,0,true) else
 bif decide (nm=[114,101,102]) then (1,1,true) else bif decide (nm=[45,62]) then (2,2,true) else bif decide (nm=[42]) then (2,8,true) else (0,8,false)
def goodC(k n:Int)(nm:Str)(len:Int)(low:Bool):Bool:=
 bif decide (k=1) then decide (n≥0)&&decide (nm=[])&&decide (len=0)
 else bif decide (k=2) then decide (n=0)&&decide (len≥(givenB nm).1)&&decide (len≤(givenB nm).2.1)&&((givenB nm).2.2 || low)
 else false
def goodB(t:Ty):Bool:=goodC t.kind t.n t.name t.args.length (lowB t.name)
mutual
def allTy(p:Ty→Bool):Ty→Bool
 |.mk k n s l b=>p (.mk k n s l b)&&allTys p l
def allTys(p:Ty→Bool):List Ty→Bool
 |[]=>true
 |t::l=>allTy p t&&allTys p l
end
section
variable {σ:Type} (to:Int→σ→Ty × σ)
end
end Go.Am
namespace Go.Proofs.YtgfhplcmcdimiaaGreatDoor
open Go Go.Am
set_option linter.unusedVariables false
theorem Q7L(n:Int)(s:St):cw (.f Q4A) [.int .u8 n] s=some (.ret (.val (.bool (smallB n))),s):=by
 rw[Qfg];simp only[go_sem];rfl
theorem Q7J(n:Int)(s:St):cw (.f Q4x) [.int .u8 n] s=some (.ret (.val (.bool (greatB n))),s):=by
 rw[Qfc];simp only[go_sem];rfl
theorem Q7K(n:Int)(s:St):cw (.f Q4y) [.int .i64 n] s=some (.ret (.val (.bool (isIntB n))),s):=by
 rw[Qfd];simp only[go_sem,Int.reduceNeg];rfl
theorem Qff(l:Str)(pre:Str):∀ (suf:Str) (s:St),pre++suf=l→l.length<2^62→Q3H (.val (.str l)) (.val (.int .i64 pre.length)) s=some (.ret (.val (.bool (restAll suf&&decide (l.length≤32)))),s):=by
 intro suf
 induction suf generalizing pre with
 |nil=>
   intro s h hl
   rw[List.append_nil] at h
   subst h
   rw[Q8o];simp only[Qfl,Qfj,Q8J Z4,Q6F,Q8v,Q6G]
   rw[Qd2 (by simp)]
   simp only[go_sem]
   simp[restAll]
   omega
 |cons c suf ih=>
   intro s h hl
   have hc:l[pre.length]? = some c:=by rw[←h];simp
   have hlt:pre.length<l.length:=by rw[←h];simp
   have:=ih (pre++[c]) s (by simp[h]) hl
   rw[Q8o]
   simp only[Qfl,Qfj,Q8J Z4,Q6F,Q8v,Q6G]
   rw[Qd3 (by simpa using hlt),Q8E Z4 hc]
   simp only[go_sem,Q7L,Q7J]
   rw[wrap64 (by omega) (by omega)]
   have e:(pre.length:Int)+1=((pre++[c]).length:Int):=by simp
   rw[e,this]
   simp only[go_sem,restAll,List.all_cons,unrestB]
   cases (!smallB c.toNat && !greatB c.toNat&&(decide ((c.toNat:Int)<48) || decide ((c.toNat:Int)>57)) && !decide ((c.toNat:Int)=39)) <;> simp
theorem Q9h(l:Str)(s:St)(h0:l≠[])(hl:l.length<2^62):cw (.f Q4z) [.str l] s=some (.ret (.val (.bool (runB l))),s):=by
 rw[Qht]
 cases l with
 |nil=>exact absurd rfl h0
 |cons c l=>exact Qff (c::l) [c] l s rfl hl
theorem Q8l(a b:Str)(s:St)(h:a.length<4294967281):cw (.f Q2R) [.str a,.str b] s=some (.ret (.val (.bool (Go.Lib.contains a b))),s):=by
 have e:C.ext Q2R=some (pureX extContains):=by kernel_rfl
 rw[cw,Q5];unfold callR;rw[e];simp[pureX,extContains,h]
theorem Q6v(l:Str)(s:St)(hl:l.length<2^62):cw (.f Q3d) [.str l] s=some (.ret (.val (.bool (capB l))),s):=by
 rw[QcC]
 by_cases h0:l=[]
 ·subst h0;simp only[go_sem];rfl
 ·simp only[go_sem,h0,Q7J,not_false_eq_true,Q7W Z4 h0,Q9h l s h0 hl]
  simp[capB,h0,headB]
theorem Q4i(l:Str)(s:St)(hl:l.length<2^62):cw (.f Q15) [.str l] s=some (.ret (.val (.bool (conB l))),s):=by
 rw[Q9k]
 simp only[go_sem,Q6v l s hl]
 rfl
theorem Q2t(l:Str)(s:St)(hl:l.length<2^62):cw (.f Q2a) [.str l] s=some (.ret (.val (.bool (lowB l))),s):=by
 rw[Qhs]
 by_cases h0:l=[]
 ·subst h0;simp only[go_sem];rfl
 ·have hk:QbM=wordsS:=by decide +kernel
  have hc:=λb s=>Q8l wordsS b s (by decide +kernel)
  simp only[go_sem,h0,Q7L,not_false_eq_true,Q7W Z4 h0,Q9h l s h0 hl,QdK (C.ti Q1) [32] l (by simp;omega),QdK (C.ti Q1) (32::l) [32] (by simp;omega),hk,hc]
  simp[lowB,h0,headB,Bool.and_assoc]
end Go.Proofs.YtgfhplcmcdimiaaGreatDoor
namespace Go.Proofs.YtgfhplcmcdimiaaGreatDoor
open Go Go.Am
set_option linter.unusedVariables false
set_option maxRecDepth 4000
theorem QaB(t:Ty)(s:St)(hn:t.name.length<2^62):cw (.f Q1G) [t.enc] s=some (.ret (.val (.int .i64 (wrongTyB t))),s):=by
 obtain⟨k,n,nm,l,nl⟩:=t
 rw[QcI]
 simp only[go_sem,Nat.reduceAdd,Nat.reduceLeDiff,Qaa,Qab,Q2t nm _ hn]
 show _=some (Out.ret (.val (.int .i64 (wrongTyC k n nm l.length))),s)
 delta wrongTyC tyLM
 generalize decide (nm=[105,110,116])=x1
 generalize decide (nm=[98,111,111,108])=x2
 generalize decide (nm=[117,110,105,116])=x3
 generalize decide (nm=[101,120,110])=x4
 generalize decide (nm=[114,101,102])=x5
 generalize decide (nm=[45,62])=x6
 generalize decide (nm=[42])=x7
 generalize lowB nm=x8
 cases x1 <;> cases x2 <;> cases x3 <;> cases x4 <;> cases x5 <;> cases x6 <;> cases x7 <;> cases x8 <;> rfl
theorem Qa9(t:Pat)(s:St)(hn:t.name.length<2^62):cw (.f Q2I) [t.enc] s=some (.ret (.val (.int .i64 (wrongPatB t))),s):=by
 obtain⟨k,a,nm,n,l,nl⟩:=t
 rw[QbI]
 have hk:k=1∨k=2∨k=3∨k=4∨k=5∨k=6∨(k<1∨k>6):=by omega
 rcases hk with rfl | rfl | rfl | rfl | rfl | rfl | hk
 rotate_left 6
 ·simp only[go_sem,Nat.reduceAdd,decide_eq_false (show ¬ k=1 by omega),decide_eq_false (show ¬ k=2 by omega),decide_eq_false (show ¬ k=3 by omega),decide_eq_false (show ¬ k=4 by omega),decide_eq_false (show ¬ k=5 by omega),decide_eq_false (show ¬ k=6 by omega)]
  have:(decide (k<1) || decide (k>6))=true:=by simpa using hk
  have e:wrongPatB (Pat.mk k a nm n l nl)=29:=by
   show (bif (decide (k<1) || decide (k>6)) then (29:Int) else _)=29
   rw[this];rfl
  rw[e]
 all_goals
  simp only[go_sem,Int.reduceEq,Int.reduceGT,Int.reduceLT,Nat.reduceAdd,Nat.reduceLeDiff,Q9o,Q2t nm _ hn,Q4i nm _ hn,Q7K,wrongPatB,patLM,Pat.kind,Pat.name,Pat.n,Pat.kids]
  try rfl
theorem Qa6(c:Con)(s:St)(hn:c.name.length<2^62):cw (.f Q4B) [c.enc] s=some (.ret (.val (.int .i64 (wrongConB c))),s):=by
 rw[QbG]
 simp only[go_sem,Nat.reduceAdd,Nat.reduceLeDiff,Con.cells,Ty.cells_eq,Q6v _ _ hn]
 rfl
theorem Qa8(e:Exp)(s:St)(hn:e.name.length<2^62):cw (.f Q4C) [e.enc] s=some (.ret (.val (.int .i64 (wrongExpB e))),s):=by
 obtain⟨k,a,nm,n,l,lb,c,cb,d,db⟩:=e
 rw[QbH]
 have hk:k=1∨k=2∨k=3∨k=4∨k=5∨k=6∨k=7∨k=8∨k=9∨k=10∨k=11∨k=12∨k=13∨k=14∨k=15∨k=16∨k=17∨k=18∨k=19∨k=20∨(k<1∨k>20):=by omega
 rcases hk with rfl | rfl | rfl | rfl | rfl | rfl | rfl | rfl | rfl | rfl | rfl | rfl | rfl | rfl | rfl | rfl | rfl | rfl | rfl | rfl | hk
 rotate_left 20
 ·simp only[go_sem,Nat.reduceAdd,Nat.reduceLeDiff,Q8n,decide_eq_false (show ¬ k=1 by omega),decide_eq_false (show ¬ k=2 by omega),decide_eq_false (show ¬ k=3 by omega),decide_eq_false (show ¬ k=4 by omega),decide_eq_false (show ¬ k=5 by omega),decide_eq_false (show ¬ k=6 by omega),decide_eq_false (show ¬ k=7 by omega),decide_eq_false (show ¬ k=8 by omega),decide_eq_false (show ¬ k=9 by omega),decide_eq_false (show ¬ k=10 by omega),decide_eq_false (show ¬ k=11 by omega),decide_eq_false (show ¬ k=12 by omega),decide_eq_false (show ¬ k=13 by omega),decide_eq_false (show ¬ k=14 by omega),decide_eq_false (show ¬ k=15 by omega),decide_eq_false (show ¬ k=16 by omega),decide_eq_false (show ¬ k=17 by omega),decide_eq_false (show ¬ k=18 by omega),decide_eq_false (show ¬ k=19 by omega),decide_eq_false (show ¬ k=20 by omega)]
  have h:(decide (k<1) || decide (k>20))=true:=by simpa using hk
  have e:wrongExpB (Exp.mk k a nm n l lb c cb d db)=29:=by
   show (bif (decide (k<1) || decide (k>20) || _ || _ || _ || _ || _) then (29:Int) else _)=29
   rw[h];rfl
  rw[e]
 all_goals
  simp only[go_sem,Int.reduceEq,Int.reduceGT,Int.reduceLT,Nat.reduceAdd,Nat.reduceLeDiff,Q8n,Q2t nm _ hn,Q4i nm _ hn,Q7K,wrongExpB,expLM,Exp.kind,Exp.name,Exp.n,Exp.kids,Exp.cases,Exp.decs]
  try rfl
theorem Qa7(d:Dec)(inn:Bool)(a:Int)(r:List AV)(s:St)(hn:d.name.length<2^62):cw (.f Q0g) [.agg [.cp (d.cells++r),.bool inn,.nilp,.nilp,.nilp,.nilp,.nilp,.int .i64 a]] s=some (.ret (.val (.int .i64 (wrongDecB d inn))),s):=by
 obtain⟨k,at_,nm,p,l,nb,c,cb,f,fb⟩:=d
 rw[Q82]
 simp only[go_sem,Nat.reduceAdd,Q2t nm _ hn,Q6L]
 show _=some (Out.ret (.val (.int .i64 (wrongDecC k nm p l.length c.length f.length inn))),s)
 delta wrongDecC
 generalize decide (k=1)=x1
 generalize decide (k=2)=x2
 generalize decide (k=3)=x3
 generalize decide (k=4)=x4
 cases x1 <;> cases x2 <;> cases x3 <;> cases x4 <;> rfl
end Go.Proofs.YtgfhplcmcdimiaaGreatDoor
namespace Go.Proofs.YtgfhplcmcdimiaaGreatDoor
open Go Go.Am
set_option linter.unusedVariables false
set_option maxRecDepth 4000
theorem Q8W(nd:TNode)(r:List AV)(s:St):cw (.f Q3q) [nd.thing r] s=some (.ret (.val (.bool nd.isNode)),s):=by
 rw[Qa5]
 cases nd <;> simp only[go_sem,Nat.reduceAdd,TNode.thing,TNode.isNode]
theorem Q8p(nd:TNode)(r:List AV)(s:St)(h:nd.name.length<2^40):cw (.f Q16) [nd.thing r] s=some (.ret (.val nd.bad.enc),s):=by
 rw[Q9l]
 have key:∀ (e a:Int) (nm:Str) (v:List Slot) (s:St),v.getD 7 .und = .val (.int .i64 a)→v.length=8→QH v [.val (.int .i64 0),.val (.int .i64 0),.val (.str [])] (.val (.int .i64 e)) (.val (.str nm)) s=some (.ret (.val (mkBad e a nm).enc),s):=by
  intro e a nm v s hv hl
  have hd:(v.drop 7).take 1=[.val (.int .i64 a)]:=by
   match v,hl with
   |[_,_,_,_,_,_,_,x],_=>simpa using hv
  rw[Q83]
  by_cases h0:e=0
  ·subst h0
   simp only[go_sem,Int.reduceEq,Nat.reduceAdd,Nat.reduceLeDiff,hd]
   rfl
  ·by_cases h8:e=8
   ·subst h8
    simp only[go_sem,Int.reduceEq,Nat.reduceAdd,Nat.reduceLeDiff,hd]
    rfl
   ·simp only[go_sem,Nat.reduceAdd,Nat.reduceLeDiff,hd,decide_eq_false h0,decide_eq_false h8,mkBad]
    rfl
 cases nd with
 |dec inn d=>
   have hn:d.name.length<2^62:=by simp only[TNode.name] at h;omega
   have hw:=λs=>Qa7 d inn d.at_ r s hn
   obtain⟨k,a,nm,p,l,nb,c,cb,f,fb⟩:=d
   simp only[go_sem,Exp.enc,Pat.enc,Ty.enc,Dec.enc] at hw
   simp only[go_sem,Nat.reduceAdd,Nat.reduceLeDiff,TNode.thing,hw]
   exact key _ _ _ _ _ rfl rfl
 |exp e=>
   have hn:e.name.length<2^62:=by simp only[TNode.name] at h;omega
   have hw:=λs=>Qa8 e s hn
   obtain⟨k,a,nm,n,l,lb,c,cb,d,db⟩:=e
   simp only[go_sem,Exp.enc,Pat.enc,Ty.enc,Dec.enc] at hw
   simp only[go_sem,Nat.reduceAdd,Nat.reduceLeDiff,TNode.thing,hw]
   exact key _ _ _ _ _ rfl rfl
 |pat e=>
   have hn:e.name.length<2^62:=by simp only[TNode.name] at h;omega
   have hw:=λs=>Qa9 e s hn
   obtain⟨k,a,nm,n,l,lb⟩:=e
   simp only[go_sem,Exp.enc,Pat.enc,Ty.enc,Dec.enc] at hw
   simp only[go_sem,Nat.reduceAdd,Nat.reduceLeDiff,TNode.thing,hw]
   exact key _ _ _ _ _ rfl rfl
 |ty e a=>
   have hn:e.name.length<2^62:=by simp only[TNode.name] at h;omega
   have hw:=λs=>QaB e s hn
   obtain⟨k,n,nm,l,lb⟩:=e
   simp only[go_sem,Exp.enc,Pat.enc,Ty.enc,Dec.enc] at hw
   simp only[go_sem,Nat.reduceAdd,Nat.reduceLeDiff,TNode.thing,hw]
   exact key _ _ _ _ _ rfl rfl
 |fn f=>
   have hn:f.name.length<2^62:=by simp only[TNode.name] at h;omega
   have hw:=λs=>Q2t f.name s hn
   obtain⟨nm,a,c⟩:=f
   simp only[Fun.name] at hw
   have k0:=λv s h1 h2=>key 0 a nm v s h1 h2
   have k8:=λv s h1 h2=>key 8 a nm v s h1 h2
   simp only[go_sem,Nat.reduceAdd,Nat.reduceLeDiff,TNode.thing,hw,Fun.at_]
   show _=some (Out.ret (.val (mkBad (bif !lowB nm then 8 else 0) a nm).enc),s)
   cases lowB nm
   ·simp only[go_sem];exact key 8 a nm _ s rfl rfl
   ·simp only[go_sem];exact key 0 a nm _ s rfl rfl
 |con c=>
   have hn:c.name.length<2^62:=by simp only[TNode.name] at h;omega
   have hw:=λs=>Qa6 c s hn
   obtain⟨nm,a,hs,arg⟩:=c
   simp only[go_sem,Con.enc,Con.cells] at hw
   simp only[go_sem,Nat.reduceAdd,Nat.reduceLeDiff,TNode.thing,Con.cells,hw]
   exact key _ _ _ _ _ rfl rfl
end Go.Proofs.YtgfhplcmcdimiaaGreatDoor
namespace Go.Proofs.YtgfhplcmcdimiaaGreatDoor
open Go Go.Am
set_option linter.unusedVariables false
set_option maxRecDepth 4000
theorem Q7m(L:List Ty)(x:Slot)(hx:x.list? = some (L.map Ty.enc))(hl:L.length<2^40):∀ (suf pre:List Ty) (n:Int) (s:St) (i:Nat),pre++suf=L→i=pre.length→(∀ t ∈ suf,∀ s,cw (.f Q0Z) [t.enc] s=some (.ret (.val (.int .i64 (deepTy t))),s))→0≤n→n<2^40→Ty.sizes suf<2^40→
  Q25 (.val (.int .i64 n)) x (.val (.int .i64 L.length)) (.val (.int .i64 i)) s=some (.ret (.val (.int .i64 (deepTys suf n+1))),s)
 |[],pre,n,s,i,h,hi,H,h0,h1,h2=>by
   subst hi
   rw[Q6z];simp only[go_sem,Qa (by simpa using h)]
   rw[wrap64 (by omega) (by omega)];rfl
 |t::suf,pre,n,s,i,h,hi,H,h0,h1,h2=>by
   subst hi
   obtain⟨f1,f2,f3⟩:=Q9 hx h (by omega) (Ty.cells_len t) (by decide)
   have ht:=Q4b t
   have hm:=QV n (deepTy t) (2^40 - 1)
   have hn:=QU n (deepTy t)
   simp only[Ty.sizes] at h2
   rw[Q6z];simp only[go_sem,Nat.reduceAdd,Nat.reduceLeDiff,f1,f2,f3,H t (List.mem_cons_self)]
   exact Q7m L x hx hl suf (pre++[t]) _ s _ (by simpa using h) (by simp) (λu hu=>H u (List.mem_cons_of_mem _ hu)) (by omega) (by omega) (by omega)
theorem Q7n:∀ (m:Nat) (t:Ty) (s:St),t.size≤m→t.size<2^40→cw (.f Q0Z) [t.enc] s=some (.ret (.val (.int .i64 (deepTy t))),s)
 |0,.mk _ _ _ _ _,_,h,_=>by simp only[Ty.size] at h;omega
 |m+1,.mk k n nm l nl,s,h,h'=>by
   simp only[Ty.size] at h h'
   have hl:=Ty.len_sizes l
   rw[QdD];simp only[go_sem,Nat.reduceAdd,Nat.reduceLeDiff,Ty.enc]
   exact Q7m l _ (by simp only[go_sem]) (by omega) l [] 0 s 0 rfl rfl (λu hu s=>by have:=Ty.mem_sizes hu;exact Q7n m u s (by omega) (by omega)) (by omega) (by omega) (by omega)
theorem Q6y(L:List Pat)(x:Slot)(hx:x.list? = some (L.map Pat.enc))(hl:L.length<2^40):∀ (suf pre:List Pat) (n:Int) (s:St) (i:Nat),pre++suf=L→i=pre.length→(∀ t ∈ suf,∀ s,cw (.f Q02) [t.enc] s=some (.ret (.val (.int .i64 (deepPat t))),s))→0≤n→n<2^40→Pat.sizes suf<2^40→
  Q1l (.val (.int .i64 n)) x (.val (.int .i64 L.length)) (.val (.int .i64 i)) s=some (.ret (.val (.int .i64 (deepPats suf n+1))),s)
 |[],pre,n,s,i,h,hi,H,h0,h1,h2=>by
   subst hi
   rw[Q67];simp only[go_sem,Qa (by simpa using h)]
   rw[wrap64 (by omega) (by omega)];rfl
 |t::suf,pre,n,s,i,h,hi,H,h0,h1,h2=>by
   subst hi
   obtain⟨f1,f2,f3⟩:=Q9 hx h (by omega) (Pat.cells_len t) (by decide)
   have ht:=Q0x t
   have hm:=QV n (deepPat t) (2^40 - 1)
   have hn:=QU n (deepPat t)
   simp only[Pat.sizes] at h2
   rw[Q67];simp only[go_sem,Nat.reduceAdd,Nat.reduceLeDiff,f1,f2,f3,H t (List.mem_cons_self)]
   exact Q6y L x hx hl suf (pre++[t]) _ s _ (by simpa using h) (by simp) (λu hu=>H u (List.mem_cons_of_mem _ hu)) (by omega) (by omega) (by omega)
theorem Q3t:∀ (m:Nat) (t:Pat) (s:St),t.size≤m→t.size<2^40→cw (.f Q02) [t.enc] s=some (.ret (.val (.int .i64 (deepPat t))),s)
 |0,.mk _ _ _ _ _ _,_,h,_=>by simp only[Pat.size] at h;omega
 |m+1,.mk k a nm n l nl,s,h,h'=>by
   simp only[Pat.size] at h h'
   have hl:=Pat.len_sizes l
   rw[QcF];simp only[go_sem,Nat.reduceAdd,Nat.reduceLeDiff,Pat.enc]
   exact Q6y l _ (by simp only[go_sem]) (by omega) l [] 0 s 0 rfl rfl (λu hu s=>by have:=Pat.mem_sizes hu;exact Q3t m u s (by omega) (by omega)) (by omega) (by omega) (by omega)
def deepExpOK(t:Exp):Prop:=∀ s,cw (.f Q01) [t.enc] s=some (.ret (.val (.int .i64 (deepExp t))),s)
def deepCasesOK(l:List Case):Prop:=∀ (v:AV) (s:St),(Slot.val v).list? = some (l.map Case.enc)→cw (.f ZC) [v] s=some (.ret (.val (.int .i64 (deepCases l 0))),s)
def deepDecsOK(l:List Dec):Prop:=∀ (v:AV) (s:St),(Slot.val v).list? = some (l.map Dec.enc)→cw (.f Zp) [v] s=some (.ret (.val (.int .i64 (deepDecs l 0))),s)
theorem Q6x(L:List Exp)(x:Slot)(hx:x.list? = some (L.map Exp.enc))(hl:L.length<2^40):∀ (suf pre:List Exp) (n:Int) (s:St) (i:Nat),pre++suf=L→i=pre.length→(∀ t ∈ suf,deepExpOK t)→0≤n→n<2^40→Exp.sizes suf<2^40→
  Q1k (.val (.int .i64 n)) x (.val (.int .i64 L.length)) (.val (.int .i64 i)) s=some (.ret (.val (.int .i64 (deepExps suf n+1))),s)
 |[],pre,n,s,i,h,hi,H,h0,h1,h2=>by
   subst hi
   rw[Q66];simp only[go_sem,Qa (by simpa using h)]
   rw[wrap64 (by omega) (by omega)];rfl
 |t::suf,pre,n,s,i,h,hi,H,h0,h1,h2=>by
   subst hi
   obtain⟨f1,f2,f3⟩:=Q9 hx h (by omega) (Exp.cells_len t) (by decide)
   have ht:=Q0w t
   have hm:=QV n (deepExp t) (2^40 - 1)
   have hn:=QU n (deepExp t)
   simp only[Exp.sizes] at h2
   rw[Q66];simp only[go_sem,Nat.reduceAdd,Nat.reduceLeDiff,f1,f2,f3,H t (List.mem_cons_self) s]
   exact Q6x L x hx hl suf (pre++[t]) _ s _ (by simpa using h) (by simp) (λu hu=>H u (List.mem_cons_of_mem _ hu)) (by omega) (by omega) (by omega)
theorem Q2E(L:List Case)(x:Slot)(hx:x.list? = some (L.map Case.enc))(hl:L.length<2^40):∀ (suf pre:List Case) (n:Int) (s:St) (i:Nat),pre++suf=L→i=pre.length→(∀ t ∈ suf,deepExpOK t.exp)→0≤n→n<2^40→Case.sizes suf<2^40→
  Q0u (.val (.int .i64 n)) x (.val (.int .i64 L.length)) (.val (.int .i64 i)) s=some (.ret (.val (.int .i64 (deepCases suf n))),s)
 |[],pre,n,s,i,h,hi,H,h0,h1,h2=>by
   subst hi
   rw[Q4T];simp only[go_sem,Qa (by simpa using h)];rfl
 |.mk p e::suf,pre,n,s,i,h,hi,H,h0,h1,h2=>by
   subst hi
   obtain⟨f1,f2,f3⟩:=Q9 hx h (by omega) (Case.cells_len (.mk p e)) (by decide)
   have ht:=Q0w e
   have hp:=Q0x p
   simp only[Case.sizes,Case.size] at h2
   have h4:=QU n (deepPat p)
   have h5:=QU (maxI n (deepPat p)) (deepExp e)
   have h6:=QV n (deepPat p) (2^40 - 1) (by omega) (by omega)
   have h7:=QV (maxI n (deepPat p)) (deepExp e) (2^40 - 1) (by omega) (by omega)
   have He:deepExpOK e:=H (.mk p e) (List.mem_cons_self)
   rw[Q4T];simp only[go_sem,Nat.reduceAdd,Nat.reduceLeDiff,Nat.reduceSub,f1,f2,f3,Q3t _ p _ (Nat.le_refl _) (show p.size<2^40 by omega),He s]
   exact Q2E L x hx hl suf (pre++[.mk p e]) _ s _ (by simpa using h) (by simp) (λu hu=>H u (List.mem_cons_of_mem _ hu)) (by omega) (by omega) (by omega)
theorem Q24(L:List Con)(x:Slot)(hx:x.list? = some (L.map Con.enc))(hl:L.length<2^40)(y1 x11 x12:Slot)(n0:Int)(j:Nat):∀ (suf pre:List Con) (n:Int) (s:St) (i:Nat),pre++suf=L→i=pre.length→0≤n→n<2^40→Con.sizes suf<2^40→j<2^40→
  Q05 (.val (.int .i64 n0)) (.val (.int .i64 n)) x11 x12 (.val (.int .i64 j)) x (.val (.int .i64 L.length)) (.val (.int .i64 i)) s=ZD (.val (.int .i64 (maxI n0 (deepCons suf n+1)))) x11 x12 (.val (.int .i64 (j+1:Nat))) s
 |[],pre,n,s,i,h,hi,h0,h1,h2,hj=>by
   subst hi
   rw[Q5c];simp only[go_sem,Qa (by simpa using h)]
   rw[wrap64 (n:=n+1) (by omega) (by omega),wrap64 (by omega) (by omega)];rfl
 |c::suf,pre,n,s,i,h,hi,h0,h1,h2,hj=>by
   subst hi
   obtain⟨f1,f2,f3⟩:=Q9 hx h (by omega) (Con.cells_len c) (by decide)
   have ht:=Q4b c.arg
   simp only[Con.sizes,Con.size] at h2
   have hm:=QV n (deepTy c.arg) (2^40 - 1)
   have hn:=QU n (deepTy c.arg)
   obtain⟨nm,a,hs,arg⟩:=c
   dsimp only at ht hm hn h2
   rw[Q5c];simp only[go_sem,Nat.reduceAdd,Nat.reduceLeDiff,f1,f2,f3,Con.cells]
   cases hs with
   |false=>
     simp only[go_sem]
     exact Q24 L x hx hl y1 x11 x12 n0 j suf (pre++[_]) n s _ (by simpa using h) (by simp) (by omega) (by omega) (by omega) hj
   |true=>
     simp only[go_sem,Q7n _ arg _ (Nat.le_refl _) (show arg.size<2^40 by omega)]
     exact Q24 L x hx hl y1 x11 x12 n0 j suf (pre++[_]) _ s _ (by simpa using h) (by simp) (by omega) (by omega) (by omega) hj
theorem Q4j(L:List Fun)(x:Slot)(hx:x.list? = some (L.map Fun.enc))(hl:L.length<2^40)(d:Dec)(x11 x12:Slot)(n0:Int)(j:Nat)(hd:Con.sizes d.cons<2^40):∀ (suf pre:List Fun) (n:Int) (s:St) (i:Nat),pre++suf=L→i=pre.length→(∀ t ∈ suf,deepCasesOK [t.case])→0≤n→n<2^40→Fun.sizes suf<2^40→j<2^40→
  Q0W (.val (.int .i64 n0)) (d.cells.map .val) (.val (.int .i64 n)) x11 x12 (.val (.int .i64 j)) x (.val (.int .i64 L.length)) (.val (.int .i64 i)) s=ZD (.val (.int .i64 (maxI n0 (deepCons d.cons (deepFuns suf n)+1)))) x11 x12 (.val (.int .i64 (j+1:Nat))) s
 |[],pre,n,s,i,h,hi,H,h0,h1,h2,hj=>by
   subst hi
   have hc:=Con.len_sizes d.cons
   rw[Q5b];simp only[go_sem,Qa (by simpa using h),Dec.cells_eq]
   exact Q24 d.cons _ (by simp only[go_sem]) (by omega) x x11 x12 n0 j d.cons [] n s 0 rfl rfl h0 h1 hd hj
 |.mk nm a c::suf,pre,n,s,i,h,hi,H,h0,h1,h2,hj=>by
   subst hi
   obtain⟨f1,f2,f3⟩:=Q9 hx h (by omega) (Fun.cells_len (.mk nm a c)) (by decide)
   have ht:=QaH c
   simp only[Fun.sizes,Fun.size] at h2
   have hm:=QV n (deepCase c) (2^40 - 1)
   have hn:=QU n (deepCase c)
   have hc:∀ s,cw (.f ZC) [.sl [c.enc]] s=some (.ret (.val (.int .i64 (deepCase c))),s):=λs=>by
    rw[H (.mk nm a c) (List.mem_cons_self) (.sl [c.enc]) s (by simp only[go_sem];rfl)]
    obtain⟨p,e⟩:=c
    simp only[Fun.case,deepCases,deepCase]
   rw[Q5b];simp only[go_sem,Nat.reduceAdd,Nat.reduceLeDiff,f1,f2,f3,hc]
   exact Q4j L x hx hl d x11 x12 n0 j hd suf (pre++[_]) _ s _ (by simpa using h) (by simp) (λu hu=>H u (List.mem_cons_of_mem _ hu)) (by omega) (by omega) (by omega) hj
theorem Q36(L:List Dec)(x:Slot)(hx:x.list? = some (L.map Dec.enc))(hl:L.length<2^40):∀ (suf pre:List Dec) (n:Int) (s:St) (i:Nat),pre++suf=L→i=pre.length→(∀ d ∈ suf,deepCasesOK d.case∧∀ f ∈ d.funs,deepCasesOK [f.case])→0≤n→n<2^40→Dec.sizes suf<2^40→
  ZD (.val (.int .i64 n)) x (.val (.int .i64 L.length)) (.val (.int .i64 i)) s=some (.ret (.val (.int .i64 (deepDecs suf n))),s)
 |[],pre,n,s,i,h,hi,H,h0,h1,h2=>by
   subst hi
   rw[Q5a];simp only[go_sem,Qa (by simpa using h)];rfl
 |.mk k a nm p l nb c cb f fb::suf,pre,n,s,i,h,hi,H,h0,h1,h2=>by
   subst hi
   obtain⟨f1,f2,f3⟩:=Q9 hx h (by omega) (Dec.cells_len (.mk k a nm p l nb c cb f fb)) (by decide)
   obtain⟨hC,hF⟩:=H (.mk k a nm p l nb c cb f fb) (List.mem_cons_self)
   simp only[Dec.case,Dec.funs] at hC hF
   simp only[Dec.sizes,Dec.size] at h2
   have g1:=Q1J c 0
   have g2:=Q5D f (deepCases c 0)
   have g3:=Q5C l (deepFuns f (deepCases c 0))
   have g5:=QU n (deepCons l (deepFuns f (deepCases c 0))+1)
   have g6:=QV n (deepCons l (deepFuns f (deepCases c 0))+1) (2^40 - 1) (by omega) (by omega)
   have g7:=Fun.len_sizes f
   have hlen:pre.length<L.length:=by rw[←h];simp
   have hc1:=λs=>hC (encS cb (c.map Case.enc)) s (by simp only[go_sem])
   rw[Q5a];simp only[go_sem,Nat.reduceAdd,Nat.reduceLeDiff,f1,f2,hc1]
   have:=Q4j f (.val (encS fb (f.map Fun.enc))) (by simp only[go_sem]) (by omega) (.mk k a nm p l nb c cb f fb) x (.val (.int .i64 L.length)) n pre.length (by simp only[Dec.cons];omega) f [] (deepCases c 0) s 0 rfl rfl hF (by omega) (by omega) (by omega) (by omega)
   simp only[go_sem,Dec.cons] at this
   rw[show ((0:Nat):Int)=0 from rfl] at this
   rw[this]
   exact Q36 L x hx hl suf (pre++[_]) _ s _ (by simpa using h) (by simp) (λu hu=>H u (List.mem_cons_of_mem _ hu)) (by omega) (by omega) (by omega)
theorem Q9g:∀ m:Nat,(∀ e:Exp,e.size≤m→e.size<2^40→deepExpOK e)∧(∀ l:List Case,Case.sizes l≤m→Case.sizes l<2^40→deepCasesOK l)∧(∀ l:List Dec,Dec.sizes l≤m→Dec.sizes l<2^40→deepDecsOK l):=by
 intro m
 induction m with
 |zero=>
   refine⟨λe h _=>?_,λl h _ v s hv=>?_,λl h _ v s hv=>?_⟩
   ·obtain⟨k,a,nm,n,l,lb,c,cb,d,db⟩:=e
    simp only[Exp.size] at h;omega
   ·cases l with
    |cons c l=>obtain⟨p,e⟩:=c;simp only[Case.sizes,Case.size] at h;omega
    |nil=>
      rw[Q6w];simp only[go_sem,hv]
      exact Q2E [] _ hv (by decide) [] [] 0 s 0 rfl rfl (by simp) (by decide) (by decide) (by simp only[Case.sizes];decide)
   ·cases l with
    |cons c l=>obtain⟨k,a,nm,p,l,nb,c,cb,f,fb⟩:=c;simp only[Dec.sizes,Dec.size] at h;omega
    |nil=>
      rw[Q7l];simp only[go_sem,hv]
      exact Q36 [] _ hv (by decide) [] [] 0 s 0 rfl rfl (by simp) (by decide) (by decide) (by simp only[Dec.sizes];decide)
 |succ m ih=>
   obtain⟨ihE,ihC,ihD⟩:=ih
   have hC:∀ l:List Case,Case.sizes l≤m+1→Case.sizes l<2^40→deepCasesOK l:=λl h h' v s hv=>by
    have:=Case.len_sizes l
    rw[Q6w];simp only[go_sem,hv]
    exact Q2E l _ hv (by omega) l [] 0 s 0 rfl rfl (λt ht=>ihE t.exp (by have:=Case.mem_sizes ht;obtain⟨p,e⟩:=t;simp only[Case.size,Case.exp] at *;omega) (by have:=Case.mem_sizes ht;obtain⟨p,e⟩:=t;simp only[Case.size,Case.exp] at *;omega)) (by decide) (by decide) h'
   refine⟨λe h h' s=>?_,hC,λl h h' v s hv=>?_⟩
   ·obtain⟨k,a,nm,n,l,lb,c,cb,d,db⟩:=e
    simp only[Exp.size] at h h'
    have hl:=Exp.len_sizes l
    have g1:=Q3y d 0
    have g2:=Q1J c 0
    have g3:=QV (deepDecs d 0) (deepCases c 0) (2^40 - 1) (by omega) (by omega)
    have g4:=QU (deepDecs d 0) (deepCases c 0)
    have hD:=λs=>ihD d (by omega) (by omega) (encS db (d.map Dec.enc)) s (by simp only[go_sem])
    have hCc:=λs=>ihC c (by omega) (by omega) (encS cb (c.map Case.enc)) s (by simp only[go_sem])
    rw[QcE];simp only[go_sem,Nat.reduceAdd,Nat.reduceLeDiff,Exp.enc,hD,hCc]
    exact Q6x l _ (by simp only[go_sem]) (by omega) l [] _ s 0 rfl rfl (λt ht=>ihE t (by have:=Exp.mem_sizes ht;omega) (by have:=Exp.mem_sizes ht;omega)) (by omega) (by omega) (by omega)
   ·have:=Dec.len_sizes l
    rw[Q7l];simp only[go_sem,hv]
    refine Q36 l _ hv (by omega) l [] 0 s 0 rfl rfl (λt ht=>?_) (by decide) (by decide) h'
    have h1:=Dec.mem_sizes ht
    obtain⟨k,a,nm,p,l,nb,c,cb,f,fb⟩:=t
    simp only[Dec.size] at h1
    refine⟨ihC c (by omega) (by omega),λg hg=>?_⟩
    have h2:=Fun.mem_sizes hg
    obtain⟨nm,a,c'⟩:=g
    simp only[Dec.funs,Fun.size] at h2
    exact ihC [c'] (by simp only[Case.sizes];omega) (by simp only[Case.sizes];omega)
theorem Qaw(e:Exp)(s:St)(h:e.size<2^40):cw (.f Q01) [e.enc] s=some (.ret (.val (.int .i64 (deepExp e))),s):=(Q9g e.size).1 e (Nat.le_refl _) h s
theorem Qa3(l:List Dec)(nl:Bool)(s:St)(h:Dec.sizes l<2^40):cw (.f Zp) [encS nl (l.map Dec.enc)] s=some (.ret (.val (.int .i64 (deepDecs l 0))),s):=(Q9g (Dec.sizes l)).2.2 l (Nat.le_refl _) h _ s (by simp only[go_sem])
end Go.Proofs.YtgfhplcmcdimiaaGreatDoor
namespace Go.Proofs.YtgfhplcmcdimiaaGreatDoor
open Go Go.Am
set_option linter.unusedVariables false
set_option maxRecDepth 4000
section
variable {σ:Type} (step:TNode→σ→σ × Bool)
def walk:List TNode→σ→σ × Bool
 |[],st=>(st,true)
 |n::l,st=>bif (step n st).2 then walk l (step n st).1 else step n st
theorem Q2i(a b:List TNode)(st:σ):walk step (a++b) st=bif (walk step a st).2 then walk step b (walk step a st).1 else walk step a st:=by
 induction a generalizing st with
 |nil=>rfl
 |cons n a ih=>
   simp only[List.cons_append,walk]
   cases h:(step n st).2
   ·simp only[cond_false,h]
   ·simp only[cond_true];exact ih _
variable (R:σ × Bool→St→Prop) (P:TNode→Prop) (loc:Nat)
def YOK:Prop:=∀ nd r st s,P nd→R (st,true) s→∃ s',cw (.y loc) [nd.thing r] s=some (.ret (.val (.bool (step nd st).2)),s')∧R (step nd st) s'
def WOK(f:Nat)(args:List AV)(l:List TNode):Prop:=(∀ n ∈ l,P n)→∀ st s,R (st,true) s→∃ s',cw (.f f) args s=some (.ret (.val (.bool (walk step l st).2)),s')∧R (walk step l st) s'
abbrev wk:AV:=.agg [.yld loc]
variable {step} {R} {P} {loc}
theorem ZQ{st:σ × Bool}{s':St}(hb:st.2=true)(h:R st s'):R (st.1,true) s':=by rw[←hb];exact h
theorem Q6A(hY:YOK step R P loc)(a:Int)(t:Ty)(r:List AV)(hl:t.args.length<2^40):∀ (suf pre:List Ty) (st:σ) (s:St) (i:Nat),pre++suf=t.args→i=pre.length→(∀ u ∈ suf,∀ r,WOK step R P Zt [wk loc,.cp (u.cells++r),.int .i64 a] (nodesTy a u))→(∀ n ∈ nodesTys a suf,P n)→R (st,true) s→
  ∃ s',ZO (.val (.cp (t.cells++r))) (.val (.int .i64 a)) [.val (.yld loc)] (.val (.int .i64 t.args.length)) (.val (.int .i64 i)) s=some (.ret (.val (.bool (walk step (nodesTys a suf) st).2)),s')∧R (walk step (nodesTys a suf) st) s'
 |[],pre,st,s,i,h,hi,H,hP,hR=>by
   subst hi
   rw[Q3l];simp only[go_sem,Nat.reduceAdd,Nat.reduceLeDiff,Qa (by simpa using h),nodesTys,walk]
   exact⟨s,rfl,hR⟩
 |u::suf,pre,st,s,i,h,hi,H,hP,hR=>by
   subst hi
   obtain⟨f1,f2,f3⟩:=Q9 (x:=.val (encS t.nl (t.args.map Ty.enc))) (Q4 _ _) h (by omega) (Ty.cells_len u) (by decide)
   simp only[nodesTys] at hP ⊢
   obtain⟨s1,e1,g1⟩:=H u (List.mem_cons_self) [] (λn hn=>hP n (List.mem_append_left _ hn)) st s hR
   rw[Q3l]
   rw[Q2i]
   cases hb:(walk step (nodesTy a u) st).2 with
   |false=>
     rw[hb] at e1
     simp only[go_sem,Nat.reduceAdd,Nat.reduceLeDiff,Ty.cells_eq,f1] at e1 f2 ⊢
     simp only[go_sem,Nat.reduceAdd,Nat.reduceLeDiff,f2,e1,hb]
     exact⟨s1,rfl,g1⟩
   |true=>
     rw[hb] at e1
     obtain⟨s2,e2,g2⟩:=Q6A hY a t r hl suf (pre++[u]) (walk step (nodesTy a u) st).1 s1 (pre.length+1) (by simpa using h) (by simp) (λw hw=>H w (List.mem_cons_of_mem _ hw)) (λn hn=>hP n (List.mem_append_right _ hn)) (ZQ hb g1)
     refine⟨s2,?_,g2⟩
     rw[cond_true,←e2]
     simp only[go_sem,Nat.reduceAdd,Nat.reduceLeDiff,Ty.cells_eq,f1] at e1 f2 ⊢
     simp only[go_sem,Nat.reduceAdd,Nat.reduceLeDiff,f2,e1,f3]
theorem Q6B(hY:YOK step R P loc):∀ (m:Nat) (a:Int) (t:Ty) (r:List AV),t.size≤m→t.size<2^40→WOK step R P Zt [wk loc,.cp (t.cells++r),.int .i64 a] (nodesTy a t)
 |0,a,.mk _ _ _ _ _,_,h,_=>by simp only[Ty.size] at h;omega
 |m+1,a,.mk k n nm l nl,r,h,h'=>λhP st s hR=>by
   simp only[Ty.size] at h h'
   have hl:=Ty.len_sizes l
   simp only[nodesTy] at hP ⊢
   obtain⟨s1,e1,g1⟩:=hY (.ty (.mk k n nm l nl) a) r st s (hP _ (List.mem_cons_self)) hR
   rw[Q8X]
   simp only[walk]
   cases hb:(step (.ty (.mk k n nm l nl) a) st).2 with
   |false=>
     rw[hb] at e1
     simp only[go_sem,Nat.reduceAdd,Nat.reduceLeDiff,TNode.thing] at e1 ⊢
     simp only[go_sem,e1,hb]
     exact⟨s1,rfl,g1⟩
   |true=>
     rw[hb] at e1
     obtain⟨s2,e2,g2⟩:=Q6A hY a (.mk k n nm l nl) r (by simp only[Ty.args];omega) l [] (step (.ty (.mk k n nm l nl) a) st).1 s1 0 rfl rfl (λu hu r=>by have:=Ty.mem_sizes hu;exact Q6B hY m a u r (by omega) (by omega)) (λn hn=>hP n (List.mem_cons_of_mem _ hn)) (ZQ hb g1)
     refine⟨s2,?_,g2⟩
     rw[cond_true,←e2]
     simp only[go_sem,Nat.reduceAdd,Nat.reduceLeDiff,TNode.thing] at e1 ⊢
     simp only[go_sem,e1,Ty.args]
     rfl
theorem Q7r(hY:YOK step R P loc)(t:Pat)(r:List AV)(hl:t.kids.length<2^40):∀ (suf pre:List Pat) (st:σ) (s:St) (i:Nat),pre++suf=t.kids→i=pre.length→(∀ u ∈ suf,∀ r,WOK step R P Zd [wk loc,.cp (u.cells++r)] (nodesPat u))→(∀ n ∈ nodesPats suf,P n)→R (st,true) s→
  ∃ s',ZX (.val (.cp (t.cells++r))) [.val (.yld loc)] (.val (.int .i64 t.kids.length)) (.val (.int .i64 i)) s=some (.ret (.val (.bool (walk step (nodesPats suf) st).2)),s')∧R (walk step (nodesPats suf) st) s'
 |[],pre,st,s,i,h,hi,H,hP,hR=>by
   subst hi
   rw[Q3M];simp only[go_sem,Nat.reduceAdd,Nat.reduceLeDiff,Qa (by simpa using h),nodesPats,walk]
   exact⟨s,rfl,hR⟩
 |u::suf,pre,st,s,i,h,hi,H,hP,hR=>by
   subst hi
   obtain⟨f1,f2,f3⟩:=Q9 (x:=.val (encS t.kb (t.kids.map Pat.enc))) (Q4 _ _) h (by omega) (Pat.cells_len u) (by decide)
   simp only[nodesPats] at hP ⊢
   obtain⟨s1,e1,g1⟩:=H u (List.mem_cons_self) [] (λn hn=>hP n (List.mem_append_left _ hn)) st s hR
   rw[Q3M]
   rw[Q2i]
   cases hb:(walk step (nodesPat u) st).2 with
   |false=>
     rw[hb] at e1
     simp only[go_sem,Nat.reduceAdd,Nat.reduceLeDiff,Pat.cells_eq,f1] at e1 f2 ⊢
     simp only[go_sem,Nat.reduceAdd,Nat.reduceLeDiff,f2,e1,hb]
     exact⟨s1,rfl,g1⟩
   |true=>
     rw[hb] at e1
     obtain⟨s2,e2,g2⟩:=Q7r hY t r hl suf (pre++[u]) (walk step (nodesPat u) st).1 s1 (pre.length+1) (by simpa using h) (by simp) (λw hw=>H w (List.mem_cons_of_mem _ hw)) (λn hn=>hP n (List.mem_append_right _ hn)) (ZQ hb g1)
     refine⟨s2,?_,g2⟩
     rw[cond_true,←e2]
     simp only[go_sem,Nat.reduceAdd,Nat.reduceLeDiff,Pat.cells_eq,f1] at e1 f2 ⊢
     simp only[go_sem,Nat.reduceAdd,Nat.reduceLeDiff,f2,e1,f3]
theorem Q49(hY:YOK step R P loc):∀ (m:Nat) (t:Pat) (r:List AV),t.size≤m→t.size<2^40→WOK step R P Zd [wk loc,.cp (t.cells++r)] (nodesPat t)
 |0,.mk _ _ _ _ _ _,_,h,_=>by simp only[Pat.size] at h;omega
 |m+1,.mk k a nm n l nl,r,h,h'=>λhP st s hR=>by
   simp only[Pat.size] at h h'
   have hl:=Pat.len_sizes l
   simp only[nodesPat] at hP ⊢
   obtain⟨s1,e1,g1⟩:=hY (.pat (.mk k a nm n l nl)) r st s (hP _ (List.mem_cons_self)) hR
   rw[Q9n]
   simp only[walk]
   cases hb:(step (.pat (.mk k a nm n l nl)) st).2 with
   |false=>
     rw[hb] at e1
     simp only[go_sem,Nat.reduceAdd,Nat.reduceLeDiff,TNode.thing,Pat.at_] at e1 ⊢
     simp only[go_sem,e1,hb]
     exact⟨s1,rfl,g1⟩
   |true=>
     rw[hb] at e1
     obtain⟨s2,e2,g2⟩:=Q7r hY (.mk k a nm n l nl) r (by simp only[Pat.kids];omega) l [] (step (.pat (.mk k a nm n l nl)) st).1 s1 0 rfl rfl (λu hu r=>by have:=Pat.mem_sizes hu;exact Q49 hY m u r (by omega) (by omega)) (λn hn=>hP n (List.mem_cons_of_mem _ hn)) (ZQ hb g1)
     refine⟨s2,?_,g2⟩
     rw[cond_true,←e2]
     simp only[go_sem,Nat.reduceAdd,Nat.reduceLeDiff,TNode.thing,Pat.at_] at e1 ⊢
     simp only[go_sem,e1,Pat.kids]
     rfl
def WExp(step:TNode→σ→σ × Bool)(R:σ × Bool→St→Prop)(P:TNode→Prop)(loc:Nat)(t:Exp):Prop:=∀ r,WOK step R P ZF [wk loc,.cp (t.cells++r)] (nodesExp t)
def WCases(step:TNode→σ→σ × Bool)(R:σ × Bool→St→Prop)(P:TNode→Prop)(loc:Nat)(l:List Case):Prop:=∀ v,(Slot.val v).list? = some (l.map Case.enc)→WOK step R P Zs [wk loc,v] (nodesCases l)
def WDecs(step:TNode→σ→σ × Bool)(R:σ × Bool→St→Prop)(P:TNode→Prop)(loc:Nat)(l:List Dec):Prop:=∀ v inn,(Slot.val v).list? = some (l.map Dec.enc)→WOK step R P Zc [wk loc,v,.bool inn] (nodesDecs inn l)
theorem Q3u(hY:YOK step R P loc)(L:List Case)(x:Slot)(hx:x.list? = some (L.map Case.enc))(hl:L.length<2^40):∀ (suf pre:List Case) (st:σ) (s:St) (i:Nat),pre++suf=L→i=pre.length→(∀ u ∈ suf,WExp step R P loc u.exp∧u.size<2^40)→(∀ n ∈ nodesCases suf,P n)→R (st,true) s→
  ∃ s',ZN x [.val (.yld loc)] (.val (.int .i64 L.length)) (.val (.int .i64 i)) s=some (.ret (.val (.bool (walk step (nodesCases suf) st).2)),s')∧R (walk step (nodesCases suf) st) s'
 |[],pre,st,s,i,h,hi,H,hP,hR=>by
   subst hi
   rw[Q3k];simp only[go_sem,Nat.reduceAdd,Nat.reduceLeDiff,Qa (by simpa using h),nodesCases,walk]
   exact⟨s,rfl,hR⟩
 |.mk p e::suf,pre,st,s,i,h,hi,H,hP,hR=>by
   subst hi
   obtain⟨f1,f2,f3⟩:=Q9 hx h (by omega) (Case.cells_len (.mk p e)) (by decide)
   simp only[nodesCases,nodesCase] at hP ⊢
   obtain⟨hE,hsz⟩:=H (.mk p e) (List.mem_cons_self)
   simp only[Case.exp,Case.size] at hE hsz
   obtain⟨s1,e1,g1⟩:=Q49 hY _ p e.cells (Nat.le_refl _) (by omega) (λn hn=>hP n (List.mem_append_left _ (List.mem_append_left _ hn))) st s hR
   rw[Q3k]
   rw[Q2i,Q2i]
   cases hb:(walk step (nodesPat p) st).2 with
   |false=>
     rw[hb] at e1
     simp only[go_sem,Nat.reduceAdd,Nat.reduceLeDiff,f1,f2,e1,hb]
     exact⟨s1,rfl,g1⟩
   |true=>
     rw[hb] at e1
     rw[cond_true]
     obtain⟨s2,e2,g2⟩:=hE [] (λn hn=>hP n (List.mem_append_left _ (List.mem_append_right _ hn))) (walk step (nodesPat p) st).1 s1 (ZQ hb g1)
     cases hb2:(walk step (nodesExp e) (walk step (nodesPat p) st).1).2 with
     |false=>
       rw[hb2] at e2
       simp only[go_sem] at e2
       simp only[go_sem,Nat.reduceAdd,Nat.reduceLeDiff,Nat.reduceSub,f1,f2,e1,e2,hb2]
       exact⟨s2,rfl,g2⟩
     |true=>
       rw[hb2] at e2
       obtain⟨s3,e3,g3⟩:=Q3u hY L x hx hl suf (pre++[.mk p e]) (walk step (nodesExp e) (walk step (nodesPat p) st).1).1 s2 (pre.length+1) (by simpa using h) (by simp) (λw hw=>H w (List.mem_cons_of_mem _ hw)) (λn hn=>hP n (List.mem_append_right _ hn)) (ZQ hb2 g2)
       refine⟨s3,?_,g3⟩
       rw[cond_true,←e3]
       simp only[go_sem] at e2
       simp only[go_sem,Nat.reduceAdd,Nat.reduceLeDiff,Nat.reduceSub,f1,f2,e1,e2,f3]
theorem Q7q(hY:YOK step R P loc)(t:Exp)(r:List AV)(hl:t.kids.length<2^40)(HC:WCases step R P loc t.cases):∀ (suf pre:List Exp) (st:σ) (s:St) (i:Nat),pre++suf=t.kids→i=pre.length→(∀ u ∈ suf,WExp step R P loc u)→(∀ n ∈ nodesExps suf++nodesCases t.cases,P n)→R (st,true) s→
  ∃ s',ZW (.val (.cp (t.cells++r))) [.val (.yld loc)] (.val (.int .i64 t.kids.length)) (.val (.int .i64 i)) s=some (.ret (.val (.bool (walk step (nodesExps suf++nodesCases t.cases) st).2)),s')∧R (walk step (nodesExps suf++nodesCases t.cases) st) s'
 |[],pre,st,s,i,h,hi,H,hP,hR=>by
   subst hi
   simp only[nodesExps,List.nil_append] at hP ⊢
   obtain⟨s1,e1,g1⟩:=HC (encS t.cb (t.cases.map Case.enc)) (by simp only[go_sem]) hP st s hR
   rw[Q3L];simp only[go_sem,Nat.reduceAdd,Nat.reduceLeDiff,Exp.cells_eq,Qa (by simpa using h),e1]
   exact⟨s1,rfl,g1⟩
 |u::suf,pre,st,s,i,h,hi,H,hP,hR=>by
   subst hi
   obtain⟨f1,f2,f3⟩:=Q9 (x:=.val (encS t.kb (t.kids.map Exp.enc))) (Q4 _ _) h (by omega) (Exp.cells_len u) (by decide)
   simp only[nodesExps,List.append_assoc] at hP ⊢
   obtain⟨s1,e1,g1⟩:=H u (List.mem_cons_self) [] (λn hn=>hP n (List.mem_append_left _ hn)) st s hR
   rw[Q3L]
   rw[Q2i]
   cases hb:(walk step (nodesExp u) st).2 with
   |false=>
     rw[hb] at e1
     simp only[go_sem,Nat.reduceAdd,Nat.reduceLeDiff,Exp.cells_eq,f1] at e1 f2 ⊢
     simp only[go_sem,Nat.reduceAdd,Nat.reduceLeDiff,f2,e1,hb]
     exact⟨s1,rfl,g1⟩
   |true=>
     rw[hb] at e1
     obtain⟨s2,e2,g2⟩:=Q7q hY t r hl HC suf (pre++[u]) (walk step (nodesExp u) st).1 s1 (pre.length+1) (by simpa using h) (by simp) (λw hw=>H w (List.mem_cons_of_mem _ hw)) (λn hn=>hP n (List.mem_append_right _ hn)) (ZQ hb g1)
     refine⟨s2,?_,g2⟩
     rw[cond_true,←e2]
     simp only[go_sem,Nat.reduceAdd,Nat.reduceLeDiff,Exp.cells_eq,f1] at e1 f2 ⊢
     simp only[go_sem,Nat.reduceAdd,Nat.reduceLeDiff,f2,e1,f3]
theorem Qfh(hY:YOK step R P loc)(t:Exp)(hl:t.kids.length<2^40)(HD:WDecs step R P loc t.decs)(HC:WCases step R P loc t.cases)(HE:∀ u ∈ t.kids,WExp step R P loc u):WExp step R P loc t:=λr hP st s hR=>by
 obtain⟨k,a,nm,n,l,lb,c,cb,d,db⟩:=t
 simp only[Exp.kids,Exp.cases,Exp.decs] at hl HD HC HE
 simp only[nodesExp] at hP ⊢
 obtain⟨s1,e1,g1⟩:=hY (.exp (.mk k a nm n l lb c cb d db)) r st s (hP _ (List.mem_cons_self)) hR
 rw[Q9m]
 simp only[walk]
 cases hb:(step (.exp (.mk k a nm n l lb c cb d db)) st).2 with
 |false=>
   rw[hb] at e1
   simp only[go_sem,Nat.reduceAdd,Nat.reduceLeDiff,TNode.thing,Exp.at_] at e1 ⊢
   simp only[go_sem,e1,hb]
   exact⟨s1,rfl,g1⟩
 |true=>
   rw[hb] at e1
   rw[cond_true,Q2i]
   obtain⟨s2,e2,g2⟩:=HD (encS db (d.map Dec.enc)) true (by simp only[go_sem]) (λn hn=>hP n (List.mem_cons_of_mem _ (List.mem_append_left _ hn))) (step (.exp (.mk k a nm n l lb c cb d db)) st).1 s1 (ZQ hb g1)
   cases hb2:(walk step (nodesDecs true d) (step (.exp (.mk k a nm n l lb c cb d db)) st).1).2 with
   |false=>
     rw[hb2] at e2
     simp only[go_sem,Nat.reduceAdd,Nat.reduceLeDiff,TNode.thing,Exp.at_] at e1 ⊢
     simp only[go_sem,e1,e2,hb2]
     exact⟨s2,rfl,g2⟩
   |true=>
     rw[hb2] at e2
     obtain⟨s3,e3,g3⟩:=Q7q hY (.mk k a nm n l lb c cb d db) r (by simp only[Exp.kids];omega) HC l [] (walk step (nodesDecs true d) (step (.exp (.mk k a nm n l lb c cb d db)) st).1).1 s2 0 rfl rfl HE (λn hn=>hP n (List.mem_cons_of_mem _ (List.mem_append_right _ hn))) (ZQ hb2 g2)
     refine⟨s3,?_,g3⟩
     simp only[Exp.cases] at e3
     rw[cond_true,←e3]
     simp only[go_sem,Nat.reduceAdd,Nat.reduceLeDiff,TNode.thing,Exp.at_] at e1 ⊢
     simp only[go_sem,e1,e2,Exp.kids]
     rfl
theorem Q2F(hY:YOK step R P loc)(d:Dec)(x1 x2 x14:Slot)(j:Nat)(hj:j<2^40)(hl:d.cons.length<2^40)(hsz:Con.sizes d.cons<2^40)(rest:List TNode)
  (K:∀ st s,R (st,true) s→(∀ n ∈ rest,P n)→∃ s',Z9 x1 x2 [.val (.yld loc)] x14 (.val (.int .i64 (j+1:Nat))) s=some (.ret (.val (.bool (walk step rest st).2)),s')∧R (walk step rest st) s') :
  ∀ (suf pre:List Con) (st:σ) (s:St) (i:Nat),pre++suf=d.cons→i=pre.length→Con.sizes suf<2^40→(∀ n ∈ nodesCons suf++rest,P n)→R (st,true) s→
  ∃ s',ZV x1 x2 [.val (.yld loc)] (.val (.cp d.cells)) x14 (.val (.int .i64 j)) (.val (.int .i64 d.cons.length)) (.val (.int .i64 i)) s=some (.ret (.val (.bool (walk step (nodesCons suf++rest) st).2)),s')∧R (walk step (nodesCons suf++rest) st) s'
 |[],pre,st,s,i,h,hi,hz,hP,hR=>by
   subst hi
   simp only[nodesCons,List.nil_append] at hP ⊢
   obtain⟨s1,e1,g1⟩:=K st s hR hP
   refine⟨s1,?_,g1⟩
   rw[Q3K,←e1];simp only[go_sem,Nat.reduceAdd,Nat.reduceLeDiff,Qa (by simpa using h)]
   rw[wrap64 (by omega) (by omega)];rfl
 |.mk nm a hs arg::suf,pre,st,s,i,h,hi,hz,hP,hR=>by
   subst hi
   obtain⟨f1,f2,f3⟩:=Q9 (x:=.val (encS d.nb (d.cons.map Con.enc))) (Q4 _ _) h (by omega) (Con.cells_len ⟨nm,a,hs,arg⟩) (by decide)
   simp only[Con.sizes,Con.size] at hz
   simp only[nodesCons,nodesCon,List.append_assoc,List.cons_append] at hP ⊢
   obtain⟨s1,e1,g1⟩:=hY (.con ⟨nm,a,hs,arg⟩) [] st s (hP _ (List.mem_cons_self)) hR
   rw[Q3K]
   simp only[walk]
   cases hb:(step (.con ⟨nm,a,hs,arg⟩) st).2 with
   |false=>
     rw[hb] at e1
     simp only[go_sem,Nat.reduceAdd,Nat.reduceLeDiff,Dec.cells_eq,Con.cells,TNode.thing,f1] at e1 f2 ⊢
     simp only[go_sem,Nat.reduceAdd,Nat.reduceLeDiff,f2,e1,hb]
     exact⟨s1,rfl,g1⟩
   |true=>
     rw[hb] at e1
     rw[cond_true]
     cases hs with
     |false=>
       obtain⟨s2,e2,g2⟩:=Q2F hY d x1 x2 x14 j hj hl hsz rest K suf (pre++[⟨nm,a,false,arg⟩]) (step (.con ⟨nm,a,false,arg⟩) st).1 s1 (pre.length+1) (by simpa using h) (by simp) (by omega) (λn hn=>hP n (List.mem_cons_of_mem _ hn)) (ZQ hb g1)
       refine⟨s2,?_,g2⟩
       rw[cond_false,List.nil_append,←e2]
       simp only[go_sem,Nat.reduceAdd,Nat.reduceLeDiff,Dec.cells_eq,Con.cells,TNode.thing,f1] at e1 f2 ⊢
       simp only[go_sem,Nat.reduceAdd,Nat.reduceLeDiff,f2,e1,f3]
     |true=>
       rw[cond_true,Q2i]
       rw[cond_true] at hP
       obtain⟨s2,e2,g2⟩:=Q6B hY _ a arg [] (Nat.le_refl _) (by omega) (λn hn=>hP n (List.mem_cons_of_mem _ (List.mem_append_left _ hn))) (step (.con ⟨nm,a,true,arg⟩) st).1 s1 (ZQ hb g1)
       cases hb2:(walk step (nodesTy a arg) (step (.con ⟨nm,a,true,arg⟩) st).1).2 with
       |false=>
         rw[hb2] at e2
         simp only[go_sem] at e2
         simp only[go_sem,Nat.reduceAdd,Nat.reduceLeDiff,Dec.cells_eq,Con.cells,TNode.thing,f1] at e1 f2 ⊢
         simp only[go_sem,Nat.reduceAdd,Nat.reduceLeDiff,f2,e1,e2,hb2]
         exact⟨s2,rfl,g2⟩
       |true=>
         rw[hb2] at e2
         obtain⟨s3,e3,g3⟩:=Q2F hY d x1 x2 x14 j hj hl hsz rest K suf (pre++[⟨nm,a,true,arg⟩]) (walk step (nodesTy a arg) (step (.con ⟨nm,a,true,arg⟩) st).1).1 s2 (pre.length+1) (by simpa using h) (by simp) (by omega) (λn hn=>hP n (List.mem_cons_of_mem _ (List.mem_append_right _ hn))) (ZQ hb2 g2)
         refine⟨s3,?_,g3⟩
         rw[cond_true,←e3]
         simp only[go_sem] at e2
         simp only[go_sem,Nat.reduceAdd,Nat.reduceLeDiff,Dec.cells_eq,Con.cells,TNode.thing,f1] at e1 f2 ⊢
         simp only[go_sem,Nat.reduceAdd,Nat.reduceLeDiff,f2,e1,e2,f3]
theorem Q5e(hY:YOK step R P loc)(d:Dec)(x1 x2 x14:Slot)(j:Nat)(hj:j<2^40)(hl0:d.funs.length<2^40)(hl:d.cons.length<2^40)(hsz:Con.sizes d.cons<2^40)(rest:List TNode)
  (K:∀ st s,R (st,true) s→(∀ n ∈ rest,P n)→∃ s',Z9 x1 x2 [.val (.yld loc)] x14 (.val (.int .i64 (j+1:Nat))) s=some (.ret (.val (.bool (walk step rest st).2)),s')∧R (walk step rest st) s') :
  ∀ (suf pre:List Fun) (st:σ) (s:St) (i:Nat),pre++suf=d.funs→i=pre.length→(∀ f ∈ suf,WCases step R P loc [f.case])→(∀ n ∈ nodesFuns suf++(nodesCons d.cons++rest),P n)→R (st,true) s→
  ∃ s',ZU x1 x2 [.val (.yld loc)] (.val (.cp d.cells)) x14 (.val (.int .i64 j)) (.val (.int .i64 d.funs.length)) (.val (.int .i64 i)) s=some (.ret (.val (.bool (walk step (nodesFuns suf++(nodesCons d.cons++rest)) st).2)),s')∧R (walk step (nodesFuns suf++(nodesCons d.cons++rest)) st) s'
 |[],pre,st,s,i,h,hi,H,hP,hR=>by
   subst hi
   simp only[nodesFuns,List.nil_append] at hP ⊢
   obtain⟨s1,e1,g1⟩:=Q2F hY d x1 x2 x14 j hj hl hsz rest K d.cons [] st s 0 rfl rfl hsz hP hR
   refine⟨s1,?_,g1⟩
   rw[Q3J,←e1];simp only[go_sem,Nat.reduceAdd,Nat.reduceLeDiff,Dec.cells_eq,Qa (by simpa using h)]
   rfl
 |.mk nm a c::suf,pre,st,s,i,h,hi,H,hP,hR=>by
   subst hi
   obtain⟨f1,f2,f3⟩:=Q9 (x:=.val (encS d.fb (d.funs.map Fun.enc))) (Q4 _ _) h (by omega) (Fun.cells_len (.mk nm a c)) (by decide)
   simp only[nodesFuns,nodesFun,List.append_assoc,List.cons_append] at hP ⊢
   obtain⟨s1,e1,g1⟩:=hY (.fn (.mk nm a c)) [] st s (hP _ (List.mem_cons_self)) hR
   rw[Q3J]
   simp only[walk]
   cases hb:(step (.fn (.mk nm a c)) st).2 with
   |false=>
     rw[hb] at e1
     simp only[go_sem,Nat.reduceAdd,Nat.reduceLeDiff,Dec.cells_eq,TNode.thing,Fun.at_,f1] at e1 f2 ⊢
     simp only[go_sem,Nat.reduceAdd,Nat.reduceLeDiff,f2,e1,hb]
     exact⟨s1,rfl,g1⟩
   |true=>
     rw[hb] at e1
     rw[cond_true,Q2i]
     obtain⟨s2,e2,g2⟩:=H (.mk nm a c) (List.mem_cons_self) (.sl [c.enc]) (by simp only[go_sem,Fun.case]) (λn hn=>hP n (List.mem_cons_of_mem _ (List.mem_append_left _ (by simpa [nodesCases,Fun.case] using hn)))) (step (.fn (.mk nm a c)) st).1 s1 (ZQ hb g1)
     simp only[Fun.case,nodesCases,List.append_nil] at e2 g2
     cases hb2:(walk step (nodesCase c) (step (.fn (.mk nm a c)) st).1).2 with
     |false=>
       rw[hb2] at e2
       simp only[go_sem,Nat.reduceAdd,Nat.reduceLeDiff,Dec.cells_eq,TNode.thing,Fun.at_,f1] at e1 f2 ⊢
       simp only[go_sem,Nat.reduceAdd,Nat.reduceLeDiff,f2,e1,e2,hb2]
       exact⟨s2,rfl,g2⟩
     |true=>
       rw[hb2] at e2
       obtain⟨s3,e3,g3⟩:=Q5e hY d x1 x2 x14 j hj hl0 hl hsz rest K suf (pre++[.mk nm a c]) (walk step (nodesCase c) (step (.fn (.mk nm a c)) st).1).1 s2 (pre.length+1) (by simpa using h) (by simp) (λw hw=>H w (List.mem_cons_of_mem _ hw)) (λn hn=>hP n (List.mem_cons_of_mem _ (List.mem_append_right _ hn))) (ZQ hb2 g2)
       refine⟨s3,?_,g3⟩
       rw[cond_true,←e3]
       simp only[go_sem,Nat.reduceAdd,Nat.reduceLeDiff,Dec.cells_eq,TNode.thing,Fun.at_,f1] at e1 f2 ⊢
       simp only[go_sem,Nat.reduceAdd,Nat.reduceLeDiff,f2,e1,e2,f3]
theorem Q48(hY:YOK step R P loc)(L:List Dec)(x:Slot)(hx:x.list? = some (L.map Dec.enc))(inn:Bool)(hl:L.length<2^40):∀ (suf pre:List Dec) (st:σ) (s:St) (i:Nat),pre++suf=L→i=pre.length→(∀ d ∈ suf,d.size<2^40∧WCases step R P loc d.case∧∀ f ∈ d.funs,WCases step R P loc [f.case])→(∀ n ∈ nodesDecs inn suf,P n)→R (st,true) s→
  ∃ s',Z9 x (.val (.bool inn)) [.val (.yld loc)] (.val (.int .i64 L.length)) (.val (.int .i64 i)) s=some (.ret (.val (.bool (walk step (nodesDecs inn suf) st).2)),s')∧R (walk step (nodesDecs inn suf) st) s'
 |[],pre,st,s,i,h,hi,H,hP,hR=>by
   subst hi
   rw[Q3I];simp only[go_sem,Nat.reduceAdd,Nat.reduceLeDiff,Qa (by simpa using h),nodesDecs,walk]
   exact⟨s,rfl,hR⟩
 |.mk k a nm p l nb c cb f fb::suf,pre,st,s,i,h,hi,H,hP,hR=>by
   subst hi
   obtain⟨f1,f2,f3⟩:=Q9 hx h (by omega) (Dec.cells_len (.mk k a nm p l nb c cb f fb)) (by decide)
   obtain⟨hsz,HC,HF⟩:=H _ (List.mem_cons_self)
   simp only[Dec.case,Dec.funs,Dec.size] at hsz HC HF
   have q1:=Fun.len_sizes f
   have q2:=Con.len_sizes l
   have hlen:pre.length<L.length:=by rw[←h];simp
   simp only[nodesDecs,nodesDec,List.append_assoc,List.cons_append] at hP ⊢
   obtain⟨s1,e1,g1⟩:=hY (.dec inn (.mk k a nm p l nb c cb f fb)) [] st s (hP _ (List.mem_cons_self)) hR
   rw[Q3I]
   simp only[walk]
   cases hb:(step (.dec inn (.mk k a nm p l nb c cb f fb)) st).2 with
   |false=>
     rw[hb] at e1
     simp only[go_sem,Nat.reduceAdd,Nat.reduceLeDiff,TNode.thing,Dec.at_,f1] at e1 f2 ⊢
     simp only[go_sem,Nat.reduceAdd,Nat.reduceLeDiff,f2,e1,hb]
     exact⟨s1,rfl,g1⟩
   |true=>
     rw[hb] at e1
     rw[cond_true,Q2i]
     obtain⟨s2,e2,g2⟩:=HC (encS cb (c.map Case.enc)) (by simp only[go_sem]) (λn hn=>hP n (List.mem_cons_of_mem _ (List.mem_append_left _ hn))) (step (.dec inn (.mk k a nm p l nb c cb f fb)) st).1 s1 (ZQ hb g1)
     cases hb2:(walk step (nodesCases c) (step (.dec inn (.mk k a nm p l nb c cb f fb)) st).1).2 with
     |false=>
       rw[hb2] at e2
       simp only[go_sem,Nat.reduceAdd,Nat.reduceLeDiff,TNode.thing,Dec.at_,f1] at e1 f2 ⊢
       simp only[go_sem,Nat.reduceAdd,Nat.reduceLeDiff,f2,e1,e2,hb2]
       exact⟨s2,rfl,g2⟩
     |true=>
       rw[hb2] at e2
       obtain⟨s3,e3,g3⟩:=Q5e hY (.mk k a nm p l nb c cb f fb) x (.val (.bool inn)) (.val (.int .i64 L.length)) pre.length (by omega) (by simp only[Dec.funs];omega) (by simp only[Dec.cons];omega) (by simp only[Dec.cons];omega) (nodesDecs inn suf)
        (λst s hR hP=>Q48 hY L x hx inn hl suf (pre++[.mk k a nm p l nb c cb f fb]) st s (pre.length+1) (by simpa using h) (by simp) (λw hw=>H w (List.mem_cons_of_mem _ hw)) hP hR)
        f [] (walk step (nodesCases c) (step (.dec inn (.mk k a nm p l nb c cb f fb)) st).1).1 s2 0 rfl rfl HF (λn hn=>hP n (List.mem_cons_of_mem _ (List.mem_append_right _ hn))) (ZQ hb2 g2)
       refine⟨s3,?_,g3⟩
       simp only[Dec.cons] at e3
       rw[cond_true,←e3]
       simp only[go_sem,Nat.reduceAdd,Nat.reduceLeDiff,TNode.thing,Dec.at_,f1] at e1 f2 ⊢
       simp only[go_sem,Nat.reduceAdd,Nat.reduceLeDiff,f2,e1,e2,Dec.funs]
       rfl
theorem QcN(hY:YOK step R P loc):∀ m:Nat,(∀ e:Exp,e.size≤m→e.size<2^40→WExp step R P loc e)∧(∀ l:List Case,Case.sizes l≤m→Case.sizes l<2^40→WCases step R P loc l)∧(∀ l:List Dec,Dec.sizes l≤m→Dec.sizes l<2^40→WDecs step R P loc l):=by
 intro m
 induction m with
 |zero=>
   refine⟨λe h _=>?_,λl h _ v hv hP st s hR=>?_,λl h _ v inn hv hP st s hR=>?_⟩
   ·obtain⟨k,a,nm,n,l,lb,c,cb,d,db⟩:=e
    simp only[Exp.size] at h;omega
   ·cases l with
    |cons c l=>obtain⟨p,e⟩:=c;simp only[Case.sizes,Case.size] at h;omega
    |nil=>
      rw[Q4V];simp only[go_sem,Nat.reduceAdd,hv]
      exact Q3u hY [] _ hv (by decide) [] [] st s 0 rfl rfl (by simp) hP hR
   ·cases l with
    |cons c l=>obtain⟨k,a,nm,p,l,nb,c,cb,f,fb⟩:=c;simp only[Dec.sizes,Dec.size] at h;omega
    |nil=>
      rw[Q5d];simp only[go_sem,Nat.reduceAdd,hv]
      exact Q48 hY [] _ hv inn (by decide) [] [] st s 0 rfl rfl (by simp) hP hR
 |succ m ih=>
   obtain⟨ihE,ihC,ihD⟩:=ih
   refine⟨λe h h'=>?_,λl h h' v hv hP st s hR=>?_,λl h h' v inn hv hP st s hR=>?_⟩
   ·refine Qfh hY e ?_ ?_ ?_ ?_ <;> obtain⟨k,a,nm,n,l,lb,c,cb,d,db⟩:=e <;> simp only[Exp.size] at h h' <;> simp only[Exp.kids,Exp.cases,Exp.decs]
    ·have:=Exp.len_sizes l;omega
    ·exact ihD d (by omega) (by omega)
    ·exact ihC c (by omega) (by omega)
    ·exact λu hu=>ihE u (by have:=Exp.mem_sizes hu;omega) (by have:=Exp.mem_sizes hu;omega)
   ·have:=Case.len_sizes l
    rw[Q4V];simp only[go_sem,Nat.reduceAdd,hv]
    refine Q3u hY l _ hv (by omega) l [] st s 0 rfl rfl (λt ht=>?_) hP hR
    have h1:=Case.mem_sizes ht
    obtain⟨p,e⟩:=t
    simp only[Case.size,Case.exp] at h1 ⊢
    exact⟨ihE e (by omega) (by omega),by omega⟩
   ·have:=Dec.len_sizes l
    rw[Q5d];simp only[go_sem,Nat.reduceAdd,hv]
    refine Q48 hY l _ hv inn (by omega) l [] st s 0 rfl rfl (λt ht=>?_) hP hR
    have h1:=Dec.mem_sizes ht
    obtain⟨k,a,nm,p,l,nb,c,cb,f,fb⟩:=t
    simp only[Dec.size,Dec.case,Dec.funs] at h1 ⊢
    refine⟨by omega,ihC c (by omega) (by omega),λg hg=>?_⟩
    have h2:=Fun.mem_sizes hg
    obtain⟨nm,a,c'⟩:=g
    simp only[Fun.size,Fun.case] at h2 ⊢
    exact ihC [c'] (by simp only[Case.sizes];omega) (by simp only[Case.sizes];omega)
end
end Go.Proofs.YtgfhplcmcdimiaaGreatDoor