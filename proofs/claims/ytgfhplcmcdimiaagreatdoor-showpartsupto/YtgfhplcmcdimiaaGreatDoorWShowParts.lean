/- The row: whatever an expression, a pattern and a type come in (of bulk up to 1048576 together), the law answers true and leaves them as they were. -/
import Derived.Test.YtgfhplcmcdimiaaGreatDoorM8
import Derived.Test.YtgfhplcmcdimiaaGreatDoorM9
import Derived.Test.YtgfhplcmcdimiaaGreatDoorM18
import Derived.Test.YtgfhplcmcdimiaaGreatDoorCards
import Derived.SevenTiedAt
import Derived.LaidMore
set_option linter.unusedVariables false
set_option linter.unusedSimpArgs false
open List renaming append_nil→Yr,mem_cons→Yw
namespace Go.Proofs.YtgfhplcmcdimiaaGreatDoor.showParts
open Go Go.Am Go.RowKit Go.ChangeShapes Go.WideShapes Go.ChangeAt
set_option maxRecDepth 4000
theorem own:ownKnob Tryz.prog.godebug=none:=by kernel_rfl
theorem params:Tryz.f3.params.toList=[27,31,35]:=by kernel_rfl
theorem small27:(27:Nat)<Tryz.prog.types.size:=of_decide_eq_true (by kernel_rfl)
theorem small31:(31:Nat)<Tryz.prog.types.size:=of_decide_eq_true (by kernel_rfl)
theorem small35:(35:Nat)<Tryz.prog.types.size:=of_decide_eq_true (by kernel_rfl)
theorem under4:Tryz.prog.underlying 4=some .bool:=by kernel_rfl
theorem results:Tryz.f3.resultTypes = #[4]:=by kernel_rfl
def plainS:List TypeId:=[27,22,3,9,23,24,125,31,28,29,25,76,72,73,123,4,35,32,33,74,127]
theorem Qb8:plainS.all (plainT C.ti plainS)=true:=by kernel_rfl
theorem contract(H:Type)(enc:TypeId × Value->H)(W:World)(base:Nat)(args:Array Value)(ds gs:List (DataW H))(before:List MemPlace)
  (hval:∀ (j:Nat) t v,Tryz.f3.params[j]? = some t->args[j]? = some v->Value.okWide Tryz.prog W .any base t v)
  (hW:DataW.Whole enc Tryz.prog Tryz.f3.params.toList Rows.showPartsSpec.vars false W args.toList ds gs before) (hk:Rows.uptoSmall H (ds++gs)=true) (hsh:W.ShapedOpen Tryz.prog) (hL:laidMetH Tryz.prog Rows.showPartsUptoRow.laid W) :
  Calls Tryz.prog 3 args W λe W'=>∃ v,e = .returned v/\Rows.showPartsSpec.post enc Tryz.prog Tryz.f3 false true false false W args v W':=by
 have hW':=hW
 obtain⟨p,q,hA0,hV,rfl,hfz,hnd⟩:=hW
 have hA:=hA0
 rw[params] at hA
 obtain⟨v0,vs0,d0,ds0,p0,q0,hargs,rfl,rfl,h0,r0⟩:=trodAll_cons hA
 obtain⟨v1,vs1,d1,ds1,p1,q1,rfl,rfl,rfl,h1,r1⟩:=trodAll_cons r0
 obtain⟨v2,vs2,d2,ds2,p2,q2,rfl,rfl,rfl,h2,r2⟩:=trodAll_cons r1
 obtain⟨rfl,rfl,rfl⟩:=trodAll_nil r2
 obtain rfl:args = #[v0,v1,v2]:=by cases args;simp_all
 obtain⟨rfl,rfl⟩:=trodVars_none hV
 obtain⟨c0,rfl⟩:=QeD (by kernel_rfl) (hval 0 27 v0 (by rw[<-Array.getElem?_toList,params];rfl) rfl)
 obtain⟨n0,hn0⟩:=h0
 obtain⟨l0,hc0,hok0⟩:=Qbx types Qb8 n0 27 c0.toList (d0,p0) (by decide +kernel) hn0
 obtain⟨c1,rfl⟩:=QeD (by kernel_rfl) (hval 1 31 v1 (by rw[<-Array.getElem?_toList,params];rfl) rfl)
 obtain⟨n1,hn1⟩:=h1
 obtain⟨l1,hc1,hok1⟩:=Qbx types Qb8 n1 31 c1.toList (d1,p1) (by decide +kernel) hn1
 obtain⟨c2,rfl⟩:=QeD (by kernel_rfl) (hval 2 35 v2 (by rw[<-Array.getElem?_toList,params];rfl) rfl)
 obtain⟨n2,hn2⟩:=h2
 obtain⟨l2,hc2,hok2⟩:=Qbx types Qb8 n2 35 c2.toList (d2,p2) (by decide +kernel) hn2
 have hb:Rows.uptoBulkAll ([d0,d1,d2]++[])<=1048576:=of_decide_eq_true hk
 simp only[Yr,Rows.uptoBulkAll] at hb
 obtain⟨x0,rfl,g0⟩:=(Q6l n0).exp d0 l0 hc0 (by omega)
 obtain⟨x1,rfl,g1⟩:=QeI n1 d1 l1 hc1 (by omega)
 obtain⟨x2,rfl,g2⟩:=QhE n2 d2 l2 hc2 (by omega)
 obtain⟨sr,er,gr⟩:=Qau x0 g0 x1 g1 x2 g2 (by omega)
 obtain⟨m,hm⟩:=QkK.1 er
 have hvr:VRl (kn0 W) [x0.enc,x1.enc,x2.enc] (#[.agg c0,.agg c1,.agg c2]:Array Value).toList:=(Qdk (Qj5 hok0.vr hok0.ones) (Qdk (Qj5 hok1.vr hok1.ones) (Qdk (Qj5 hok2.vr hok2.ones) rfl)))
 refine (entry codeOK (by kernel_rfl) hm (globOK hL hsh) hvr (tabsOK hL)).mono λe W' ⟨he,hl⟩=>?_
 subst he
 simp only[Yr] at hW'
 refine⟨_,rfl,Qmm hW' (λ_ _ _=>?_) (λsp hsp=>?_) (λ_=>rfl) hl⟩
 ·rw[results];exact trodAll_cons_mk (shut_bool under4 _) trodAll_mk0
 ·have hA1:DataW.TrodAll enc Tryz.prog W 0 (λ_=>true) true Tryz.f3.params.toList [.agg c0,.agg c1,.agg c2] [d0,d1,d2] (p0++p1++p2):=by simpa using hA0
  refine again (λt ht=>?_) hA1 hl (λp hp=>hW'.lt p (by simpa using hp)) sp (by simpa using hsp)
  rw[params] at ht
  simp only[Yw,List.not_mem_nil,or_false] at ht
  rcases ht with rfl|rfl|rfl
  ·exact small27
  ·exact small31
  ·exact small35
def valW0:Value:=.agg #[.int .i64 0,.int .i64 0,.string ByteArray.empty,.int .i64 0,.slice none 0 0,.slice none 0 0,.slice none 0 0]
def datW0{H:Type}:DataW H:=.agg [.lit (.int .i64 0),.lit (.int .i64 0),.lit (.string []),.lit (.int .i64 0),.nil,.nil,.nil]
def valW1:Value:=.agg #[.int .i64 0,.int .i64 0,.string ByteArray.empty,.int .i64 0,.slice none 0 0]
def datW1{H:Type}:DataW H:=.agg [.lit (.int .i64 0),.lit (.int .i64 0),.lit (.string []),.lit (.int .i64 0),.nil]
def valW2:Value:=.agg #[.int .i64 0,.int .i64 0,.string ByteArray.empty,.slice none 0 0]
def datW2{H:Type}:DataW H:=.agg [.lit (.int .i64 0),.lit (.int .i64 0),.lit (.string []),.nil]
set_option maxRecDepth 100000 in
theorem Qna(os:Os)(args:Array Value):laidMetH Tryz.prog Rows.showPartsUptoRow.laid ((World.doorLaid Tryz.prog 400 os).forCall (λ_ _=>0) ⟨#[],args,[]⟩).memory:=
 (MakeChecks.laidMetH_plain _ _ _ (by kernel_rfl)).symm ▸ laidMet_of_run' 8 (by kernel_rfl) (by kernel_rfl)
set_option maxRecDepth 100000 in
theorem lifted(os:Os)(started:os.Started)(H:Type)(enc:TypeId × Value->H)(F:Stop.Interp) :
  ReturnsInHanded {} Tryz.checked os 3 .any ((Rows.OpenSpec.upto Rows.showPartsSpec).preRow enc Tryz.prog Tryz.f3 Rows.showPartsUptoRow.domain false Rows.showPartsUptoRow.laid) (((Rows.OpenSpec.upto Rows.showPartsSpec).at F).post enc Tryz.prog Tryz.f3 false true false false):=by
 have hx:∃ places,DataW.whole enc Tryz.prog ((World.doorLaid Tryz.prog 400 os).forCall (λ_ _=>0) ⟨#[],#[valW0,valW1,valW2],[]⟩).memory Tryz.f3.params.toList Rows.showPartsSpec.vars false #[valW0,valW1,valW2].toList 8=some ([datW0,datW1,datW2],[],places):=⟨[],by kernel_rfl⟩
 obtain⟨places,hx⟩:=hx
 refine returnsInHanded_of_row (C:=Tryz.checked) (s:=Rows.OpenSpec.upto Rows.showPartsSpec) own started (by kernel_rfl) Tryz.func3
  (witness_row_at (enc:=enc) (C:=Tryz.checked) false (World.doorLaid Tryz.prog 400 os) #[valW0,valW1,valW2] rfl (by kernel_rfl) (by kernel_rfl) (by kernel_rfl)
    (OpenSpec.preRow_of_cond 8 hx (by kernel_rfl) (λk hk=>by cases hk;kernel_rfl) (by kernel_rfl) (Qna os _))) ?_
 intro W base args ds gs before hval hW _ hk _ hL hsh _
 exact contract H enc W base args ds gs before hval hW (hk _ rfl) hsh hL
theorem rowUpto:Rows.ShowPartsUptoSaid:=
 OpenClaim.holds_of_cond 3 Tryz.f3 rfl rfl rfl rfl rfl rfl rfl ⟨rfl,rfl,rfl,rfl,rfl⟩ rfl rfl rfl rfl rfl (by kernel_rfl) Tryz.func3 (by kernel_rfl)
  (of_decide_eq_true (by kernel_rfl)) (by unfold Func.isWrapper;first|(rw[if_pos (by decide +kernel)];kernel_rfl)|(rw[if_neg (by decide +kernel)];exact⟨rfl,rfl⟩))
  (λos started H enc _ F=>by rw[OpenClaim.pre_eq_preRow];exact lifted os started H enc F)
theorem saidUpto:Rows.ShowPartsUptoCardSaid:=
 Claim7.holds_tied_plain_at .later [] [.data, .data, .data, .widerDeep, .widerDeep, .data, .data] true (true, "005ad5b3b30b82709bee5788399124d83247a4048dbda893cf24a7688b190b0a") false
  rowUpto (λ_ h=>by cases h) (by kernel_rfl) (λ_ h=>by cases h) showPartsUpto_row_tie rfl ⟨rfl,rfl⟩ (by kernel_rfl) rfl
  (λf fn hf hfn=>by
    obtain rfl : f = 3 := Option.some.inj ((show Tryz.prog.funcNamed "camlet/camletlaw07.ShowParts" = some 3 by kernel_rfl).symm.trans hf) |>.symm
    obtain rfl:fn=Tryz.f3:=(Option.some.inj (Tryz.func3.symm.trans hfn)).symm
    exact⟨by kernel_rfl,λj t ht=>by
     have hm:t ∈ [27,31,35]:=by
      have:=Array.mem_of_getElem? ht
      rw[<-Array.mem_toList_iff,params] at this
      exact this
     have hall:([27,31,35].all λu=>!Tryz.prog.wantsStandIn u)=true:=by kernel_rfl
     exact (show Tryz.prog.wantsStandIn t=false by simpa using List.all_eq_true.1 hall t hm)⟩)
  (by kernel_rfl)
end Go.Proofs.YtgfhplcmcdimiaaGreatDoor.showParts