/- The row: whatever two schemes come in (of bulk up to 1048576 together), the law answers true and leaves them as they were. -/
import Derived.Test.YtobelgghegmhhaaGreatDoorM8
import Derived.Test.YtobelgghegmhhaaGreatDoorM13
import Derived.Test.YtobelgghegmhhaaGreatDoorCards
import Derived.SevenTiedAt
import Derived.LaidMore
set_option linter.unusedVariables false
set_option linter.unusedSimpArgs false
namespace Go.Proofs.YtobelgghegmhhaaGreatDoor.schemeMore
open Go Go.Am Go.RowKit Go.ChangeShapes Go.WideShapes Go.ChangeAt
set_option maxRecDepth 4000
theorem own:ownKnob Tryz.prog.godebug=none:=by kernel_rfl
theorem params:Tryz.f5.params.toList=[28,28]:=by kernel_rfl
theorem small28:(28:Nat)<Tryz.prog.types.size:=of_decide_eq_true (by kernel_rfl)
theorem under4:Tryz.prog.underlying 4=some .bool:=by kernel_rfl
theorem results:Tryz.f5.resultTypes = #[4]:=by kernel_rfl
def plainS:List TypeId:=[28,3,25,22,9,23]
theorem Qaq:plainS.all (plainT C.ti plainS)=true:=by kernel_rfl
theorem contract(H:Type)(enc:TypeId × Value->H)(W:World)(base:Nat)(args:Array Value)(ds gs:List (DataW H))(before:List MemPlace)
  (hval:∀ (j:Nat) t v,Tryz.f5.params[j]? = some t->args[j]? = some v->Value.okWide Tryz.prog W .any base t v)
  (hW:DataW.Whole enc Tryz.prog Tryz.f5.params.toList Rows.schemeMoreSpec.vars false W args.toList ds gs before) (hk:Rows.uptoSmall H (ds++gs)=true) (hsh:W.ShapedOpen Tryz.prog) (hL:laidMetH Tryz.prog Rows.schemeMoreUptoRow.laid W) :
  Calls Tryz.prog 5 args W λe W'=>∃ v,e = .returned v/\Rows.schemeMoreSpec.post enc Tryz.prog Tryz.f5 false true false false W args v W':=by
 have hW':=hW
 obtain⟨p,q,hA0,hV,rfl,hfz,hnd⟩:=hW
 have hA:=hA0
 rw[params] at hA
 obtain⟨v0,vs0,d0,ds0,p0,q0,hargs,rfl,rfl,h0,r0⟩:=trodAll_cons hA
 obtain⟨v1,vs1,d1,ds1,p1,q1,rfl,rfl,rfl,h1,r1⟩:=trodAll_cons r0
 obtain⟨rfl,rfl,rfl⟩:=trodAll_nil r1
 obtain rfl:args = #[v0,v1]:=by cases args;simp_all
 obtain⟨rfl,rfl⟩:=trodVars_none hV
 obtain⟨c0,rfl⟩:=QdG (by kernel_rfl) (hval 0 28 v0 (by rw[<-Array.getElem?_toList,params];rfl) rfl)
 obtain⟨n0,hn0⟩:=h0
 obtain⟨l0,hc0,hok0⟩:=QaL types Qaq n0 28 c0.toList (d0,p0) (by decide +kernel) hn0
 obtain⟨c1,rfl⟩:=QdG (by kernel_rfl) (hval 1 28 v1 (by rw[<-Array.getElem?_toList,params];rfl) rfl)
 obtain⟨n1,hn1⟩:=h1
 obtain⟨l1,hc1,hok1⟩:=QaL types Qaq n1 28 c1.toList (d1,p1) (by decide +kernel) hn1
 have hb:Rows.uptoBulkAll ([d0,d1]++[])<=1048576:=of_decide_eq_true hk
 simp only[List.append_nil,Rows.uptoBulkAll] at hb
 obtain⟨x0,rfl,g0⟩:=Q8o n0 d0 l0 hc0 (by omega)
 obtain⟨x1,rfl,g1⟩:=Q8o n1 d1 l1 hc1 (by omega)
 obtain⟨sr,er,gr⟩:=Q5h x0 g0 x1 g1 (by omega)
 obtain⟨m,hm⟩:=Qeh.1 er
 have hvr:VRl (kn0 W) [x0.enc,x1.enc] (#[.agg c0,.agg c1]:Array Value).toList:=(QcT (Qgl hok0.vr hok0.ones) (QcT (Qgl hok1.vr hok1.ones) rfl))
 refine (entry codeOK (by kernel_rfl) hm (globOK hL hsh) hvr (tabsOK hL)).mono λe W' ⟨he,hl⟩=>?_
 subst he
 simp only[List.append_nil] at hW'
 refine⟨_,rfl,QfQ hW' (λ_ _ _=>?_) (λsp hsp=>?_) (λ_=>rfl) hl⟩
 ·rw[results];exact trodAll_cons_mk (shut_bool under4 _) trodAll_mk0
 ·have hA1:DataW.TrodAll enc Tryz.prog W 0 (λ_=>true) true Tryz.f5.params.toList [.agg c0,.agg c1] [d0,d1] (p0++p1):=by simpa using hA0
  refine again (λt ht=>?_) hA1 hl (λp hp=>hW'.lt p (by simpa using hp)) sp (by simpa using hsp)
  rw[params] at ht
  simp only[List.mem_cons,List.not_mem_nil,or_false] at ht
  rcases ht with rfl|rfl
  ·exact small28
  ·exact small28
def valW0:Value:=.agg #[.int .i64 0,.int .i64 0,.int .i64 0,.string ByteArray.empty,.slice none 0 0]
def datW0{H:Type}:DataW H:=.agg [.lit (.int .i64 0),.agg [.lit (.int .i64 0),.lit (.int .i64 0),.lit (.string []),.nil]]
def valW1:Value:=.agg #[.int .i64 0,.int .i64 0,.int .i64 0,.string ByteArray.empty,.slice none 0 0]
def datW1{H:Type}:DataW H:=.agg [.lit (.int .i64 0),.agg [.lit (.int .i64 0),.lit (.int .i64 0),.lit (.string []),.nil]]
set_option maxRecDepth 100000 in
theorem QgJ(os:Os)(args:Array Value):laidMetH Tryz.prog Rows.schemeMoreUptoRow.laid ((World.doorLaid Tryz.prog 400 os).forCall (λ_ _=>0) ⟨#[],args,[]⟩).memory:=
 (MakeChecks.laidMetH_plain _ _ _ (by kernel_rfl)).symm ▸ laidMet_of_run' 8 (by kernel_rfl) (by kernel_rfl)
set_option maxRecDepth 100000 in
theorem lifted(os:Os)(started:os.Started)(H:Type)(enc:TypeId × Value->H)(F:Stop.Interp) :
  ReturnsInHanded {} Tryz.checked os 5 .any ((Rows.OpenSpec.upto Rows.schemeMoreSpec).preRow enc Tryz.prog Tryz.f5 Rows.schemeMoreUptoRow.domain false Rows.schemeMoreUptoRow.laid) (((Rows.OpenSpec.upto Rows.schemeMoreSpec).at F).post enc Tryz.prog Tryz.f5 false true false false):=by
 have hx:∃ places,DataW.whole enc Tryz.prog ((World.doorLaid Tryz.prog 400 os).forCall (λ_ _=>0) ⟨#[],#[valW0,valW1],[]⟩).memory Tryz.f5.params.toList Rows.schemeMoreSpec.vars false #[valW0,valW1].toList 8=some ([datW0,datW1],[],places):=⟨[],by kernel_rfl⟩
 obtain⟨places,hx⟩:=hx
 refine returnsInHanded_of_row (C:=Tryz.checked) (s:=Rows.OpenSpec.upto Rows.schemeMoreSpec) own started (by kernel_rfl) Tryz.func5
  (witness_row_at (enc:=enc) (C:=Tryz.checked) false (World.doorLaid Tryz.prog 400 os) #[valW0,valW1] rfl (by kernel_rfl) (by kernel_rfl) (by kernel_rfl)
    (OpenSpec.preRow_of_cond 8 hx (by kernel_rfl) (λk hk=>by cases hk;kernel_rfl) (by kernel_rfl) (QgJ os _))) ?_
 intro W base args ds gs before hval hW _ hk _ hL hsh _
 exact contract H enc W base args ds gs before hval hW (hk _ rfl) hsh hL
theorem rowUpto:Rows.SchemeMoreUptoSaid:=
 OpenClaim.holds_of_cond 5 Tryz.f5 rfl rfl rfl rfl rfl rfl rfl ⟨rfl,rfl,rfl,rfl,rfl⟩ rfl rfl rfl rfl rfl (by kernel_rfl) Tryz.func5 (by kernel_rfl)
  (of_decide_eq_true (by kernel_rfl)) (by unfold Func.isWrapper;first|(rw[if_pos (by decide +kernel)];kernel_rfl)|(rw[if_neg (by decide +kernel)];exact⟨rfl,rfl⟩))
  (λos started H enc _ F=>by rw[OpenClaim.pre_eq_preRow];exact lifted os started H enc F)
theorem saidUpto:Rows.SchemeMoreUptoCardSaid:=
 Claim7.holds_tied_plain_at .later [] [.data, .data, .data, .widerDeep, .widerDeep] true (true, "59c5eab92c1cc4e136f64a07a190d267c0a26bd4fdf7ffd093ca18123ef38bc8") false
  rowUpto (λ_ h=>by cases h) (by kernel_rfl) (λ_ h=>by cases h) schemeMoreUpto_row_tie rfl ⟨rfl,rfl⟩ (by kernel_rfl) rfl
  (λf fn hf hfn=>by
    obtain rfl : f = 5 := Option.some.inj ((show Tryz.prog.funcNamed "camlet/camletlaw10.SchemeMore" = some 5 by kernel_rfl).symm.trans hf) |>.symm
    obtain rfl:fn=Tryz.f5:=(Option.some.inj (Tryz.func5.symm.trans hfn)).symm
    exact⟨by kernel_rfl,λj t ht=>by
     have hm:t ∈ [28,28]:=by
      have:=Array.mem_of_getElem? ht
      rw[<-Array.mem_toList_iff,params] at this
      exact this
     have hall:([28,28].all λu=>!Tryz.prog.wantsStandIn u)=true:=by kernel_rfl
     exact (show Tryz.prog.wantsStandIn t=false by simpa using List.all_eq_true.1 hall t hm)⟩)
  (by kernel_rfl)
end Go.Proofs.YtobelgghegmhhaaGreatDoor.schemeMore