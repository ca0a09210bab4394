/- The row: whatever declarations come in (of bulk up to 1048576 together), the law answers true and leaves them as they were. -/
import Derived.Test.YtgfhplcmcdimiaaGreatDoorM8
import Derived.Test.YtgfhplcmcdimiaaGreatDoorM9
import Derived.Test.YtgfhplcmcdimiaaGreatDoorM16
import Derived.Test.YtgfhplcmcdimiaaGreatDoorCards
import Derived.SevenTiedAt
import Derived.LaidMore
set_option linter.unusedVariables false
set_option linter.unusedSimpArgs false
namespace Go.Proofs.YtgfhplcmcdimiaaGreatDoor.showTells
open Go Go.Am Go.RowKit Go.ChangeShapes Go.WideShapes Go.ChangeAt
set_option linter.unusedVariables false
set_option maxRecDepth 4000
theorem own:ownKnob Tryz.prog.godebug=none:=by kernel_rfl
theorem params:Tryz.f4.params.toList=[25]:=by kernel_rfl
theorem small25:(25:Nat)<Tryz.prog.types.size:=of_decide_eq_true (by kernel_rfl)
theorem und25:Tryz.prog.underlying 25=some (.slice 76):=by kernel_rfl
theorem under4:Tryz.prog.underlying 4=some .bool:=by kernel_rfl
theorem results:Tryz.f4.resultTypes = #[4]:=by kernel_rfl
def plainS:List TypeId:=[25,76,72,3,9,73,123,4,35,32,33,24,125,31,28,29,27,22,23,74,127]
theorem QjM:plainS.all (plainT C.ti plainS)=true:=by kernel_rfl
theorem contract(H:Type)(enc:TypeId × Value→H)(W:World)(base:Nat)(args:Array Value)(ds gs:List (DataW H))(before:List MemPlace)
  (hval:∀ (j:Nat) t v,Tryz.f4.params[j]? = some t→args[j]? = some v→Value.okWide Tryz.prog W .any base t v)
  (hW:DataW.Whole enc Tryz.prog Tryz.f4.params.toList Rows.showTellsSpec.vars false W args.toList ds gs before) (hk:Rows.uptoSmall H (ds++gs)=true) (hsh:W.ShapedOpen Tryz.prog) (hL:laidMetH Tryz.prog Rows.showTellsUptoRow.laid W) :
  Calls Tryz.prog 4 args W λe W'=>∃ v,e = .returned v∧Rows.showTellsSpec.post enc Tryz.prog Tryz.f4 false true false false W args v W':=by
 have hW':=hW
 obtain⟨p,q,hA0,hV,rfl,hfz,hnd⟩:=hW
 have hA:=hA0
 rw[params] at hA
 obtain⟨v0,vs0,d0,ds0,p0,q0,hargs,rfl,rfl,h0,r0⟩:=trodAll_cons hA
 obtain⟨rfl,rfl,rfl⟩:=trodAll_nil r0
 obtain rfl:args = #[v0]:=by cases args;simp_all
 obtain⟨rfl,rfl⟩:=trodVars_none hV
 have hv0:=Qj7 und25 (hval 0 25 v0 (by rw[←Array.getElem?_toList,params];rfl) rfl)
 obtain⟨n0,hn0⟩:=h0
 obtain⟨l0,hc0,hok0⟩:=QjY types QjM n0 25 v0.cells.toList (d0,p0) (by decide +kernel) hn0
 have hb:Rows.uptoBulkAll ([d0]++[])≤1048576:=of_decide_eq_true hk
 simp only[List.append_nil,Rows.uptoBulkAll] at hb
 obtain⟨x0,b0,rfl,g0⟩:=Qji n0 d0 l0 hc0 (by omega)
 have hvr0:=hok0.vr
 rw[hv0] at hvr0
 obtain⟨w0,ws0,he0,hvr0,-⟩:=hvr0
 cases he0
 obtain⟨sr,er,gr⟩:=Q9j x0 b0 g0 (by omega)
 obtain⟨m,hm⟩:=Qic.1 er
 have hvr:VRl (kn0 W) [encS b0 (x0.map Dec.enc)] (#[v0]:Array Value).toList:=(Qln hvr0 rfl)
 refine (entry codeOK (by kernel_rfl) hm (globOK hL hsh) hvr (tabsOK hL)).mono λe W' ⟨he,hl⟩=>?_
 subst he
 simp only[List.append_nil] at hW'
 refine⟨_,rfl,QjN hW' (λ_ _ _=>?_) (λsp hsp=>?_) (λ_=>rfl) hl⟩
 ·rw[results];exact trodAll_cons_mk (shut_bool under4 _) trodAll_mk0
 ·have hA1:DataW.TrodAll enc Tryz.prog W 0 (λ_=>true) true Tryz.f4.params.toList [v0] [d0] (p0):=by simpa using hA0
  refine again (λt ht=>?_) hA1 hl (λp hp=>hW'.lt p (by simpa using hp)) sp (by simpa using hsp)
  rw[params] at ht
  simp only[List.mem_cons,List.not_mem_nil,or_false] at ht
  subst ht
  exact small25
def valW0:Value:=.slice none 0 0
def datW0{H:Type}:DataW H:=.nil
set_option maxRecDepth 100000 in
theorem Qkx(os:Os)(args:Array Value):laidMetH Tryz.prog Rows.showTellsUptoRow.laid ((World.doorLaid Tryz.prog 400 os).forCall (λ_ _=>0) ⟨#[],args,[]⟩).memory:=
 (MakeChecks.laidMetH_plain _ _ _ (by kernel_rfl)).symm ▸ laidMet_of_run' 8 (by kernel_rfl) (by kernel_rfl)
set_option maxRecDepth 100000 in
theorem lifted(os:Os)(started:os.Started)(H:Type)(enc:TypeId × Value→H)(F:Stop.Interp) :
  ReturnsInHanded {} Tryz.checked os 4 .any ((Rows.OpenSpec.upto Rows.showTellsSpec).preRow enc Tryz.prog Tryz.f4 Rows.showTellsUptoRow.domain false Rows.showTellsUptoRow.laid) (((Rows.OpenSpec.upto Rows.showTellsSpec).at F).post enc Tryz.prog Tryz.f4 false true false false):=by
 have hx:∃ places,DataW.whole enc Tryz.prog ((World.doorLaid Tryz.prog 400 os).forCall (λ_ _=>0) ⟨#[],#[valW0],[]⟩).memory Tryz.f4.params.toList Rows.showTellsSpec.vars false #[valW0].toList 8=some ([datW0],[],places):=⟨[],by kernel_rfl⟩
 obtain⟨places,hx⟩:=hx
 refine returnsInHanded_of_row (C:=Tryz.checked) (s:=Rows.OpenSpec.upto Rows.showTellsSpec) own started (by kernel_rfl) Tryz.func4
  (witness_row_at (enc:=enc) (C:=Tryz.checked) false (World.doorLaid Tryz.prog 400 os) #[valW0] rfl (by kernel_rfl) (by kernel_rfl) (by kernel_rfl)
    (OpenSpec.preRow_of_cond 8 hx (by kernel_rfl) (λk hk=>by cases hk;kernel_rfl) (by kernel_rfl) (Qkx os _))) ?_
 intro W base args ds gs before hval hW _ hk _ hL hsh _
 exact contract H enc W base args ds gs before hval hW (hk _ rfl) hsh hL
theorem rowUpto:Rows.ShowTellsUptoSaid:=
 OpenClaim.holds_of_cond 4 Tryz.f4 rfl rfl rfl rfl rfl rfl rfl ⟨rfl,rfl,rfl,rfl,rfl⟩ rfl rfl rfl rfl rfl (by kernel_rfl) Tryz.func4 (by kernel_rfl)
  (of_decide_eq_true (by kernel_rfl)) (by unfold Func.isWrapper;first | (rw[if_pos (by decide +kernel)];kernel_rfl) | (rw[if_neg (by decide +kernel)];exact⟨rfl,rfl⟩))
  (λos started H enc _ F=>by rw[OpenClaim.pre_eq_preRow];exact lifted os started H enc F)
theorem saidUpto:Rows.ShowTellsUptoCardSaid:=
 Claim7.holds_tied_plain_at .later [] [.data, .data, .data, .widerDeep, .widerDeep, .data, .data] true (true, "005ad5b3b30b82709bee5788399124d83247a4048dbda893cf24a7688b190b0a") false
  rowUpto (λ_ h=>by cases h) (by kernel_rfl) (λ_ h=>by cases h) showTellsUpto_row_tie rfl ⟨rfl,rfl⟩ (by kernel_rfl) rfl
  (λf fn hf hfn=>by
    obtain rfl : f = 4 := Option.some.inj ((show Tryz.prog.funcNamed "camlet/camletlaw07.ShowTells" = some 4 by kernel_rfl).symm.trans hf) |>.symm
    obtain rfl:fn=Tryz.f4:=(Option.some.inj (Tryz.func4.symm.trans hfn)).symm
    exact⟨by kernel_rfl,λj t ht=>by
     have hm:t ∈ [25]:=by
      have:=Array.mem_of_getElem? ht
      rw[←Array.mem_toList_iff,params] at this
      exact this
     have hall:([25].all λu=>!Tryz.prog.wantsStandIn u)=true:=by kernel_rfl
     exact (show Tryz.prog.wantsStandIn t=false by simpa using List.all_eq_true.1 hall t hm)⟩)
  (by kernel_rfl)
end Go.Proofs.YtgfhplcmcdimiaaGreatDoor.showTells