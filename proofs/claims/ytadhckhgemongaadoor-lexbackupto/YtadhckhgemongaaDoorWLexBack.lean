/- The row: whatever text come in (of bulk up to 1048576 together), the law answers true and leaves them as they were. -/
import Derived.Test.YtadhckhgemongaaDoorM4
import Derived.Test.YtadhckhgemongaaDoorCards
import Derived.SevenTiedAt
import Derived.LaidMore
set_option linter.unusedVariables false
set_option linter.unusedSimpArgs false
namespace Go.Proofs.YtadhckhgemongaaDoor.lexBack
open Go Go.Am Go.RowKit Go.ChangeShapes Go.WideShapes Go.ChangeAt
set_option linter.unusedVariables false
set_option maxRecDepth 4000
theorem own : ownKnob Tryd.prog.godebug = none := by kernel_rfl
theorem params : Tryd.f6.params.toList = [9] := by kernel_rfl
theorem small9 : (9 : Nat) < Tryd.prog.types.size := of_decide_eq_true (by kernel_rfl)
theorem under4 : Tryd.prog.underlying 4 = some .bool := by kernel_rfl
theorem results : Tryd.f6.resultTypes = #[4] := by kernel_rfl
def plainS : List TypeId := [9]
theorem plain_all : plainS.all (plainT C.ti plainS) = true := by kernel_rfl
theorem contract (H : Type) (enc : TypeId × Value → H) (W : World) (base : Nat) (args : Array Value) (ds gs : List (DataW H)) (before : List MemPlace)
    (hval : ∀ (j : Nat) t v, Tryd.f6.params[j]? = some t → args[j]? = some v → Value.okWide Tryd.prog W .any base t v)
    (hW : DataW.Whole enc Tryd.prog Tryd.f6.params.toList Rows.lexBackSpec.vars false W args.toList ds gs before) (hk : Rows.uptoSmall H (ds ++ gs) = true) (hsh : W.ShapedOpen Tryd.prog) (hL : laidMetH Tryd.prog Rows.lexBackUptoRow.laid W) :
    Calls Tryd.prog 6 args W fun e W' => ∃ v, e = .returned v ∧ Rows.lexBackSpec.post enc Tryd.prog Tryd.f6 false true false false W args v W' := by
  have hW' := hW
  obtain ⟨p, q, hA0, hV, rfl, hfz, hnd⟩ := hW
  have hA := hA0
  rw [params] at hA
  obtain ⟨v0, vs0, d0, ds0, p0, q0, hargs, rfl, rfl, h0, r0⟩ := trodAll_cons hA
  obtain ⟨rfl, rfl, rfl⟩ := trodAll_nil r0
  obtain rfl : args = #[v0] := by cases args; simp_all
  obtain ⟨rfl, rfl⟩ := trodVars_none hV
  have hv0 := arg_prim (by kernel_rfl) (hval 0 9 v0 (by rw [← Array.getElem?_toList, params]; rfl) rfl)
  obtain ⟨n0, hn0⟩ := h0
  obtain ⟨l0, hc0, hok0⟩ := trod_conv types plain_all n0 9 v0.cells.toList (d0, p0) (by decide +kernel) hn0
  have hb : Rows.uptoBulkAll ([d0] ++ []) ≤ 1048576 := of_decide_eq_true hk
  simp only [List.append_nil, Rows.uptoBulkAll] at hb
  obtain ⟨x0, hd0, rfl⟩ := conv_str (show (C.ti 9).k = .str by kernel_rfl) hc0
  have hd0 : d0 = .lit (.string x0) := hd0
  have g0 : x0.length < 2^24 := by rw [hd0] at hb; simp only [Rows.uptoBulk] at hb; omega
  have hvr0 := hok0.vr
  rw [hv0] at hvr0
  obtain ⟨w0, ws0, he0, hvr0, -⟩ := hvr0
  cases he0
  obtain ⟨sr, er, gr⟩ := law04_LexBack_row x0 g0 (by omega)
  obtain ⟨m, hm⟩ := callw_some.1 er
  have hvr : VRl (kn0 W) [.str x0] (#[v0] : Array Value).toList := (vrl_cons hvr0 rfl)
  refine (entry codeOK (by kernel_rfl) hm (globOK hL) hvr).mono fun e W' ⟨he, hl⟩ => ?_
  subst he
  simp only [List.append_nil] at hW'
  refine ⟨_, rfl, post_left hW' (fun _ _ _ => ?_) (fun sp hsp => ?_) (fun _ => rfl) hl⟩
  · rw [results]; exact trodAll_cons_mk (shut_bool under4 _) trodAll_mk0
  · have hA1 : DataW.TrodAll enc Tryd.prog W 0 (fun _ => true) true Tryd.f6.params.toList [v0] [d0] (p0) := by simpa using hA0
    refine again (fun t ht => ?_) hA1 hl (fun p hp => hW'.lt p (by simpa using hp)) sp (by simpa using hsp)
    rw [params] at ht
    simp only [List.mem_cons, List.not_mem_nil, or_false] at ht
    subst ht
    exact small9
def valW0 : Value := .string ByteArray.empty
def datW0 {H : Type} : DataW H := .lit (.string [])
set_option maxRecDepth 100000 in
theorem door_met (os : Os) (args : Array Value) : laidMetH Tryd.prog Rows.lexBackUptoRow.laid ((World.doorLaid Tryd.prog 400 os).forCall (fun _ _ => 0) ⟨#[], args, []⟩).memory :=
  (MakeChecks.laidMetH_plain _ _ _ (by kernel_rfl)).symm ▸ laidMet_of_run' 8 (by kernel_rfl) (by kernel_rfl)
set_option maxRecDepth 100000 in
theorem lifted (os : Os) (started : os.Started) (H : Type) (enc : TypeId × Value → H) (F : Stop.Interp) :
    ReturnsInHanded {} Tryd.checked os 6 .any ((Rows.OpenSpec.upto Rows.lexBackSpec).preRow enc Tryd.prog Tryd.f6 Rows.lexBackUptoRow.domain false Rows.lexBackUptoRow.laid) (((Rows.OpenSpec.upto Rows.lexBackSpec).at F).post enc Tryd.prog Tryd.f6 false true false false) := by
  have hx : ∃ places, DataW.whole enc Tryd.prog ((World.doorLaid Tryd.prog 400 os).forCall (fun _ _ => 0) ⟨#[], #[valW0], []⟩).memory Tryd.f6.params.toList Rows.lexBackSpec.vars false #[valW0].toList 8 = some ([datW0], [], places) := ⟨[], by kernel_rfl⟩
  obtain ⟨places, hx⟩ := hx
  refine returnsInHanded_of_row (C := Tryd.checked) (s := Rows.OpenSpec.upto Rows.lexBackSpec) own started (by kernel_rfl) Tryd.func6
    (witness_row_at (enc := enc) (C := Tryd.checked) false (World.doorLaid Tryd.prog 400 os) #[valW0] rfl (by kernel_rfl) (by kernel_rfl) (by kernel_rfl)
      (OpenSpec.preRow_of_cond 8 hx (by kernel_rfl) (fun k hk => by cases hk; kernel_rfl) (by kernel_rfl) (door_met os _))) ?_
  intro W base args ds gs before hval hW _ hk _ hL hsh _
  exact contract H enc W base args ds gs before hval hW (hk _ rfl) hsh hL
theorem rowUpto : Rows.LexBackUptoSaid :=
  OpenClaim.holds_of_cond 6 Tryd.f6 rfl rfl rfl rfl rfl rfl rfl ⟨rfl, rfl, rfl, rfl, rfl⟩ rfl rfl rfl rfl rfl (by kernel_rfl) Tryd.func6 (by kernel_rfl)
    (of_decide_eq_true (by kernel_rfl)) (by unfold Func.isWrapper; first | (rw [if_pos (by decide +kernel)]; kernel_rfl) | (rw [if_neg (by decide +kernel)]; exact ⟨rfl, rfl⟩))
    (fun os started H enc _ F => by rw [OpenClaim.pre_eq_preRow]; exact lifted os started H enc F)
theorem saidUpto : Rows.LexBackUptoCardSaid :=
  Claim7.holds_tied_plain_at .later [] [.widerDeep, .widerDeep] true (true, "6e6ef872e2b31575c9d0eab8c2c2a53a01f7e423b57b195ad59a35eb7464e6ad") false
    rowUpto (fun _ h => by cases h) (by kernel_rfl) (fun _ h => by cases h) lexBackUpto_row_tie rfl ⟨rfl, rfl⟩ (by kernel_rfl) rfl
    (fun f fn hf hfn => by
      obtain rfl : f = 6 := Option.some.inj ((show Tryd.prog.funcNamed "camlet/camletlaw04.LexBack" = some 6 by kernel_rfl).symm.trans hf) |>.symm
      obtain rfl : fn = Tryd.f6 := (Option.some.inj (Tryd.func6.symm.trans hfn)).symm
      exact ⟨by kernel_rfl, fun j t ht => by
        have hm : t ∈ [9] := by
          have := Array.mem_of_getElem? ht
          rw [← Array.mem_toList_iff, params] at this
          exact this
        have hall : ([9].all fun u => !Tryd.prog.wantsStandIn u) = true := by kernel_rfl
        exact (show Tryd.prog.wantsStandIn t = false by simpa using List.all_eq_true.1 hall t hm)⟩)
    (by kernel_rfl)
end Go.Proofs.YtadhckhgemongaaDoor.lexBack
