/- The row: whatever expression and pattern come in (of bulk up to 1048576 together), the law answers true and leaves them as they were. -/
import Derived.Test.YtemfpnlpnmglfaaRBase2
import Derived.Test.YtemfpnlpnmglfaaLTreeAlone
set_option linter.unusedVariables false
set_option linter.unusedSimpArgs false
namespace Go.Proofs.Ytemfpnlpnmglfaa.treeAlone
open Go Go.Am Go.RowKit Go.ChangeShapes Go.WideShapes Go.ChangeAt
set_option maxRecDepth 4000

theorem own : ownKnob Try.prog.godebug = none := by kernel_rfl
theorem params : Try.f4.params.toList = [33, 37] := by kernel_rfl
theorem small33 : (33 : Nat) < Try.prog.types.size := of_decide_eq_true (by kernel_rfl)
theorem small37 : (37 : Nat) < Try.prog.types.size := of_decide_eq_true (by kernel_rfl)
theorem under4 : Try.prog.underlying 4 = some .bool := by kernel_rfl
theorem results : Try.f4.resultTypes = #[4] := by kernel_rfl

theorem contract (H : Type) (enc : TypeId × Value → H) (W : World) (base : Nat) (args : Array Value) (ds gs : List (DataW H)) (before : List MemPlace)
    (hval : ∀ (j : Nat) t v, Try.f4.params[j]? = some t → args[j]? = some v → Value.okWide Try.prog W .any base t v)
    (hW : DataW.Whole enc Try.prog Try.f4.params.toList Rows.treeAloneSpec.vars false W args.toList ds gs before) (hk : Rows.uptoSmall H (ds ++ gs) = true) (hsh : W.ShapedOpen Try.prog) :
    Calls Try.prog 4 args W fun e W' => ∃ v, e = .returned v ∧ Rows.treeAloneSpec.post enc Try.prog Try.f4 false true false false W args v W' := by
  have hW' := hW
  obtain ⟨p, q, hA0, hV, rfl, hfz, hnd⟩ := hW
  have hA := hA0
  rw [params] at hA
  obtain ⟨v0, vs0, d0, ds0, p0, q0, hargs, rfl, rfl, h0, r0⟩ := trodAll_cons hA
  obtain ⟨v1, vs1, d1, ds1, p1, q1, rfl, rfl, rfl, h1, r1⟩ := trodAll_cons r0
  obtain ⟨rfl, rfl, rfl⟩ := trodAll_nil r1
  obtain rfl : args = #[v0, v1] := by cases args; simp_all
  obtain ⟨rfl, rfl⟩ := trodVars_none hV
  obtain ⟨c0, rfl⟩ := arg_agg (by kernel_rfl) (hval 0 33 v0 (by rw [← Array.getElem?_toList, params]; rfl) rfl)
  obtain ⟨c1, rfl⟩ := arg_agg (by kernel_rfl) (hval 1 37 v1 (by rw [← Array.getElem?_toList, params]; rfl) rfl)
  obtain ⟨n0, hn0⟩ := h0
  obtain ⟨n1, hn1⟩ := h1
  obtain ⟨l0, hc0, hok0⟩ := trod_conv types plain_all n0 33 c0.toList (d0, p0) (by decide +kernel) hn0
  obtain ⟨l1, hc1, hok1⟩ := trod_conv types plain_all n1 37 c1.toList (d1, p1) (by decide +kernel) hn1
  have hb : Rows.uptoBulkAll ([d0, d1] ++ []) ≤ 1048576 := of_decide_eq_true hk
  simp only [List.append_nil, Rows.uptoBulkAll] at hb
  obtain ⟨e, rfl, he⟩ := (dec_all n0).exp d0 l0 hc0 (by omega)
  obtain ⟨t, rfl, ht⟩ := dec_pat n1 d1 l1 hc1 (by omega)
  have he1 := he.1
  have ht1 := ht.1
  obtain ⟨s1, e1, g1⟩ := law05_TreeAlone_spec e t st0 (by omega) (by omega) he.2 ht.2
  obtain ⟨m, hm⟩ := callw_some.1 e1
  have hvr : VRl (kn0 W) [e.enc, t.enc] (#[.agg c0, .agg c1] : Array Value).toList := vrl_cons (vr_agg hok0.vr hok0.ones) (vrl_cons (vr_agg hok1.vr hok1.ones) rfl)
  refine (entry codeOK (by kernel_rfl) hm (globOK hsh) hvr).mono fun e W' ⟨he, hl⟩ => ?_
  subst he
  simp only [List.append_nil] at hW'
  refine ⟨_, rfl, post_left hW' (fun _ _ _ => ?_) (fun sp hsp => ?_) (fun _ => rfl) hl⟩
  · rw [results]; exact trodAll_cons_mk (shut_bool under4 _) trodAll_mk0
  · have hA1 : DataW.TrodAll enc Try.prog W 0 (fun _ => true) true Try.f4.params.toList [.agg c0, .agg c1] [d0, d1] (p0 ++ p1) := by simpa using hA0
    refine again (fun t ht => ?_) hA1 hl (fun p hp => hW'.lt p (by simpa using hp)) sp (by simpa using hsp)
    rw [params] at ht
    rcases List.mem_cons.1 ht with rfl | ht
    · exact small33
    · obtain rfl := List.mem_singleton.1 ht
      exact small37

set_option maxRecDepth 100000 in
theorem lifted (os : Os) (started : os.Started) (H : Type) (enc : TypeId × Value → H) (F : Stop.Interp) :
    ReturnsInHanded {} Try.checked os 4 .any ((Rows.OpenSpec.upto Rows.treeAloneSpec).preRow enc Try.prog Try.f4 Rows.treeAloneUptoRow.domain false Rows.treeAloneUptoRow.laid) (((Rows.OpenSpec.upto Rows.treeAloneSpec).at F).post enc Try.prog Try.f4 false true false false) := by
  have hx : ∃ places, DataW.whole enc Try.prog ((World.holding Try.prog os ⟨#[], #[], []⟩).forCall (fun _ _ => 0) ⟨#[], #[valE, valP], []⟩).memory Try.f4.params.toList Rows.treeAloneSpec.vars false #[valE, valP].toList 8 = some ([datE, datP], [], places) := ⟨[], by kernel_rfl⟩
  obtain ⟨places, hx⟩ := hx
  refine returnsInHanded_of_row (C := Try.checked) (s := Rows.OpenSpec.upto Rows.treeAloneSpec) own started (by kernel_rfl) Try.func4
    (witness_row_at (enc := enc) (C := Try.checked) false (World.holding Try.prog os ⟨#[], #[], []⟩) #[valE, valP] rfl (by kernel_rfl) (by kernel_rfl) (by kernel_rfl)
      (OpenSpec.preRow_of_cond 8 hx (by kernel_rfl) (fun k hk => by cases hk; kernel_rfl) (by kernel_rfl) (laid_nil _ _))) ?_
  intro W base args ds gs before hval hW _ hk _ _ hsh _
  exact contract H enc W base args ds gs before hval hW (hk _ rfl) hsh

theorem saidUpto : Rows.TreeAloneUptoSaid :=
  OpenClaim.holds_of_cond 4 Try.f4 rfl rfl rfl rfl rfl rfl rfl ⟨rfl, rfl, rfl, rfl, rfl⟩ rfl rfl rfl rfl rfl (by kernel_rfl) Try.func4 (by kernel_rfl)
    (of_decide_eq_true (by kernel_rfl)) (by unfold Func.isWrapper; first | (rw [if_pos (by decide +kernel)]; kernel_rfl) | (rw [if_neg (by decide +kernel)]; exact ⟨rfl, rfl⟩))
    (fun os started H enc _ F => by rw [OpenClaim.pre_eq_preRow]; exact lifted os started H enc F)

end Go.Proofs.Ytemfpnlpnmglfaa.treeAlone
