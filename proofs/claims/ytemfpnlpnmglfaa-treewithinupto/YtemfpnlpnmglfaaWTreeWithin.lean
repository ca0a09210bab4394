/- The row: whatever program comes in (of bulk up to 1048576), the law answers true and leaves it as it was. -/
import Derived.Test.YtemfpnlpnmglfaaRBase2
import Derived.Test.YtemfpnlpnmglfaaLTreeWithin
set_option linter.unusedVariables false
set_option linter.unusedSimpArgs false
namespace Go.Proofs.Ytemfpnlpnmglfaa.treeWithin
open Go Go.Am Go.RowKit Go.ChangeShapes Go.WideShapes Go.ChangeAt
set_option maxRecDepth 4000

theorem own : ownKnob Try.prog.godebug = none := by kernel_rfl
theorem under : Try.prog.underlying 22 = some (.slice 50) := by kernel_rfl
theorem under4 : Try.prog.underlying 4 = some .bool := by kernel_rfl
theorem params : Try.f5.params.toList = [22] := by kernel_rfl
theorem small : (22 : Nat) < Try.prog.types.size := of_decide_eq_true (by kernel_rfl)
theorem results : Try.f5.resultTypes = #[4] := by kernel_rfl

theorem contract (H : Type) (enc : TypeId × Value → H) (W : World) (base : Nat) (args : Array Value) (ds gs : List (DataW H)) (before : List MemPlace)
    (hval : ∀ (j : Nat) t v, Try.f5.params[j]? = some t → args[j]? = some v → Value.okWide Try.prog W .any base t v)
    (hW : DataW.Whole enc Try.prog Try.f5.params.toList Rows.treeWithinSpec.vars false W args.toList ds gs before) (hk : Rows.uptoSmall H (ds ++ gs) = true) (hsh : W.ShapedOpen Try.prog) :
    Calls Try.prog 5 args W fun e W' => ∃ v, e = .returned v ∧ Rows.treeWithinSpec.post enc Try.prog Try.f5 false true false false W args v W' := by
  have hW' := hW
  obtain ⟨p, q, hA0, hV, rfl, hfz, hnd⟩ := hW
  have hA := hA0
  rw [params] at hA
  obtain ⟨v0, vs0, d0, ds0, p0, q0, hargs, rfl, rfl, h0, r0⟩ := trodAll_cons hA
  obtain ⟨rfl, rfl, rfl⟩ := trodAll_nil r0
  obtain rfl : args = #[v0] := by cases args; simp_all
  obtain ⟨rfl, rfl⟩ := trodVars_none hV
  have hv0 := arg_slice under (hval 0 22 v0 (by rw [← Array.getElem?_toList, params]; rfl) rfl)
  obtain ⟨n, hn⟩ := h0
  obtain ⟨l, hc, hok⟩ := trod_conv types plain_all n 22 v0.cells.toList (d0, p0) (by decide +kernel) hn
  have hb : Rows.uptoBulkAll ([d0] ++ []) ≤ 1048576 := of_decide_eq_true hk
  simp only [List.append_nil, Rows.uptoBulkAll] at hb
  obtain ⟨L, b, rfl, hsz, hnodes⟩ := dec_decs n d0 l hc (by omega)
  obtain ⟨s1, e1, g1⟩ := law05_TreeWithin_spec L b st0 (by omega) (hnodes false)
  obtain ⟨m, hm⟩ := callw_some.1 e1
  have hvr := hok.vr
  rw [hv0] at hvr
  refine (entry codeOK (by kernel_rfl) hm (globOK hsh) hvr).mono fun e W' ⟨he, hl⟩ => ?_
  subst he
  simp only [List.append_nil] at hW'
  refine ⟨_, rfl, post_left hW' (fun _ _ _ => ?_) (fun sp hsp => ?_) (fun _ => rfl) hl⟩
  · rw [results]; exact trodAll_cons_mk (shut_bool under4 _) trodAll_mk0
  · have hA1 : DataW.TrodAll enc Try.prog W 0 (fun _ => true) true Try.f5.params.toList [v0] [d0] p0 := by simpa using hA0
    exact again (fun t ht => by rw [params] at ht; obtain rfl := List.mem_singleton.1 ht; exact small) hA1 hl (fun p hp => hW'.lt p (by simpa using hp)) sp (by simpa using hsp)


set_option maxRecDepth 100000 in
theorem lifted (os : Os) (started : os.Started) (H : Type) (enc : TypeId × Value → H) (F : Stop.Interp) :
    ReturnsInHanded {} Try.checked os 5 .any ((Rows.OpenSpec.upto Rows.treeWithinSpec).preRow enc Try.prog Try.f5 Rows.treeWithinUptoRow.domain false Rows.treeWithinUptoRow.laid) (((Rows.OpenSpec.upto Rows.treeWithinSpec).at F).post enc Try.prog Try.f5 false true false false) := by
  have hx : ∃ places, DataW.whole enc Try.prog ((World.holding Try.prog os ⟨#[], #[], []⟩).forCall (fun _ _ => 0) ⟨#[], #[.slice none 0 0], []⟩).memory Try.f5.params.toList Rows.treeWithinSpec.vars false #[Value.slice none 0 0].toList 8 = some ([.nil], [], places) := ⟨[], by kernel_rfl⟩
  obtain ⟨places, hx⟩ := hx
  refine returnsInHanded_of_row (C := Try.checked) (s := Rows.OpenSpec.upto Rows.treeWithinSpec) own started (by kernel_rfl) Try.func5
    (witness_row_at (enc := enc) (C := Try.checked) false (World.holding Try.prog os ⟨#[], #[], []⟩) #[.slice none 0 0] rfl (by kernel_rfl) (by kernel_rfl) (by kernel_rfl)
      (OpenSpec.preRow_of_cond 8 hx (by kernel_rfl) (fun k hk => by cases hk; kernel_rfl) (by kernel_rfl) (laid_nil _ _))) ?_
  intro W base args ds gs before hval hW _ hk _ _ hsh _
  exact contract H enc W base args ds gs before hval hW (hk _ rfl) hsh

theorem saidUpto : Rows.TreeWithinUptoSaid :=
  OpenClaim.holds_of_cond 5 Try.f5 rfl rfl rfl rfl rfl rfl rfl ⟨rfl, rfl, rfl, rfl, rfl⟩ rfl rfl rfl rfl rfl (by kernel_rfl) Try.func5 (by kernel_rfl)
    (of_decide_eq_true (by kernel_rfl)) (by unfold Func.isWrapper; first | (rw [if_pos (by decide +kernel)]; kernel_rfl) | (rw [if_neg (by decide +kernel)]; exact ⟨rfl, rfl⟩))
    (fun os started H enc _ F => by rw [OpenClaim.pre_eq_preRow]; exact lifted os started H enc F)

end Go.Proofs.Ytemfpnlpnmglfaa.treeWithin
