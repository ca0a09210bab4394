/- The row: whatever two programs come in (of bulk up to 1048576 together), the law answers true and leaves them as they were. -/
import Derived.Test.YtemfpnlpnmglfaaRBase2
import Derived.Test.YtemfpnlpnmglfaaLTreeBare
set_option linter.unusedVariables false
set_option linter.unusedSimpArgs false
namespace Go.Proofs.Ytemfpnlpnmglfaa.treeBare
open Go Go.Am Go.RowKit Go.ChangeShapes Go.WideShapes Go.ChangeAt
set_option maxRecDepth 4000

theorem own : ownKnob Try.prog.godebug = none := by kernel_rfl
theorem under : Try.prog.underlying 22 = some (.slice 50) := by kernel_rfl
theorem under4 : Try.prog.underlying 4 = some .bool := by kernel_rfl
theorem params : Try.f8.params.toList = [22, 22] := by kernel_rfl
theorem small : (22 : Nat) < Try.prog.types.size := of_decide_eq_true (by kernel_rfl)
theorem results : Try.f8.resultTypes = #[4] := by kernel_rfl

theorem contract (H : Type) (enc : TypeId × Value → H) (W : World) (base : Nat) (args : Array Value) (ds gs : List (DataW H)) (before : List MemPlace)
    (hval : ∀ (j : Nat) t v, Try.f8.params[j]? = some t → args[j]? = some v → Value.okWide Try.prog W .any base t v)
    (hW : DataW.Whole enc Try.prog Try.f8.params.toList Rows.treeBareSpec.vars false W args.toList ds gs before) (hk : Rows.uptoSmall H (ds ++ gs) = true) (hsh : W.ShapedOpen Try.prog) :
    Calls Try.prog 8 args W fun e W' => ∃ v, e = .returned v ∧ Rows.treeBareSpec.post enc Try.prog Try.f8 false true false false W args v W' := by
  have hW' := hW
  obtain ⟨p, q, hA0, hV, rfl, hfz, hnd⟩ := hW
  have hA := hA0
  rw [params] at hA
  obtain ⟨v0, vs0, d0, ds0, p0, q0, hargs, rfl, rfl, h0, r0⟩ := trodAll_cons hA
  obtain ⟨v1, vs1, d1, ds1, p1, q1, rfl, rfl, rfl, h1, r1⟩ := trodAll_cons r0
  obtain ⟨rfl, rfl, rfl⟩ := trodAll_nil r1
  obtain rfl : args = #[v0, v1] := by cases args; simp_all
  obtain ⟨rfl, rfl⟩ := trodVars_none hV
  have hv0 := arg_slice under (hval 0 22 v0 (by rw [← Array.getElem?_toList, params]; rfl) rfl)
  have hv1 := arg_slice under (hval 1 22 v1 (by rw [← Array.getElem?_toList, params]; rfl) rfl)
  obtain ⟨n0, hn0⟩ := h0
  obtain ⟨n1, hn1⟩ := h1
  obtain ⟨l0, hc0, hok0⟩ := trod_conv types plain_all n0 22 v0.cells.toList (d0, p0) (by decide +kernel) hn0
  obtain ⟨l1, hc1, hok1⟩ := trod_conv types plain_all n1 22 v1.cells.toList (d1, p1) (by decide +kernel) hn1
  have hb : Rows.uptoBulkAll ([d0, d1] ++ []) ≤ 1048576 := of_decide_eq_true hk
  simp only [List.append_nil, Rows.uptoBulkAll] at hb
  obtain ⟨L, b, rfl, hsz, hnodes⟩ := dec_decs n0 d0 l0 hc0 (by omega)
  obtain ⟨M, c, rfl, hsz2, hnodes2⟩ := dec_decs n1 d1 l1 hc1 (by omega)
  obtain ⟨s1, e1, g1⟩ := law05_TreeBare_spec L M b c st0 (by omega) (by omega) (hnodes false)
  obtain ⟨m, hm⟩ := callw_some.1 e1
  have hvr0 := hok0.vr
  rw [hv0] at hvr0
  have hvr1 := hok1.vr
  rw [hv1] at hvr1
  have hvr : VRl (kn0 W) [encS b (L.map Dec.enc), encS c (M.map Dec.enc)] (#[v0, v1] : Array Value).toList := VRl.append.2 ⟨[v0], [v1], rfl, hvr0, hvr1⟩
  refine (entry codeOK (by kernel_rfl) hm (globOK hsh) hvr).mono fun e W' ⟨he, hl⟩ => ?_
  subst he
  simp only [List.append_nil] at hW'
  refine ⟨_, rfl, post_left hW' (fun _ _ _ => ?_) (fun sp hsp => ?_) (fun _ => rfl) hl⟩
  · rw [results]; exact trodAll_cons_mk (shut_bool under4 _) trodAll_mk0
  · have hA1 : DataW.TrodAll enc Try.prog W 0 (fun _ => true) true Try.f8.params.toList [v0, v1] [d0, d1] (p0 ++ p1) := by simpa using hA0
    refine again (fun t ht => ?_) hA1 hl (fun p hp => hW'.lt p (by simpa using hp)) sp (by simpa using hsp)
    rw [params] at ht
    rcases List.mem_cons.1 ht with rfl | ht
    · exact small
    · obtain rfl := List.mem_singleton.1 ht
      exact small

set_option maxRecDepth 100000 in
theorem lifted (os : Os) (started : os.Started) (H : Type) (enc : TypeId × Value → H) (F : Stop.Interp) :
    ReturnsInHanded {} Try.checked os 8 .any ((Rows.OpenSpec.upto Rows.treeBareSpec).preRow enc Try.prog Try.f8 Rows.treeBareUptoRow.domain false Rows.treeBareUptoRow.laid) (((Rows.OpenSpec.upto Rows.treeBareSpec).at F).post enc Try.prog Try.f8 false true false false) := by
  have hx : ∃ places, DataW.whole enc Try.prog ((World.holding Try.prog os ⟨#[], #[], []⟩).forCall (fun _ _ => 0) ⟨#[], #[.slice none 0 0, .slice none 0 0], []⟩).memory Try.f8.params.toList Rows.treeBareSpec.vars false #[Value.slice none 0 0, .slice none 0 0].toList 8 = some ([.nil, .nil], [], places) := ⟨[], by kernel_rfl⟩
  obtain ⟨places, hx⟩ := hx
  refine returnsInHanded_of_row (C := Try.checked) (s := Rows.OpenSpec.upto Rows.treeBareSpec) own started (by kernel_rfl) Try.func8
    (witness_row_at (enc := enc) (C := Try.checked) false (World.holding Try.prog os ⟨#[], #[], []⟩) #[.slice none 0 0, .slice none 0 0] rfl (by kernel_rfl) (by kernel_rfl) (by kernel_rfl)
      (OpenSpec.preRow_of_cond 8 hx (by kernel_rfl) (fun k hk => by cases hk; kernel_rfl) (by kernel_rfl) (laid_nil _ _))) ?_
  intro W base args ds gs before hval hW _ hk _ _ hsh _
  exact contract H enc W base args ds gs before hval hW (hk _ rfl) hsh

theorem saidUpto : Rows.TreeBareUptoSaid :=
  OpenClaim.holds_of_cond 8 Try.f8 rfl rfl rfl rfl rfl rfl rfl ⟨rfl, rfl, rfl, rfl, rfl⟩ rfl rfl rfl rfl rfl (by kernel_rfl) Try.func8 (by kernel_rfl)
    (of_decide_eq_true (by kernel_rfl)) (by unfold Func.isWrapper; first | (rw [if_pos (by decide +kernel)]; kernel_rfl) | (rw [if_neg (by decide +kernel)]; exact ⟨rfl, rfl⟩))
    (fun os started H enc _ F => by rw [OpenClaim.pre_eq_preRow]; exact lifted os started H enc F)

end Go.Proofs.Ytemfpnlpnmglfaa.treeBare
