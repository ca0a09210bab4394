/- The row: whatever type and two lists of types come in (of bulk up to 1048576 together), the law answers true and leaves them as they were. -/
import Derived.Test.YtfkihppbbeonkaaM5
set_option linter.unusedVariables false
set_option linter.unusedSimpArgs false
namespace Go.Proofs.Ytfkihppbbeonkaa.tyPutTwice
open Go Go.Am Go.RowKit Go.ChangeShapes Go.WideShapes Go.ChangeAt
set_option linter.unusedVariables false
set_option maxRecDepth 4000
theorem own : ownKnob Try.prog.godebug = none := by kernel_rfl
theorem params : Try.f6.params.toList = [25, 23, 23] := by kernel_rfl
theorem small23 : (23 : Nat) < Try.prog.types.size := of_decide_eq_true (by kernel_rfl)
theorem small25 : (25 : Nat) < Try.prog.types.size := of_decide_eq_true (by kernel_rfl)
theorem und23 : Try.prog.underlying 23 = some (.slice 25) := by kernel_rfl
theorem under4 : Try.prog.underlying 4 = some .bool := by kernel_rfl
theorem results : Try.f6.resultTypes = #[4] := by kernel_rfl
def plainS : List TypeId := [25, 22, 3, 9, 23]
theorem plain_all : plainS.all (plainT C.ti plainS) = true := by kernel_rfl
theorem contract (H : Type) (enc : TypeId × Value → H) (W : World) (base : Nat) (args : Array Value) (ds gs : List (DataW H)) (before : List MemPlace)
    (hval : ∀ (j : Nat) t v, Try.f6.params[j]? = some t → args[j]? = some v → Value.okWide Try.prog W .any base t v)
    (hW : DataW.Whole enc Try.prog Try.f6.params.toList Rows.tyPutTwiceSpec.vars false W args.toList ds gs before) (hk : Rows.uptoSmall H (ds ++ gs) = true) (hsh : W.ShapedOpen Try.prog) :
    Calls Try.prog 6 args W fun e W' => ∃ v, e = .returned v ∧ Rows.tyPutTwiceSpec.post enc Try.prog Try.f6 false true false false W args v W' := by
  have hW' := hW
  obtain ⟨p, q, hA0, hV, rfl, hfz, hnd⟩ := hW
  have hA := hA0
  rw [params] at hA
  obtain ⟨v0, vs0, d0, ds0, p0, q0, hargs, rfl, rfl, h0, r0⟩ := trodAll_cons hA
  obtain ⟨v1, vs1, d1, ds1, p1, q1, rfl, rfl, rfl, h1, r1⟩ := trodAll_cons r0
  obtain ⟨v2, vs2, d2, ds2, p2, q2, rfl, rfl, rfl, h2, r2⟩ := trodAll_cons r1
  obtain ⟨rfl, rfl, rfl⟩ := trodAll_nil r2
  obtain rfl : args = #[v0, v1, v2] := by cases args; simp_all
  obtain ⟨rfl, rfl⟩ := trodVars_none hV
  obtain ⟨c0, rfl⟩ := arg_agg (by kernel_rfl) (hval 0 25 v0 (by rw [← Array.getElem?_toList, params]; rfl) rfl)
  obtain ⟨n0, hn0⟩ := h0
  obtain ⟨l0, hc0, hok0⟩ := trod_conv types plain_all n0 25 c0.toList (d0, p0) (by decide +kernel) hn0
  have hv1 := arg_slice und23 (hval 1 23 v1 (by rw [← Array.getElem?_toList, params]; rfl) rfl)
  obtain ⟨n1, hn1⟩ := h1
  obtain ⟨l1, hc1, hok1⟩ := trod_conv types plain_all n1 23 v1.cells.toList (d1, p1) (by decide +kernel) hn1
  have hv2 := arg_slice und23 (hval 2 23 v2 (by rw [← Array.getElem?_toList, params]; rfl) rfl)
  obtain ⟨n2, hn2⟩ := h2
  obtain ⟨l2, hc2, hok2⟩ := trod_conv types plain_all n2 23 v2.cells.toList (d2, p2) (by decide +kernel) hn2
  have hb : Rows.uptoBulkAll ([d0, d1, d2] ++ []) ≤ 1048576 := of_decide_eq_true hk
  simp only [List.append_nil, Rows.uptoBulkAll] at hb
  obtain ⟨x0, rfl, g0⟩ := dec_ty n0 d0 l0 hc0 (by omega)
  obtain ⟨x1, b1, rfl, g1⟩ := dec_tys n1 d1 l1 hc1 (by omega)
  have hvr1 := hok1.vr
  rw [hv1] at hvr1
  obtain ⟨w1, ws1, he1, hvr1, -⟩ := hvr1
  cases he1
  obtain ⟨x2, b2, rfl, g2⟩ := dec_tys n2 d2 l2 hc2 (by omega)
  have hvr2 := hok2.vr
  rw [hv2] at hvr2
  obtain ⟨w2, ws2, he2, hvr2, -⟩ := hvr2
  cases he2
  obtain ⟨sr, er, gr⟩ := law08_TyPutTwice_row x0 g0 x1 b1 g1 x2 b2 g2 (by omega)
  obtain ⟨m, hm⟩ := callw_some.1 er
  have hvr : VRl (kn0 W) [x0.enc, encS b1 (x1.map Ty.enc), encS b2 (x2.map Ty.enc)] (#[.agg c0, v1, v2] : Array Value).toList := (vrl_cons (vr_agg hok0.vr hok0.ones) (vrl_cons hvr1 (vrl_cons hvr2 rfl)))
  refine (entry codeOK (by kernel_rfl) hm (globOK hsh) hvr).mono fun e W' ⟨he, hl⟩ => ?_
  subst he
  simp only [List.append_nil] at hW'
  refine ⟨_, rfl, post_left hW' (fun _ _ _ => ?_) (fun sp hsp => ?_) (fun _ => rfl) hl⟩
  · rw [results]; exact trodAll_cons_mk (shut_bool under4 _) trodAll_mk0
  · have hA1 : DataW.TrodAll enc Try.prog W 0 (fun _ => true) true Try.f6.params.toList [.agg c0, v1, v2] [d0, d1, d2] (p0 ++ p1 ++ p2) := by simpa using hA0
    refine again (fun t ht => ?_) hA1 hl (fun p hp => hW'.lt p (by simpa using hp)) sp (by simpa using hsp)
    rw [params] at ht
    simp only [List.mem_cons, List.not_mem_nil, or_false] at ht
    rcases ht with rfl | rfl | rfl
    · exact small25
    · exact small23
    · exact small23
def valW0 : Value := .agg #[.int .i64 0, .int .i64 0, .string ByteArray.empty, .slice none 0 0]
def datW0 {H : Type} : DataW H := .agg [.lit (.int .i64 0), .lit (.int .i64 0), .lit (.string []), .nil]
def valW1 : Value := .slice none 0 0
def datW1 {H : Type} : DataW H := .nil
def valW2 : Value := .slice none 0 0
def datW2 {H : Type} : DataW H := .nil
set_option maxRecDepth 100000 in
theorem lifted (os : Os) (started : os.Started) (H : Type) (enc : TypeId × Value → H) (F : Stop.Interp) :
    ReturnsInHanded {} Try.checked os 6 .any ((Rows.OpenSpec.upto Rows.tyPutTwiceSpec).preRow enc Try.prog Try.f6 Rows.tyPutTwiceUptoRow.domain false Rows.tyPutTwiceUptoRow.laid) (((Rows.OpenSpec.upto Rows.tyPutTwiceSpec).at F).post enc Try.prog Try.f6 false true false false) := by
  have hx : ∃ places, DataW.whole enc Try.prog ((World.holding Try.prog os ⟨#[], #[], []⟩).forCall (fun _ _ => 0) ⟨#[], #[valW0, valW1, valW2], []⟩).memory Try.f6.params.toList Rows.tyPutTwiceSpec.vars false #[valW0, valW1, valW2].toList 8 = some ([datW0, datW1, datW2], [], places) := ⟨[], by kernel_rfl⟩
  obtain ⟨places, hx⟩ := hx
  refine returnsInHanded_of_row (C := Try.checked) (s := Rows.OpenSpec.upto Rows.tyPutTwiceSpec) own started (by kernel_rfl) Try.func6
    (witness_row_at (enc := enc) (C := Try.checked) false (World.holding Try.prog os ⟨#[], #[], []⟩) #[valW0, valW1, valW2] rfl (by kernel_rfl) (by kernel_rfl) (by kernel_rfl)
      (OpenSpec.preRow_of_cond 8 hx (by kernel_rfl) (fun k hk => by cases hk; kernel_rfl) (by kernel_rfl) (laid_nil _ _))) ?_
  intro W base args ds gs before hval hW _ hk _ _ hsh _
  exact contract H enc W base args ds gs before hval hW (hk _ rfl) hsh
theorem saidUpto : Rows.TyPutTwiceUptoSaid :=
  OpenClaim.holds_of_cond 6 Try.f6 rfl rfl rfl rfl rfl rfl rfl ⟨rfl, rfl, rfl, rfl, rfl⟩ rfl rfl rfl rfl rfl (by kernel_rfl) Try.func6 (by kernel_rfl)
    (of_decide_eq_true (by kernel_rfl)) (by unfold Func.isWrapper; first | (rw [if_pos (by decide +kernel)]; kernel_rfl) | (rw [if_neg (by decide +kernel)]; exact ⟨rfl, rfl⟩))
    (fun os started H enc _ F => by rw [OpenClaim.pre_eq_preRow]; exact lifted os started H enc F)
end Go.Proofs.Ytfkihppbbeonkaa.tyPutTwice
