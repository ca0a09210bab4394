/- The row: whatever number come in (of bulk up to 1048576 together), the law answers true and leaves them as they were. -/
import Derived.Test.YtoahliipbclneaaM8
import Derived.Test.YtoahliipbclneaaM12
set_option linter.unusedVariables false
set_option linter.unusedSimpArgs false
namespace Go.Proofs.Ytoahliipbclneaa.declStart
open Go Go.Am Go.RowKit Go.ChangeShapes Go.WideShapes Go.ChangeAt
set_option linter.unusedVariables false
set_option maxRecDepth 4000
theorem own : ownKnob Try.prog.godebug = none := by kernel_rfl
theorem params : Try.f3.params.toList = [3] := by kernel_rfl
theorem small3 : (3 : Nat) < Try.prog.types.size := of_decide_eq_true (by kernel_rfl)
theorem under4 : Try.prog.underlying 4 = some .bool := by kernel_rfl
theorem results : Try.f3.resultTypes = #[4] := by kernel_rfl
def plainS : List TypeId := [3]
theorem QbC : plainS.all (plainT C.ti plainS) = true := by kernel_rfl
theorem contract (H : Type) (enc : TypeId × Value → H) (W : World) (base : Nat) (args : Array Value) (ds gs : List (DataW H)) (before : List MemPlace)
  (hval : ∀ (j : Nat) t v, Try.f3.params[j]? = some t → args[j]? = some v → Value.okWide Try.prog W .any base t v)
  (hW : DataW.Whole enc Try.prog Try.f3.params.toList Rows.declStartSpec.vars false W args.toList ds gs before) (hk : Rows.uptoSmall H (ds ++ gs) = true) (hsh : W.ShapedOpen Try.prog) :
  Calls Try.prog 3 args W fun e W' => ∃ v, e = .returned v ∧ Rows.declStartSpec.post enc Try.prog Try.f3 false true false false W args v W' := by
 have hW' := hW
 obtain ⟨p, q, hA0, hV, rfl, hfz, hnd⟩ := hW
 have hA := hA0
 rw [params] at hA
 obtain ⟨v0, vs0, d0, ds0, p0, q0, hargs, rfl, rfl, h0, r0⟩ := trodAll_cons hA
 obtain ⟨rfl, rfl, rfl⟩ := trodAll_nil r0
 obtain rfl : args = #[v0] := by cases args; simp_all
 obtain ⟨rfl, rfl⟩ := trodVars_none hV
 have hv0 := QbY (by kernel_rfl) (hval 0 3 v0 (by rw [← Array.getElem?_toList, params]; rfl) rfl)
 obtain ⟨n0, hn0⟩ := h0
 obtain ⟨l0, hc0, hok0⟩ := QbN types QbC n0 3 v0.cells.toList (d0, p0) (by decide +kernel) hn0
 have hb : Rows.uptoBulkAll ([d0] ++ []) ≤ 1048576 := of_decide_eq_true hk
 simp only [List.append_nil, Rows.uptoBulkAll] at hb
 obtain ⟨x0, hd0, rfl, g0⟩ := Qc7 (show (C.ti 3).k = .int .i64 by kernel_rfl) hc0
 have hvr0 := hok0.vr
 rw [hv0] at hvr0
 obtain ⟨w0, ws0, he0, hvr0, -⟩ := hvr0
 cases he0
 obtain ⟨sr, er, gr⟩ := Q4o x0 g0 (by omega)
 obtain ⟨m, hm⟩ := Q6n.1 er
 have hvr : VRl (kn0 W) [.int .i64 x0] (#[v0] : Array Value).toList := (QcN hvr0 rfl)
 refine (entry codeOK (by kernel_rfl) hm (globOK hsh) hvr).mono fun e W' ⟨he, hl⟩ => ?_
 subst he
 simp only [List.append_nil] at hW'
 refine ⟨_, rfl, QbD hW' (fun _ _ _ => ?_) (fun sp hsp => ?_) (fun _ => rfl) hl⟩
 ·rw [results]; exact trodAll_cons_mk (shut_bool under4 _) trodAll_mk0
 ·have hA1 : DataW.TrodAll enc Try.prog W 0 (fun _ => true) true Try.f3.params.toList [v0] [d0] (p0) := by simpa using hA0
  refine again (fun t ht => ?_) hA1 hl (fun p hp => hW'.lt p (by simpa using hp)) sp (by simpa using hsp)
  rw [params] at ht
  simp only [List.mem_cons, List.not_mem_nil, or_false] at ht
  subst ht
  exact small3
def valW0 : Value := .int .i64 0
def datW0 {H : Type} : DataW H := .lit (.int .i64 0)
set_option maxRecDepth 100000 in
theorem lifted (os : Os) (started : os.Started) (H : Type) (enc : TypeId × Value → H) (F : Stop.Interp) :
  ReturnsInHanded {} Try.checked os 3 .any ((Rows.OpenSpec.upto Rows.declStartSpec).preRow enc Try.prog Try.f3 Rows.declStartUptoRow.domain false Rows.declStartUptoRow.laid) (((Rows.OpenSpec.upto Rows.declStartSpec).at F).post enc Try.prog Try.f3 false true false false) := by
 have hx : ∃ places, DataW.whole enc Try.prog ((World.holding Try.prog os ⟨#[], #[], []⟩).forCall (fun _ _ => 0) ⟨#[], #[valW0], []⟩).memory Try.f3.params.toList Rows.declStartSpec.vars false #[valW0].toList 8 = some ([datW0], [], places) := ⟨[], by kernel_rfl⟩
 obtain ⟨places, hx⟩ := hx
 refine returnsInHanded_of_row (C := Try.checked) (s := Rows.OpenSpec.upto Rows.declStartSpec) own started (by kernel_rfl) Try.func3
  (witness_row_at (enc := enc) (C := Try.checked) false (World.holding Try.prog os ⟨#[], #[], []⟩) #[valW0] rfl (by kernel_rfl) (by kernel_rfl) (by kernel_rfl)
    (OpenSpec.preRow_of_cond 8 hx (by kernel_rfl) (fun k hk => by cases hk; kernel_rfl) (by kernel_rfl) (Qcj _ _))) ?_
 intro W base args ds gs before hval hW _ hk _ _ hsh _
 exact contract H enc W base args ds gs before hval hW (hk _ rfl) hsh
theorem saidUpto : Rows.DeclStartUptoSaid :=
 OpenClaim.holds_of_cond 3 Try.f3 rfl rfl rfl rfl rfl rfl rfl ⟨rfl, rfl, rfl, rfl, rfl⟩ rfl rfl rfl rfl rfl (by kernel_rfl) Try.func3 (by kernel_rfl)
  (of_decide_eq_true (by kernel_rfl)) (by unfold Func.isWrapper; first | (rw [if_pos (by decide +kernel)]; kernel_rfl) | (rw [if_neg (by decide +kernel)]; exact ⟨rfl, rfl⟩))
  (fun os started H enc _ F => by rw [OpenClaim.pre_eq_preRow]; exact lifted os started H enc F)
end Go.Proofs.Ytoahliipbclneaa.declStart