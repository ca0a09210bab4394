/- The row: whatever table come in (of bulk up to 1048576 together), the law answers true and leaves them as they were. -/
import Derived.Test.YtoahliipbclneaaM8
import Derived.Test.YtoahliipbclneaaM13
set_option linter.unusedVariables false
set_option linter.unusedSimpArgs false
namespace Go.Proofs.Ytoahliipbclneaa.declOnce
open Go Go.Am Go.RowKit Go.ChangeShapes Go.WideShapes Go.ChangeAt
set_option linter.unusedVariables false
set_option maxRecDepth 4000
theorem own : ownKnob Try.prog.godebug = none := by kernel_rfl
theorem params : Try.f4.params.toList = [23] := by kernel_rfl
theorem small23 : (23 : Nat) < Try.prog.types.size := of_decide_eq_true (by kernel_rfl)
theorem und23 : Try.prog.underlying 23 = some (.slice 34) := by kernel_rfl
theorem under4 : Try.prog.underlying 4 = some .bool := by kernel_rfl
theorem results : Try.f4.resultTypes = #[4] := by kernel_rfl
def plainS : List TypeId := [23, 34, 9, 3, 4, 32, 30, 27, 28]
theorem Qey : plainS.all (plainT C.ti plainS) = true := by kernel_rfl
theorem contract (H : Type) (enc : TypeId × Value → H) (W : World) (base : Nat) (args : Array Value) (ds gs : List (DataW H)) (before : List MemPlace)
  (hval : ∀ (j : Nat) t v, Try.f4.params[j]? = some t → args[j]? = some v → Value.okWide Try.prog W .any base t v)
  (hW : DataW.Whole enc Try.prog Try.f4.params.toList Rows.declOnceSpec.vars false W args.toList ds gs before) (hk : Rows.uptoSmall H (ds ++ gs) = true) (hsh : W.ShapedOpen Try.prog) :
  Calls Try.prog 4 args W fun e W' => ∃ v, e = .returned v ∧ Rows.declOnceSpec.post enc Try.prog Try.f4 false true false false W args v W' := by
 have hW' := hW
 obtain ⟨p, q, hA0, hV, rfl, hfz, hnd⟩ := hW
 have hA := hA0
 rw [params] at hA
 obtain ⟨v0, vs0, d0, ds0, p0, q0, hargs, rfl, rfl, h0, r0⟩ := trodAll_cons hA
 obtain ⟨rfl, rfl, rfl⟩ := trodAll_nil r0
 obtain rfl : args = #[v0] := by cases args; simp_all
 obtain ⟨rfl, rfl⟩ := trodVars_none hV
 have hv0 := QdM und23 (hval 0 23 v0 (by rw [← Array.getElem?_toList, params]; rfl) rfl)
 obtain ⟨n0, hn0⟩ := h0
 obtain ⟨l0, hc0, hok0⟩ := QeI types Qey n0 23 v0.cells.toList (d0, p0) (by decide +kernel) hn0
 have hb : Rows.uptoBulkAll ([d0] ++ []) ≤ 1048576 := of_decide_eq_true hk
 simp only [List.append_nil, Rows.uptoBulkAll] at hb
 obtain ⟨x0, b0, rfl, g0⟩ := Qd3 n0 d0 l0 hc0 (by omega)
 have hvr0 := hok0.vr
 rw [hv0] at hvr0
 obtain ⟨w0, ws0, he0, hvr0, -⟩ := hvr0
 cases he0
 obtain ⟨sr, er, gr⟩ := Q5Q x0 b0 g0 (by omega)
 obtain ⟨m, hm⟩ := Q7R.1 er
 have hvr : VRl (kn0 W) [encS b0 (x0.map Place.enc)] (#[v0] : Array Value).toList := (QfS hvr0 rfl)
 refine (entry codeOK (by kernel_rfl) hm (globOK hsh) hvr).mono fun e W' ⟨he, hl⟩ => ?_
 subst he
 simp only [List.append_nil] at hW'
 refine ⟨_, rfl, Qez hW' (fun _ _ _ => ?_) (fun sp hsp => ?_) (fun _ => rfl) hl⟩
 ·rw [results]; exact trodAll_cons_mk (shut_bool under4 _) trodAll_mk0
 ·have hA1 : DataW.TrodAll enc Try.prog W 0 (fun _ => true) true Try.f4.params.toList [v0] [d0] (p0) := by simpa using hA0
  refine again (fun t ht => ?_) hA1 hl (fun p hp => hW'.lt p (by simpa using hp)) sp (by simpa using hsp)
  rw [params] at ht
  simp only [List.mem_cons, List.not_mem_nil, or_false] at ht
  subst ht
  exact small23
def valW0 : Value := .slice none 0 0
def datW0 {H : Type} : DataW H := .nil
set_option maxRecDepth 100000 in
theorem lifted (os : Os) (started : os.Started) (H : Type) (enc : TypeId × Value → H) (F : Stop.Interp) :
  ReturnsInHanded {} Try.checked os 4 .any ((Rows.OpenSpec.upto Rows.declOnceSpec).preRow enc Try.prog Try.f4 Rows.declOnceUptoRow.domain false Rows.declOnceUptoRow.laid) (((Rows.OpenSpec.upto Rows.declOnceSpec).at F).post enc Try.prog Try.f4 false true false false) := by
 have hx : ∃ places, DataW.whole enc Try.prog ((World.holding Try.prog os ⟨#[], #[], []⟩).forCall (fun _ _ => 0) ⟨#[], #[valW0], []⟩).memory Try.f4.params.toList Rows.declOnceSpec.vars false #[valW0].toList 8 = some ([datW0], [], places) := ⟨[], by kernel_rfl⟩
 obtain ⟨places, hx⟩ := hx
 refine returnsInHanded_of_row (C := Try.checked) (s := Rows.OpenSpec.upto Rows.declOnceSpec) own started (by kernel_rfl) Try.func4
  (witness_row_at (enc := enc) (C := Try.checked) false (World.holding Try.prog os ⟨#[], #[], []⟩) #[valW0] rfl (by kernel_rfl) (by kernel_rfl) (by kernel_rfl)
    (OpenSpec.preRow_of_cond 8 hx (by kernel_rfl) (fun k hk => by cases hk; kernel_rfl) (by kernel_rfl) (Qfj _ _))) ?_
 intro W base args ds gs before hval hW _ hk _ _ hsh _
 exact contract H enc W base args ds gs before hval hW (hk _ rfl) hsh
theorem saidUpto : Rows.DeclOnceUptoSaid :=
 OpenClaim.holds_of_cond 4 Try.f4 rfl rfl rfl rfl rfl rfl rfl ⟨rfl, rfl, rfl, rfl, rfl⟩ rfl rfl rfl rfl rfl (by kernel_rfl) Try.func4 (by kernel_rfl)
  (of_decide_eq_true (by kernel_rfl)) (by unfold Func.isWrapper; first | (rw [if_pos (by decide +kernel)]; kernel_rfl) | (rw [if_neg (by decide +kernel)]; exact ⟨rfl, rfl⟩))
  (fun os started H enc _ F => by rw [OpenClaim.pre_eq_preRow]; exact lifted os started H enc F)
end Go.Proofs.Ytoahliipbclneaa.declOnce