/- The row: whatever table and declaration come in (of bulk up to 1048576 together), the law answers true and leaves them as they were. -/
import Derived.Test.YtoahliipbclneaaGreatM8
import Derived.Test.YtoahliipbclneaaGreatM15
set_option linter.unusedVariables false
set_option linter.unusedSimpArgs false
namespace Go.Proofs.YtoahliipbclneaaGreat.declGrows
open Go Go.Am Go.RowKit Go.ChangeShapes Go.WideShapes Go.ChangeAt
set_option linter.unusedVariables false
set_option maxRecDepth 4000
theorem own : ownKnob Tryz.prog.godebug = none := by kernel_rfl
theorem params : Tryz.f5.params.toList = [23, 29] := by kernel_rfl
theorem small23 : (23 : Nat) < Tryz.prog.types.size := of_decide_eq_true (by kernel_rfl)
theorem small29 : (29 : Nat) < Tryz.prog.types.size := of_decide_eq_true (by kernel_rfl)
theorem und23 : Tryz.prog.underlying 23 = some (.slice 50) := by kernel_rfl
theorem under4 : Tryz.prog.underlying 4 = some .bool := by kernel_rfl
theorem results : Tryz.f5.resultTypes = #[4] := by kernel_rfl
def plainS : List TypeId := [23, 50, 9, 3, 4, 48, 46, 43, 44, 29, 24, 25, 54, 26, 84, 82, 79, 80, 78, 75, 76, 31, 27, 86]
theorem Qco : plainS.all (plainT C.ti plainS) = true := by kernel_rfl
theorem contract (H : Type) (enc : TypeId × Value → H) (W : World) (base : Nat) (args : Array Value) (ds gs : List (DataW H)) (before : List MemPlace)
  (hval : ∀ (j : Nat) t v, Tryz.f5.params[j]? = some t → args[j]? = some v → Value.okWide Tryz.prog W .any base t v)
  (hW : DataW.Whole enc Tryz.prog Tryz.f5.params.toList Rows.declGrowsSpec.vars false W args.toList ds gs before) (hk : Rows.uptoSmall H (ds ++ gs) = true) (hsh : W.ShapedOpen Tryz.prog) :
  Calls Tryz.prog 5 args W fun e W' => ∃ v, e = .returned v ∧ Rows.declGrowsSpec.post enc Tryz.prog Tryz.f5 false true false false W args v W' := by
 have hW' := hW
 obtain ⟨p, q, hA0, hV, rfl, hfz, hnd⟩ := hW
 have hA := hA0
 rw [params] at hA
 obtain ⟨v0, vs0, d0, ds0, p0, q0, hargs, rfl, rfl, h0, r0⟩ := trodAll_cons hA
 obtain ⟨v1, vs1, d1, ds1, p1, q1, rfl, rfl, rfl, h1, r1⟩ := trodAll_cons r0
 obtain ⟨rfl, rfl, rfl⟩ := trodAll_nil r1
 obtain rfl : args = #[v0, v1] := by cases args; simp_all
 obtain ⟨rfl, rfl⟩ := trodVars_none hV
 have hv0 := QgH und23 (hval 0 23 v0 (by rw [← Array.getElem?_toList, params]; rfl) rfl)
 obtain ⟨n0, hn0⟩ := h0
 obtain ⟨l0, hc0, hok0⟩ := Qcy types Qco n0 23 v0.cells.toList (d0, p0) (by decide +kernel) hn0
 obtain ⟨c1, rfl⟩ := Qjk (by kernel_rfl) (hval 1 29 v1 (by rw [← Array.getElem?_toList, params]; rfl) rfl)
 obtain ⟨n1, hn1⟩ := h1
 obtain ⟨l1, hc1, hok1⟩ := Qcy types Qco n1 29 c1.toList (d1, p1) (by decide +kernel) hn1
 have hb : Rows.uptoBulkAll ([d0, d1] ++ []) ≤ 1048576 := of_decide_eq_true hk
 simp only [List.append_nil, Rows.uptoBulkAll] at hb
 obtain ⟨x0, b0, rfl, g0⟩ := QfS n0 d0 l0 hc0 (by omega)
 have hvr0 := hok0.vr
 rw [hv0] at hvr0
 obtain ⟨w0, ws0, he0, hvr0, -⟩ := hvr0
 cases he0
 obtain ⟨x1, rfl, g1⟩ := (Q3e n1).dec d1 l1 hc1 (by omega)
 obtain ⟨sr, er, gr⟩ := Q6U x0 b0 g0 x1 g1 (by omega)
 obtain ⟨m, hm⟩ := Q9E.1 er
 have hvr : VRl (kn0 W) [encS b0 (x0.map Place.enc), x1.enc] (#[v0, .agg c1] : Array Value).toList := (Qeo hvr0 (Qeo (QlA hok1.vr hok1.ones) rfl))
 refine (entry codeOK (by kernel_rfl) hm (globOK hsh) hvr).mono fun e W' ⟨he, hl⟩ => ?_
 subst he
 simp only [List.append_nil] at hW'
 refine ⟨_, rfl, Qhp hW' (fun _ _ _ => ?_) (fun sp hsp => ?_) (fun _ => rfl) hl⟩
 ·rw [results]; exact trodAll_cons_mk (shut_bool under4 _) trodAll_mk0
 ·have hA1 : DataW.TrodAll enc Tryz.prog W 0 (fun _ => true) true Tryz.f5.params.toList [v0, .agg c1] [d0, d1] (p0 ++ p1) := by simpa using hA0
  refine again (fun t ht => ?_) hA1 hl (fun p hp => hW'.lt p (by simpa using hp)) sp (by simpa using hsp)
  rw [params] at ht
  simp only [List.mem_cons, List.not_mem_nil, or_false] at ht
  rcases ht with rfl | rfl
  ·exact small23
  ·exact small29
def valW0 : Value := .slice none 0 0
def datW0 {H : Type} : DataW H := .nil
def valW1 : Value := .agg #[.int .i64 0, .int .i64 0, .string ByteArray.empty, .int .i64 0, .slice none 0 0, .slice none 0 0, .slice none 0 0]
def datW1 {H : Type} : DataW H := .agg [.lit (.int .i64 0), .lit (.int .i64 0), .lit (.string []), .lit (.int .i64 0), .nil, .nil, .nil]
set_option maxRecDepth 100000 in
theorem lifted (os : Os) (started : os.Started) (H : Type) (enc : TypeId × Value → H) (F : Stop.Interp) :
  ReturnsInHanded {} Tryz.checked os 5 .any ((Rows.OpenSpec.upto Rows.declGrowsSpec).preRow enc Tryz.prog Tryz.f5 Rows.declGrowsUptoRow.domain false Rows.declGrowsUptoRow.laid) (((Rows.OpenSpec.upto Rows.declGrowsSpec).at F).post enc Tryz.prog Tryz.f5 false true false false) := by
 have hx : ∃ places, DataW.whole enc Tryz.prog ((World.holding Tryz.prog os ⟨#[], #[], []⟩).forCall (fun _ _ => 0) ⟨#[], #[valW0, valW1], []⟩).memory Tryz.f5.params.toList Rows.declGrowsSpec.vars false #[valW0, valW1].toList 8 = some ([datW0, datW1], [], places) := ⟨[], by kernel_rfl⟩
 obtain ⟨places, hx⟩ := hx
 refine returnsInHanded_of_row (C := Tryz.checked) (s := Rows.OpenSpec.upto Rows.declGrowsSpec) own started (by kernel_rfl) Tryz.func5
  (witness_row_at (enc := enc) (C := Tryz.checked) false (World.holding Tryz.prog os ⟨#[], #[], []⟩) #[valW0, valW1] rfl (by kernel_rfl) (by kernel_rfl) (by kernel_rfl)
    (OpenSpec.preRow_of_cond 8 hx (by kernel_rfl) (fun k hk => by cases hk; kernel_rfl) (by kernel_rfl) (Qid _ _))) ?_
 intro W base args ds gs before hval hW _ hk _ _ hsh _
 exact contract H enc W base args ds gs before hval hW (hk _ rfl) hsh
theorem saidUpto : Rows.DeclGrowsUptoSaid :=
 OpenClaim.holds_of_cond 5 Tryz.f5 rfl rfl rfl rfl rfl rfl rfl ⟨rfl, rfl, rfl, rfl, rfl⟩ rfl rfl rfl rfl rfl (by kernel_rfl) Tryz.func5 (by kernel_rfl)
  (of_decide_eq_true (by kernel_rfl)) (by unfold Func.isWrapper; first | (rw [if_pos (by decide +kernel)]; kernel_rfl) | (rw [if_neg (by decide +kernel)]; exact ⟨rfl, rfl⟩))
  (fun os started H enc _ F => by rw [OpenClaim.pre_eq_preRow]; exact lifted os started H enc F)
end Go.Proofs.YtoahliipbclneaaGreat.declGrows