/- The row: whatever expression and declaration come in (of bulk up to 1048576 together), the law answers true and leaves them as they were. -/
import Derived.Test.YtinphnakebeloaaGreatM8
import Derived.Test.YtinphnakebeloaaGreatM15
set_option linter.unusedVariables false
set_option linter.unusedSimpArgs false
namespace Go.Proofs.YtinphnakebeloaaGreat.scopeFree
open Go Go.Am Go.RowKit Go.ChangeShapes Go.WideShapes Go.ChangeAt
set_option linter.unusedVariables false
set_option maxRecDepth 4000
theorem own : ownKnob Tryz.prog.godebug = none := by kernel_rfl
theorem params : Tryz.f4.params.toList = [33, 38] := by kernel_rfl
theorem small33 : (33 : Nat) < Tryz.prog.types.size := of_decide_eq_true (by kernel_rfl)
theorem small38 : (38 : Nat) < Tryz.prog.types.size := of_decide_eq_true (by kernel_rfl)
theorem under4 : Tryz.prog.underlying 4 = some .bool := by kernel_rfl
theorem results : Tryz.f4.resultTypes = #[4] := by kernel_rfl
def plainS : List TypeId := [33, 29, 3, 9, 30, 31, 78, 43, 40, 41, 22, 38, 34, 35, 105, 4, 65, 62, 63, 36, 97]
theorem Qdz : plainS.all (plainT C.ti plainS) = true := by kernel_rfl
theorem contract (H : Type) (enc : TypeId × Value → H) (W : World) (base : Nat) (args : Array Value) (ds gs : List (DataW H)) (before : List MemPlace)
  (hval : ∀ (j : Nat) t v, Tryz.f4.params[j]? = some t → args[j]? = some v → Value.okWide Tryz.prog W .any base t v)
  (hW : DataW.Whole enc Tryz.prog Tryz.f4.params.toList Rows.scopeFreeSpec.vars false W args.toList ds gs before) (hk : Rows.uptoSmall H (ds ++ gs) = true) (hsh : W.ShapedOpen Tryz.prog) :
  Calls Tryz.prog 4 args W fun e W' => ∃ v, e = .returned v ∧ Rows.scopeFreeSpec.post enc Tryz.prog Tryz.f4 false true false false W args v W' := by
 have hW' := hW
 obtain ⟨p, q, hA0, hV, rfl, hfz, hnd⟩ := hW
 have hA := hA0
 rw [params] at hA
 obtain ⟨v0, vs0, d0, ds0, p0, q0, hargs, rfl, rfl, h0, r0⟩ := trodAll_cons hA
 obtain ⟨v1, vs1, d1, ds1, p1, q1, rfl, rfl, rfl, h1, r1⟩ := trodAll_cons r0
 obtain ⟨rfl, rfl, rfl⟩ := trodAll_nil r1
 obtain rfl : args = #[v0, v1] := by cases args; simp_all
 obtain ⟨rfl, rfl⟩ := trodVars_none hV
 obtain ⟨c0, rfl⟩ := Qgp (by kernel_rfl) (hval 0 33 v0 (by rw [← Array.getElem?_toList, params]; rfl) rfl)
 obtain ⟨n0, hn0⟩ := h0
 obtain ⟨l0, hc0, hok0⟩ := QdJ types Qdz n0 33 c0.toList (d0, p0) (by decide +kernel) hn0
 obtain ⟨c1, rfl⟩ := Qgp (by kernel_rfl) (hval 1 38 v1 (by rw [← Array.getElem?_toList, params]; rfl) rfl)
 obtain ⟨n1, hn1⟩ := h1
 obtain ⟨l1, hc1, hok1⟩ := QdJ types Qdz n1 38 c1.toList (d1, p1) (by decide +kernel) hn1
 have hb : Rows.uptoBulkAll ([d0, d1] ++ []) ≤ 1048576 := of_decide_eq_true hk
 simp only [List.append_nil, Rows.uptoBulkAll] at hb
 obtain ⟨x0, rfl, g0⟩ := (Q3j n0).exp d0 l0 hc0 (by omega)
 obtain ⟨x1, rfl, g1⟩ := (Q3j n1).dec d1 l1 hc1 (by omega)
 obtain ⟨sr, er, gr⟩ := Q8S x0 g0 x1 g1 (by omega)
 obtain ⟨m, hm⟩ := QgT.1 er
 have hvr : VRl (kn0 W) [x0.enc, x1.enc] (#[.agg c0, .agg c1] : Array Value).toList := (QfC (Qii hok0.vr hok0.ones) (QfC (Qii hok1.vr hok1.ones) rfl))
 refine (entry codeOK (by kernel_rfl) hm (globOK hsh) hvr).mono fun e W' ⟨he, hl⟩ => ?_
 subst he
 simp only [List.append_nil] at hW'
 refine ⟨_, rfl, Qi5 hW' (fun _ _ _ => ?_) (fun sp hsp => ?_) (fun _ => rfl) hl⟩
 ·rw [results]; exact trodAll_cons_mk (shut_bool under4 _) trodAll_mk0
 ·have hA1 : DataW.TrodAll enc Tryz.prog W 0 (fun _ => true) true Tryz.f4.params.toList [.agg c0, .agg c1] [d0, d1] (p0 ++ p1) := by simpa using hA0
  refine again (fun t ht => ?_) hA1 hl (fun p hp => hW'.lt p (by simpa using hp)) sp (by simpa using hsp)
  rw [params] at ht
  simp only [List.mem_cons, List.not_mem_nil, or_false] at ht
  rcases ht with rfl | rfl
  ·exact small33
  ·exact small38
def valW0 : Value := .agg #[.int .i64 0, .int .i64 0, .string ByteArray.empty, .int .i64 0, .slice none 0 0, .slice none 0 0, .slice none 0 0]
def datW0 {H : Type} : DataW H := .agg [.lit (.int .i64 0), .lit (.int .i64 0), .lit (.string []), .lit (.int .i64 0), .nil, .nil, .nil]
def valW1 : Value := .agg #[.int .i64 0, .int .i64 0, .string ByteArray.empty, .int .i64 0, .slice none 0 0, .slice none 0 0, .slice none 0 0]
def datW1 {H : Type} : DataW H := .agg [.lit (.int .i64 0), .lit (.int .i64 0), .lit (.string []), .lit (.int .i64 0), .nil, .nil, .nil]
set_option maxRecDepth 100000 in
theorem lifted (os : Os) (started : os.Started) (H : Type) (enc : TypeId × Value → H) (F : Stop.Interp) :
  ReturnsInHanded {} Tryz.checked os 4 .any ((Rows.OpenSpec.upto Rows.scopeFreeSpec).preRow enc Tryz.prog Tryz.f4 Rows.scopeFreeUptoRow.domain false Rows.scopeFreeUptoRow.laid) (((Rows.OpenSpec.upto Rows.scopeFreeSpec).at F).post enc Tryz.prog Tryz.f4 false true false false) := by
 have hx : ∃ places, DataW.whole enc Tryz.prog ((World.holding Tryz.prog os ⟨#[], #[], []⟩).forCall (fun _ _ => 0) ⟨#[], #[valW0, valW1], []⟩).memory Tryz.f4.params.toList Rows.scopeFreeSpec.vars false #[valW0, valW1].toList 8 = some ([datW0, datW1], [], places) := ⟨[], by kernel_rfl⟩
 obtain ⟨places, hx⟩ := hx
 refine returnsInHanded_of_row (C := Tryz.checked) (s := Rows.OpenSpec.upto Rows.scopeFreeSpec) own started (by kernel_rfl) Tryz.func4
  (witness_row_at (enc := enc) (C := Tryz.checked) false (World.holding Tryz.prog os ⟨#[], #[], []⟩) #[valW0, valW1] rfl (by kernel_rfl) (by kernel_rfl) (by kernel_rfl)
    (OpenSpec.preRow_of_cond 8 hx (by kernel_rfl) (fun k hk => by cases hk; kernel_rfl) (by kernel_rfl) (QiJ _ _))) ?_
 intro W base args ds gs before hval hW _ hk _ _ hsh _
 exact contract H enc W base args ds gs before hval hW (hk _ rfl) hsh
theorem saidUpto : Rows.ScopeFreeUptoSaid :=
 OpenClaim.holds_of_cond 4 Tryz.f4 rfl rfl rfl rfl rfl rfl rfl ⟨rfl, rfl, rfl, rfl, rfl⟩ rfl rfl rfl rfl rfl (by kernel_rfl) Tryz.func4 (by kernel_rfl)
  (of_decide_eq_true (by kernel_rfl)) (by unfold Func.isWrapper; first | (rw [if_pos (by decide +kernel)]; kernel_rfl) | (rw [if_neg (by decide +kernel)]; exact ⟨rfl, rfl⟩))
  (fun os started H enc _ F => by rw [OpenClaim.pre_eq_preRow]; exact lifted os started H enc F)
end Go.Proofs.YtinphnakebeloaaGreat.scopeFree