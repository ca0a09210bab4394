/- From the abstract machine's answer to the row's contract. -/
import Derived.Test.YtemfpnlpnmglfaaA25
import Derived.Test.YtemfpnlpnmglfaaK
import Derived.Test.YtemfpnlpnmglfaaShelf
import Derived.Test.YtemfpnlpnmglfaaRDec
import Derived.ChangeSame
import Derived.ReadAgain
import Derived.ChangeOld
import Derived.Deep.DeepHandedRow
import Derived.WalkKit
import Derived.ProofKit
import Derived.OpenShut
set_option linter.unusedVariables false
set_option linter.unusedSimpArgs false
namespace Go.Am
open Go Go.RowKit
section
variable {H : Type} {enc : TypeId × Value → H} {P : Program}

theorem Left0.cell {w w' : World} (h : Left0 w w') {b off : Nat} (hb : b < w.heap.size) : w'.cell? ⟨b, off, none⟩ = w.cell? ⟨b, off, none⟩ := by
  unfold World.cell?
  rw [h.heap b hb]

theorem Left0.sameAt {w w' : World} (h : Left0 w w') {p : MemPlace} (hp : p.block < w.heap.size) : w.sameAt w' p := by
  cases p with
  | cell b off => exact h.cell hp
  | map b => exact h.heap b hp

theorem Left0.kept {w w' : World} (h : Left0 w w') (may : MemPlace → Prop) : w.keptBut w' may := by
  refine ⟨h.os, h.output, fun i hi => ?_⟩
  rw [h.heap i hi]
  cases w.heap[i]? with
  | none => rfl
  | some o => cases o with
    | cells c t fr => exact ⟨rfl, rfl, rfl, fun _ _ => rfl⟩
    | map es clock => exact .inr ⟨rfl, rfl⟩
    | _ => rfl

theorem all_carry {w w' : World} {base : Nat} {spare : Nat → Bool} {held : Bool} : ∀ {ts : List TypeId} {vs : List Value} {ds : List (DataW H)} {ps : List MemPlace}, DataW.TrodAll enc P w base spare held ts vs ds ps → (∀ p ∈ ps, w.sameAt w' p) → DataW.TrodAll enc P w' base spare held ts vs ds ps
  | [], [], [], _, h, _ => h
  | t :: ts, v :: vs, d :: ds, _, h, hs => by
    obtain ⟨p, q, ⟨n, h1⟩, h2, rfl⟩ := h
    exact ⟨p, q, ⟨n, DataW.trod_carry n _ _ _ h1 fun x hx => hs x (List.mem_append_left _ hx)⟩, all_carry h2 fun x hx => hs x (List.mem_append_right _ hx), rfl⟩

/-- a law that is true, and leaves all that was there -/
theorem post_left {f : Func} {s : ChangeSpec} {apart fresh handsOn : Bool} {W W' : World} {args : Array Value} {v : Value} {ds gs : List (DataW H)} {before pv : List MemPlace}
    (hW : DataW.Whole enc P f.params.toList s.vars apart W args.toList ds gs before)
    (hres : ∀ (b : Nat) (sp : Nat → Bool) (hd : Bool), DataW.TrodAll enc P W' b sp hd f.resultTypes.toList (v.resultList f.resultTypes.size) (s.fn H (ds ++ gs)).results [])
    (hargs : ∀ sp : Nat → Bool, (∀ p ∈ before, sp p.block = true) → ∃ pa, DataW.TrodAll enc P W' 0 sp true f.params.toList args.toList (s.fn H (ds ++ gs)).args pa)
    (hvars : ∀ sp : Nat → Bool, DataW.TrodVars enc P W' sp s.vars (s.fn H (ds ++ gs)).vars pv) (hl : Left0 W W') :
    s.post enc P f apart fresh handsOn false W args v W' := by
  have hold : ∀ p ∈ before, (fun b => decide (b < W.heap.size)) p.block = true := fun p hp => by simpa using hW.lt p hp
  obtain ⟨pa, ha⟩ := hargs (fun b => decide (b < W.heap.size)) hold
  exact ⟨ds, gs, before, [], pa, pv, hW, hres _ _ _, ha, hvars _, hl.kept _, fun h => by cases h⟩

end
end Go.Am

namespace Go.Proofs.Ytemfpnlpnmglfaa
open Go Go.Am Go.RowKit

theorem ext_C (f : Nat) (g : List AV → Option AV) (h : C.ext f = some g) : f = 109 ∧ g = extContains := by
  change findExt f exts = some g at h
  unfold exts findExt at h
  cases hf : Nat.beq f 109 with
  | false => rw [hf] at h; cases h
  | true =>
    rw [hf] at h
    exact ⟨Nat.eq_of_beq_eq_true hf, (Option.some.inj h).symm⟩

theorem types : ∀ t, TyOK Try.prog C t := types_ok types_all fun t ht => by
  show tis.getD t {} = {}
  rw [List.getD_eq_getElem?_getD, List.getElem?_eq_none ht]
  rfl

theorem ext_contains : ∀ (l : List AV) (v : AV), extContains l = some v → ∃ s t, l = [.str s, .str t] ∧ s.length < 4294967281 ∧ v = .bool (Go.Lib.contains s t)
  | [.str s, .str t], v, h => by
    simp only [extContains] at h
    split at h
    · cases h
      exact ⟨s, t, rfl, ‹_›, rfl⟩
    · cases h

theorem codeOK : CodeOK Try.prog C where
  ty := types
  code := code_ok rfl codes_all
  ext := by
    intro f g l v hf hg κ B s w vs hi hG hB hv
    obtain ⟨rfl, rfl⟩ := ext_C f g hf
    obtain ⟨x, y, rfl, hx, rfl⟩ := ext_contains l v hg
    obtain ⟨v1, r1, rfl, h1, v2, r2, rfl, h2, h3⟩ := hv
    cases r2 with
    | cons _ _ => cases h3
    | nil =>
      simp only [VR] at h1 h2
      obtain ⟨z1, rfl, rfl⟩ := h1
      obtain ⟨z2, rfl, rfl⟩ := h2
      obtain ⟨m, hm⟩ := hG.2 0 (by simp [C])
      have hc := hi.im 0 0 _ hm
      have hk := Try.strings_Contains z1 z2 m w (by simpa using hx) hc
      have he := enters_of Try.func109 (by kernel_rfl) (c := body Try.f109) (by kernel_rfl) #[.string z1, .string z2] w
      have hx := callsIn_wide (n := 0).2 hk
      refine .inr ⟨he, hx.mono fun e w' h => ?_⟩
      obtain ⟨h4, h5⟩ := h
      subst h4
      subst h5
      exact ⟨κ, .refl _ _, hi, by simp only [OutR, SR, VR]⟩

theorem globOK {W : World} (h : W.ShapedOpen Try.prog) : GlobOK C (kn0 W) := by
  refine ⟨fun g l hg => (by cases hg), fun g hg => ?_⟩
  obtain rfl : g = 0 := by simpa [C] using hg
  exact Try.laysM144.s1_3 W h

/-- the plain types of this seat's arguments -/
def plainS : List TypeId := [T_S_Dec, T_Dec, T_Exp, T_Pat, T_Ty, T_Con, T_Fun, T_Case, T_S_Exp, T_S_Case, T_S_Pat, T_S_Con, T_S_Fun, T_S_Ty, T_int, T_bool, T_string, T_ExpKind, T_PatKind, T_DecKind, T_TyKind]
theorem plain_all : plainS.all (plainT C.ti plainS) = true := by kernel_rfl

theorem arg_slice {P : Program} {W : World} {r : Reach} {base : Nat} {t e : TypeId} {v : Value} (hu : P.underlying t = some (.slice e)) (h : Value.okWide P W r base t v) : v.cells.toList = [v] := by
  unfold Value.okWide at h
  simp only [hu] at h
  unfold Cell.okWide at h
  simp only [hu] at h
  cases v <;> first | rfl | (simp [Cell.ok, hu] at h)

theorem arg_struct {P : Program} {W : World} {r : Reach} {base : Nat} {t : TypeId} {fs : Array Field} {v : Value} (hu : P.underlying t = some (.struct fs)) (h : Value.okWide P W r base t v) : ∃ cs, v = .agg cs := by
  unfold Value.okWide at h
  simp only [hu] at h
  obtain ⟨cs, rfl, _⟩ := h
  exact ⟨cs, rfl⟩

theorem kids : Kids Try.prog (· < Try.prog.types.size) := kids_rows (by kernel_rfl) (by kernel_rfl)
theorem full : ∀ t e, t < Try.prog.types.size → Try.prog.underlying t = some (.slice e) → 0 < Try.prog.cellsOf e := fun t e ht hu => slices_full_of Try.prog (by kernel_rfl) t e ht hu

/-- the arguments read again -/
theorem again {H : Type} {enc : TypeId × Value → H} {W W' : World} {ts : List TypeId} {vs : List Value} {ds : List (DataW H)} {ps : List MemPlace} (hts : ∀ t ∈ ts, t < Try.prog.types.size) (h : DataW.TrodAll enc Try.prog W 0 (fun _ => true) true ts vs ds ps) (hl : Left0 W W') (hlt : ∀ p ∈ ps, p.block < W.heap.size)
    (sp : Nat → Bool) (hsp : ∀ p ∈ ps, sp p.block = true) : ∃ pa, DataW.TrodAll enc Try.prog W' 0 sp true ts vs ds pa :=
  ⟨ps, all_carry (DataW.TrodAll.respare kids full hts h hsp) fun p hp => hl.sameAt (hlt p hp)⟩

end Go.Proofs.Ytemfpnlpnmglfaa
