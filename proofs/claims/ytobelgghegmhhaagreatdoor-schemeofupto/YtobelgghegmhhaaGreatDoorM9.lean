/- A part of the proof: SBld3, RBaseS, SLex1, PTy, PSame, STree1, STree2, STree3, STree4, STree5. -/
import Derived.Test.YtobelgghegmhhaaGreatDoorM3
import Derived.Test.YtobelgghegmhhaaGreatDoorM4
import Derived.Test.YtobelgghegmhhaaGreatDoorM6
import Derived.Test.YtobelgghegmhhaaGreatDoorM7
import Derived.Test.YtobelgghegmhhaaGreatDoorM8
import Derived.KernelRfl
import Derived.Lib.LaidTab
import Derived.Lib.AppendIntMem
set_option linter.unusedVariables false
set_option linter.unusedSimpArgs false
set_option linter.unusedSimpArgs false
set_option linter.unusedVariables false
namespace Go.Proofs.YtobelgghegmhhaaGreatDoor
open Go Go.Proofs Go.Am Go.RowKit
theorem var2 {w : World} {b : Nat} {cs : Array Value} {t : TypeId} {fz : Nat × Nat} {u1 u2 : Value} (h : w.heap[b]? = some (.cells cs t fz)) (h2 : cs.toList.take 2 = [u1, u2]) :
  w.cell? ⟨b, 0, none⟩ = some u1 ∧ w.cell? ⟨b, 1, none⟩ = some u2 ∧ 2 ≤ cs.size := by
 have hl : 2 ≤ cs.size := by have := congrArg List.length h2; simp at this; omega
 have g : ∀ i, i < 2 → cs[i]? = [u1, u2][i]? := fun i hi => by
  rw [← h2, List.getElem?_take_of_lt hi, Array.getElem?_toList]
 refine ⟨?_, ?_, hl⟩
 ·simp only [World.cell?, h]; exact g 0 (by omega)
 ·simp only [World.cell?, h]; exact g 1 (by omega)
theorem QeU : ∀ l s v s', extBString 5 l s = some (v, s') → ∀ κ B w vs, Inv C κ B s w → GlobOK C κ → B ≤ w.heap.size → VRl κ l vs → Called Tryz.prog 86 vs.toArray w (CPost C κ B w (.ret v) s') := by
 intro l s v s' hg κ B w vs hi hG hB hv
 unfold extBString at hg
 split at hg
 ·rename_i loc
  obtain ⟨v1, r1, rfl, h1, h2⟩ := hv
  simp only [VRl] at h2
  subst h2
  simp only [VR] at h1
  obtain ⟨b, hb, rfl⟩ := h1
  split at hg
  ·rename_i y x hl
   obtain ⟨b', o, q1, q2, q3, q4⟩ := hi.locs loc _ hl
   rw [hb] at q1
   cases q1
   obtain ⟨cs, t, rfl, q5, ⟨u1, us, e1, r1, u2, us2, e2, r2, r3⟩, q7⟩ := q4
   subst e2
   simp only [SRs] at r3
   subst r3
   obtain ⟨c0, c1, hcs⟩ := var2 q3 e1
   have he := enters_of Tryz.func86 (by kernel_rfl) (c := body Tryz.f86) (by kernel_rfl) #[.pointer (some ⟨b, 0, none⟩)] w
   split at hg
   ·cases hg
    simp only [SR, VR] at r2
    subst r2
    refine .inr ⟨he, (callsIn_wide (n := 0).2 (QeN b w c1)).mono fun e w' h => ?_⟩
    obtain ⟨rfl, rfl⟩ := h
    exact ⟨κ, Mv.drew κ w, hi.drew, by simp only [OutR, SR, VR]; exact ⟨_, rfl, rfl⟩⟩
   ·rename_i k e lx
    split at hg
    ·rename_i bs hbs
     cases hq : (bs.isEmpty || !Nat.beq e 5) with
     | true => rw [hq] at hg; cases hg
     | false =>
       rw [hq] at hg
       simp only [cond_false] at hg
       simp only [Bool.or_eq_false_iff, Bool.not_eq_false'] at hq
       obtain rfl := Nat.eq_of_beq_eq_true hq.2
       split at hg
       ·rename_i htk
        cases hg
        obtain ⟨⟨a, n, c, rfl, hlen, hnc, hsp, sz, us, hcz, hH, hO, hV⟩, L, u, ht, hL, hLu⟩ := r2
        obtain ⟨e', v', ht', hTI⟩ := hi.toks k lx.length htk
        rw [ht] at ht'
        cases ht'
        have hvu := hLu rfl
        subst hvu
        obtain ⟨xs, hown, hs0, hox, hxi, hxo⟩ := hTI a.block rfl
        have hbl := Q82 hbs
        have hne : bs ≠ [] := by intro h; subst h; simp at hq
        rcases hown.2 with ⟨h0, _⟩ | ⟨g, cap, cur, hve, hBg, hgh, hnc2, hcm, hcsz, htake⟩
        ·cases h0
        ·cases hve
         have hvs := Q83 hbs hV
         have hsz : (C.ti 5).size = 1 := by kernel_rfl
         rw [← hbl] at c1 hnc2
         refine .inr ⟨he, (callsIn_wide (n := 0).2 (QeO b g _ cur bs w c1 hgh hne hnc2 hcm (by rw [hcsz, hsz, Nat.mul_one]) (fun j x hx => ?_))).mono fun e w' h => ?_⟩
         ·have := hi.im _ _ _ (hH j (.int .u8 x.toNat) (by rw [hvs, List.getElem?_map, hx]; rfl))
          simpa using this
         ·obtain ⟨rfl, rfl⟩ := h
          have hd := hi.drew
          obtain ⟨hI', hM⟩ := hd.dropTok (w' := w.drew.freeze ⟨g, 0, none⟩ bs.length) ht rfl (Qdo w.drew ⟨g, 0, none⟩ bs.length) (fun o => QeX _ _ _ _)
          refine ⟨_, (Mv.drew κ w).trans hM, hI', ?_⟩
          simp only [OutR, SR, VR]
          exact ⟨_, rfl, rfl⟩
       ·cases hg
    ·cases hg
   ·cases hg
  ·cases hg
 ·cases hg
theorem Qeg {w : World} {b : Nat} {cs : Array Value} {t : TypeId} {fz : Nat × Nat} {o : Nat} {v : Value} (h : w.heap[b]? = some (.cells cs t fz)) : (w.setCell ⟨b, o, none⟩ v).heap[b]? = some (.cells (cs.setIfInBounds o v) t fz) := by
 simp [World.setCell, Array.getElem?_modify, h]
theorem QcE (w : World) (a : Addr) (v : Value) : w.grownBy (w.setCell a v) (some a.block) :=
 ⟨rfl, rfl, rfl, by simp [World.setCell], fun k hk hne => by
   simp only [World.setCell, Array.getElem?_modify]
   rw [if_neg (fun e => hne (by rw [e]))]⟩
theorem Qgh : ∀ l s v s', extCopyCheck 121 l s = some (v, s') → ∀ κ B w vs, Inv C κ B s w → GlobOK C κ → B ≤ w.heap.size → VRl κ l vs → Called Tryz.prog 105 vs.toArray w (CPost C κ B w (.ret v) s') := by
 intro l s v s' hg κ B w vs hi hG hB hv
 unfold extCopyCheck at hg
 split at hg
 ·rename_i loc
  obtain ⟨v1, r1, rfl, h1, h2⟩ := hv
  simp only [VRl] at h2
  subst h2
  simp only [VR] at h1
  obtain ⟨b, hb, rfl⟩ := h1
  cases hbl : isBld 121 s loc with
  | false => rw [hbl] at hg; cases hg
  | true =>
    rw [hbl] at hg
    simp only [cond_true] at hg
    split at hg
    ·rename_i y x hl
     obtain ⟨b', o, q1, q2, q3, q4⟩ := hi.locs loc _ hl
     rw [hb] at q1
     cases q1
     obtain ⟨cs, t, rfl, q5, ⟨u1, us, e1, r1, u2, us2, e2, r2, r3⟩, q7⟩ := q4
     subst e2
     simp only [SRs] at r3
     subst r3
     obtain ⟨c0, c1, hcs⟩ := var2 q3 e1
     have gl : κ.gone loc = false := hi.lv loc _ hl (fun h => by cases h)
     have he := enters_of Tryz.func105 (by kernel_rfl) (c := body Tryz.f105) (by kernel_rfl) #[.pointer (some ⟨b, 0, none⟩)] w
     split at hg
     ·cases hg
      simp only [SR, VR] at r1
      subst r1
      unfold isBld at hbl
      obtain ⟨p, hp, hpe⟩ := List.any_eq_true.1 hbl
      simp only [Bool.and_eq_true] at hpe
      have p1 := Nat.eq_of_beq_eq_true hpe.1
      have p2 := Nat.eq_of_beq_eq_true hpe.2
      have hcap := hi.bls p hp
      rw [p1, p2] at hcap
      obtain ⟨_, k2, _, _, k5⟩ := hi.caps _ _ _ _ hcap
      obtain ⟨cs2, k6, k7⟩ := k5 gl b hb
      rw [q3] at k6
      cases k6
      have hsz : (C.ti 121).size = 2 := by kernel_rfl
      refine .inr ⟨he, (callsIn_wide (n := 0).2 (Qdb b w c0 (by simp [World.shape?, q3, k7, hsz]) (by simp [World.frozen?, q3]))).mono fun e w' h => ?_⟩
      obtain ⟨rfl, rfl⟩ := h
      have hcl : cs.toList = .pointer none :: u2 :: cs.toList.drop 2 := by
       have h := List.take_append_drop 2 cs.toList
       rw [show cs.toList.take 2 = [.pointer none, u2] from e1] at h
       exact h.symm
      have hcl2 : (cs.setIfInBounds 0 (.pointer (some ⟨b, 0, none⟩))).toList.take 2 = [.pointer (some ⟨b, 0, none⟩), u2] := by
       rw [Array.toList_setIfInBounds, hcl]; rfl
      have hones : Ones [Value.pointer (some ⟨b, 0, none⟩), u2] := fun u hu => by
       rcases List.mem_cons.1 hu with rfl | hu
       ·rfl
       ·have e1' : (cs.toList.take [Slot.val .nilp, x].length) = [.pointer none, u2] := e1
        exact q7 u (by rw [e1']; exact List.mem_cons_of_mem _ hu)
      obtain ⟨hI', hM⟩ := hi.setLoc (w' := w.setCell ⟨b, 0, none⟩ (.pointer (some ⟨b, 0, none⟩))) hb gl (x := .var [.val (.vp loc 0), x]) (o := .cells (cs.setIfInBounds 0 (.pointer (some ⟨b, 0, none⟩))) 121 (0, 0))
       ⟨_, _, rfl, by simp; omega, (by
         rw [show [Slot.val (.vp loc 0), x].length = 2 from rfl, hcl2]
         exact ⟨_, _, rfl, (by simp only [SR, VR]; exact ⟨b, hb, rfl⟩), _, _, rfl, r2, rfl⟩), by rw [show [Slot.val (.vp loc 0), x].length = 2 from rfl, hcl2]; exact hones⟩ (Qeg q3) (QcE w ⟨b, 0, none⟩ _) (fun cs3 t3 z3 h3 => by rw [q3] at h3; cases h3; exact ⟨_, rfl, by simp⟩)
      exact ⟨κ, hM, hI', by simp only [OutR, SR, VR]; exact ⟨[], rfl, rfl⟩⟩
     ·rename_i l2
      cases hll : Nat.beq l2 loc with
      | false => rw [hll] at hg; cases hg
      | true =>
        rw [hll] at hg
        cases hg
        obtain rfl := Nat.eq_of_beq_eq_true hll
        simp only [SR, VR] at r1
        obtain ⟨b2, hb2, rfl⟩ := r1
        rw [hb] at hb2
        cases hb2
        refine .inr ⟨he, (callsIn_wide (n := 0).2 (QeM b w c0)).mono fun e w' h => ?_⟩
        obtain ⟨rfl, rfl⟩ := h
        exact ⟨κ, .refl _ _, hi, by simp only [OutR, SR, VR]; exact ⟨[], rfl, rfl⟩⟩
     ·cases hg
    ·cases hg
 ·cases hg
theorem QiR : ∀ l s v s', extGrow 9 (tis.getD 9 {}) l s = some (v, s') → ∀ κ B w vs, Inv C κ B s w → GlobOK C κ → B ≤ w.heap.size → VRl κ l vs → Called Tryz.prog 124 vs.toArray w (CPost C κ B w (.ret v) s') := by
 intro l s v s' hg κ B w vs hi hG hB hv
 have hsz : (C.ti 9).size = 1 := by kernel_rfl
 have hby : (tis.getD 9 {}).bytes = 16 := by kernel_rfl
 unfold extGrow at hg
 split at hg
 ·rename_i n
  obtain ⟨v1, r1, rfl, h1, v2, r2, rfl, h2, h3⟩ := hv
  simp only [VRl] at h3
  subst h3
  simp only [VR] at h1 h2
  subst h1 h2
  have he := enters_of Tryz.func124 (by kernel_rfl) (c := body Tryz.f124) (by kernel_rfl) #[.slice none 0 0, .int .i64 n] w
  split at hg
  ·rename_i h0
   cases hg
   subst h0
   refine .inr ⟨he, (callsIn_wide (n := 0).2 (Qhw w)).mono fun e w' h => ?_⟩
   obtain ⟨rfl, rfl⟩ := h
   exact ⟨κ, .refl _ _, hi, by simp only [OutR, SR, VR]⟩
  ·split at hg
   ·rename_i h0 hc
    cases hg
    obtain ⟨m, rfl⟩ : ∃ m : Nat, n = m := ⟨n.toNat, by omega⟩
    rw [hby] at hc
    have hge := grownCap_ge w m 0 9
    have hle := grownCap_le_maxLen w m 0 9 (by unfold maxLen; omega)
    refine .inr ⟨he, (callsIn_wide (n := 0).2 (QiY m (by omega) (by omega) w)).mono fun e w' h => ?_⟩
    obtain ⟨z, hz, rfl, rfl⟩ := h
    have hgr : w.grownBy (w.drew.alloc (.cells z 9)) none := by
     have h := World.grownBy_alloc w.drew (.cells z 9) none
     exact ⟨h.os, h.tape, h.output, h.size, h.block⟩
    obtain ⟨κ', r1, r2, r3⟩ := hi.fresh_tok (et := 9) (l' := []) (v' := .slice (some ⟨w.heap.size, 0, none⟩) 0 (grownCap w m 0 9)) (zs := []) (g := w.heap.size) hgr rfl (Nat.le_refl _)
     ⟨by simp, .inr ⟨w.heap.size, _, z, rfl, hB, heap_alloc_new w.drew (.cells z 9), Nat.zero_le _, hle, by rw [hz, hsz, Nat.mul_one], by simp⟩⟩ (by rw [hsz]; decide) (by intro u hu; cases hu) (by simp only [flat, List.flatMap_nil, VRl]) (by intro u hu; cases hu)
    exact ⟨κ', r1, r2, r3⟩
   ·cases hg
 ·cases hg
end Go.Proofs.YtobelgghegmhhaaGreatDoor
set_option linter.unusedSimpArgs false
set_option linter.unusedVariables false
namespace Go.Proofs.YtobelgghegmhhaaGreatDoor
open Go Go.Proofs Go.Am Go.RowKit
def ExtOK (f : FuncId) (g : List AV → St → Option (Slot × St)) : Prop := ∀ l s v s', g l s = some (v, s') → ∀ κ B w vs, Inv C κ B s w → GlobOK C κ → B ≤ w.heap.size → VRl κ l vs → Called Tryz.prog f vs.toArray w (CPost C κ B w (.ret v) s')
theorem Q8e {f : Nat} {g : List AV → St → Option (Slot × St)} : ∀ {l : List (Nat × (List AV → St → Option (Slot × St)))}, findExt f l = some g → (f, g) ∈ l
 | [], h => by cases h
 | (k, c) :: r, h => by
   unfold findExt at h
   cases hf : Nat.beq f k with
   | true =>
     rw [hf] at h
     cases h
     rw [Nat.eq_of_beq_eq_true hf]
     exact List.mem_cons_self
   | false =>
     rw [hf] at h
     exact List.mem_cons_of_mem _ (Q8e h)
theorem pow10G : Tryz.prog.globalNamed "internal/strconv.uint64pow10" = some 3 := by kernel_rfl
theorem QiS : ExtOK 94 (pureX extItoa) := by
 intro l s sl s' hg κ B w vs hi hG hB hv
 obtain ⟨v, hq, rfl, rfl⟩ := Q6a hg
 clear hg
 have hg := hq
 clear hq
 unfold extItoa at hg
 split at hg
 ·rename_i n
  split at hg
  ·rename_i hn
   cases hg
   obtain ⟨v1, r1, rfl, h1, h3⟩ := hv
   simp only [VRl] at h3
   subst h3
   simp only [VR] at h1
   subst h1
   obtain ⟨h1, _, t, z, h2⟩ := hi.tabs (3, (Go.Lib.pow10Tab.map fun z => Value.int .u64 z).toArray) (by simp [C])
   have htab : Lib.TabIs Tryz.prog w "internal/strconv.uint64pow10" .u64 Lib.pow10Tab := by
    unfold Lib.TabIs World.var?
    rw [pow10G]
    simp only [Option.bind_some]
    rw [h2]
   have he := enters_of Tryz.func94 (by kernel_rfl) (c := body Tryz.f94) (by kernel_rfl) #[.int .i64 n] w
   refine .inr ⟨he, (callsIn_wide (n := 0).2 (Tryz.strconv_Itoa n hn.1 hn.2 w htab)).mono fun e w' h => ?_⟩
   obtain ⟨rfl, k, os, rfl⟩ := h
   have hb := Lib.below_grow w.heap.size w (Nat.le_refl _) k os
   exact ⟨κ, Mv.below hi hb, hi.below hb, by simp only [OutR, SR, VR]; exact ⟨_, rfl, rfl⟩⟩
  ·cases hg
 ·cases hg
theorem Qhl : ExtOK 100 (pureX extIndexByte) := by
 intro l s sl s' hg κ B w vs hi hG hB hv
 obtain ⟨v, hq, rfl, rfl⟩ := Q6a hg
 clear hg
 have hg := hq
 clear hq
 unfold extIndexByte at hg
 split at hg
 ·rename_i str c
  cases hg
  obtain ⟨v1, r1, rfl, h1, v2, r2, rfl, h2, h3⟩ := hv
  simp only [VRl] at h3
  subst h3
  simp only [VR] at h1 h2
  obtain ⟨z1, rfl, rfl⟩ := h1
  subst h2
  have he := enters_of Tryz.func100 (by kernel_rfl) (c := body Tryz.f100) (by kernel_rfl) #[.string z1, .int .u8 c] w
  refine .inr ⟨he, (callsIn_wide (n := 0).2 (Tryz.strings_IndexByte z1 c w)).mono fun e w' h => ?_⟩
  obtain ⟨h4, h5⟩ := h
  subst h4
  subst h5
  exact ⟨κ, .refl _ _, hi, by simp only [OutR, SR, VR]⟩
 ·cases hg
theorem Qdl : ExtOK 151 (pureX extContains) := by
 intro l s sl s' hg κ B w vs hi hG hB hv
 obtain ⟨v, hq, rfl, rfl⟩ := Q6a hg
 clear hg
 have hg := hq
 clear hq
 unfold extContains at hg
 split at hg
 ·rename_i x y
  split at hg
  ·rename_i hx
   cases hg
   obtain ⟨v1, r1, rfl, h1, v2, r2, rfl, h2, h3⟩ := hv
   simp only [VRl] at h3
   subst h3
   simp only [VR] at h1 h2
   obtain ⟨z1, rfl, rfl⟩ := h1
   obtain ⟨z2, rfl, rfl⟩ := h2
   obtain ⟨m, hm⟩ := hG.2 2 (by simp [C])
   have hc := hi.im 2 0 _ hm
   have hk := Tryz.strings_Contains z1 z2 m w (by simpa using hx) hc
   have he := enters_of Tryz.func151 (by kernel_rfl) (c := body Tryz.f151) (by kernel_rfl) #[.string z1, .string z2] w
   refine .inr ⟨he, (callsIn_wide (n := 0).2 hk).mono fun e w' h => ?_⟩
   obtain ⟨h4, h5⟩ := h
   subst h4
   subst h5
   exact ⟨κ, .refl _ _, hi, by simp only [OutR, SR, VR]⟩
  ·cases hg
 ·cases hg
theorem Qkn : ∀ p ∈ exts, ExtOK p.1 p.2 := by
 unfold exts
 repeat (refine List.forall_mem_cons.2 ⟨by first | exact QeU | exact Qgh | exact QiR | exact QiS | exact Qhl | exact Qdl, ?_⟩)
 intro p hp
 cases hp
theorem codeOK : CodeOK Tryz.prog C where
 ty := types
 code := Qkj rfl Qhi
 quiet := QkB
 ext := fun f g l s sl s' hf hg => Qkn (f, g) (Q8e hf) l s sl s' hg
theorem globOK {L : List (String × DataW Unit)} {W : World} (h : laidMetH Tryz.prog L W) (hs : W.ShapedOpen Tryz.prog) (e : (L.filter fun x => x.1 == "camlet/lex.words" || x.1 == "camlet/lex.signs") = laidL := by kernel_rfl) : GlobOK C (kn0 W) := by
 refine ⟨Qht (e ▸ h.filter _), fun g hg => ?_⟩
 obtain rfl : g = 2 := by simpa [C] using hg
 exact Tryz.laysM144.s1_3 W hs
def laidT : List (String × DataW Unit) := [("internal/strconv.uint64pow10", Lib.tabData .u64 Lib.pow10Tab)]
theorem tabsOK {L : List (String × DataW Unit)} {W : World} (h : laidMetH Tryz.prog L W) (e : (L.filter fun x => x.1 == "internal/strconv.uint64pow10") = laidT := by kernel_rfl) : TabsOK C (kn0 W) W.heap.size W := by
 intro p hp
 have h1 : laidMetH Tryz.prog laidT W := e ▸ h.filter _
 rw [MakeChecks.laidMetH_plain _ _ _ (by kernel_rfl)] at h1
 have ht := Lib.tabIs_of_head (t := 193) (e := 145) (n := 20) pow10G (by kernel_rfl) (by kernel_rfl) (by kernel_rfl) (by kernel_rfl) (by kernel_rfl) h1
 obtain rfl : p = (3, (Go.Lib.pow10Tab.map fun z => Value.int .u64 z).toArray) := by simpa [C] using hp
 have hc := ht.cell pow10G 0 (by decide)
 unfold Lib.TabIs World.var? at ht
 rw [pow10G] at ht
 simp only [Option.bind_some] at ht
 have hlt : 3 < W.heap.size := World.block_lt_of_cell? W ⟨3, 0, none⟩ hc
 refine ⟨hlt, ⟨_, hc⟩, ?_⟩
 split at ht
 ·rename_i cs t z hw
  cases ht
  exact ⟨t, z, hw⟩
 ·cases ht
end Go.Proofs.YtobelgghegmhhaaGreatDoor
namespace Go.Proofs.YtobelgghegmhhaaGreatDoor
open Go Go.Am
set_option linter.unusedVariables false
theorem Q30 (n : Int) (s : St) : cw (.f Q0g) [.int .u8 n] s = some (.ret (.val (.bool (digB n))), s) := by
 rw [QdF]; simp only [go_sem]; rfl
theorem Q31 (n : Int) (s : St) : cw (.f Q1L) [.int .u8 n] s = some (.ret (.val (.bool (firB n))), s) := by
 rw [QdG]; simp only [go_sem]; rfl
theorem Q5n (n : Int) (s : St) : cw (.f ZJ) [.int .u8 n] s = some (.ret (.val (.bool (amoB n))), s) := by
 rw [QdE]; simp only [go_sem, Q31, Q30]
 unfold amoB
 cases firB n <;> cases digB n <;> rfl
theorem Qii (F : Nat) (p : Int → Bool) (hF : ∀ n s, cw (.f F) [.int .u8 n] s = some (.ret (.val (.bool (p n))), s)) (L : Str) (hl : L.length < 2^62) : ∀ (suf pre : Str) (s : St) (i : Nat), pre ++ suf = L → i = pre.length →
  Q1s (.val (.fn F [])) (.val (.cp [.str L])) (.val (.int .i64 (i : Int))) s = some (.ret (.val (.str (pre ++ suf.takeWhile fun c => p c.toNat))), s) := by
 intro suf
 induction suf with
 | nil =>
   intro pre s i h hi
   rw [List.append_nil] at h
   subst h hi
   rw [Q4L]
   simp only [go_sem, Nat.reduceAdd, Nat.reduceLeDiff, Int.lt_irrefl, Q3o Qh (Nat.le_refl pre.length)]
   simp
 | cons c suf ih =>
   intro pre s i h hi
   subst hi
   have hc : L[pre.length]? = some c := by rw [← h]; simp
   have hlt : pre.length < L.length := by rw [← h]; simp
   have := ih (pre ++ [c]) s (pre ++ [c]).length (by simp [h]) rfl
   rw [Q4L]
   have hb : decide ((pre.length : Int) < (L.length : Int)) = true := by simpa using hlt
   simp only [go_sem, Nat.reduceAdd, Nat.reduceLeDiff, hb, Q0Q Qh hc, hF]
   rw [wrap64 (by omega) (by omega)]
   have e : (pre.length : Int) + 1 = ((pre ++ [c]).length : Int) := by simp
   rw [e, this, List.takeWhile_cons]
   cases hp : p c.toNat
   ·simp only [go_sem, Q3o Qh (Nat.le_of_lt hlt)]
    rw [← h]; simp
   ·simp only [go_sem, Int.reduceNeg]
theorem Q7D (F : Nat) (p : Int → Bool) (hF : ∀ n s, cw (.f F) [.int .u8 n] s = some (.ret (.val (.bool (p n))), s)) (pre suf : Str) (i : Nat) (hi : i = pre.length) (hl : (pre ++ suf).length < 2^62) (s : St) :
  cw (.f Q0h) [.int .i64 (i : Int), .fn F [], .cp [.str (pre ++ suf)]] s = some (.ret (.val (.str (pre ++ suf.takeWhile fun c => p c.toNat))), s) := by
 rw [QdI]
 exact Qii F p hF (pre ++ suf) hl suf pre s i rfl hi
theorem Qgq (x : Str) (L : List Str) (hl : L.length < 2^62) : ∀ (suf pre : List Str) (s : St) (i : Nat), pre ++ suf = L → i = pre.length →
  ∃ k : Int, QG (.val (.sl (L.map .str))) (.val (.str x)) (.val (.int .i64 L.length)) (.val (.int .i64 (i : Int))) s = some (.ret (.val (.int .i64 k)), s) ∧ decide (k ≥ 0) = hasL suf x := by
 intro suf
 induction suf with
 | nil =>
   intro pre s i h hi
   rw [List.append_nil] at h
   subst h hi
   rw [ZP]
   simp only [go_sem, Int.reduceNeg, Int.lt_irrefl]
   exact ⟨-1, rfl, rfl⟩
 | cons c suf ih =>
   intro pre s i h hi
   subst hi
   obtain ⟨f1, f2, f3⟩ := Qc (f := AV.str) (x := .val (.sl (L.map .str))) (sz := 1) rfl h hl rfl (by decide)
   obtain ⟨k, h1, h2⟩ := ih (pre ++ [c]) s (pre.length + 1) (by simp [h]) (by simp)
   rw [ZP]
   simp only [go_sem, Int.reduceNeg, Nat.reduceAdd, Nat.reduceLeDiff, f1, f2, f3]
   rw [h1]
   simp only [hasL, List.any_cons]
   by_cases hx : x = c
   ·subst hx
    simp only [go_sem, Int.reduceNeg]
    exact ⟨_, rfl, by simp⟩
   ·simp only [go_sem, hx]
    exact ⟨k, rfl, h2⟩
theorem Q22 (x : Str) (L : List Str) (hl : L.length < 2^62) (s : St) : cw (.f Qe) [.sl (L.map .str), .str x] s = some (.ret (.val (.bool (hasL L x))), s) := by
 rw [Q1R]
 obtain ⟨k, h1, h2⟩ := Qgq x L hl L [] s 0 rfl rfl
 have hi : cw (.f QQ) [.sl (L.map .str), .str x] s = some (.ret (.val (.int .i64 k)), s) := by
  rw [Q2N]
  simp only [go_sem, Int.reduceNeg]
  exact h1
 simp only [go_sem, hi, h2]
theorem QaG (a b : Str) (s : St) : cw (.f Q1e) [.str a, .str b] s = some (.ret (.val (.bool (decide (b.length ≤ a.length) && decide (a.take b.length = b)))), s) := by
 have h : cw (.f Qw) [.str a, .str b] s = some (.ret (.val (.bool (decide (b.length ≤ a.length) && decide (a.take b.length = b)))), s) := by
  rw [ZN]
  by_cases hb : b.length ≤ a.length
  ·have hb' : decide ((a.length : Int) ≥ (b.length : Int)) = true := by simpa using hb
   simp only [go_sem, hb', hb, Q3o Qh hb]
  ·have hb' : decide ((a.length : Int) ≥ (b.length : Int)) = false := by simpa using hb
   simp only [go_sem, hb', hb]
 rw [Q6d]
 simp only [go_sem, h]
theorem QaJ (a : Str) (c : UInt8) (s : St) : cw (.f Q1f) [.str a, .int .u8 c.toNat] s = some (.ret (.val (.int .i64 (Go.Lib.indexByte a c))), s) := by
 have e : C.ext Q1f = some (pureX extIndexByte) := by kernel_rfl
 rw [cw, Q5]; unfold callR; rw [e]; simp [pureX, extIndexByte]
theorem Qiz (c : UInt8) : decide (Go.Lib.indexByte [32, 9, 10, 13] c ≥ 0) = blankC c := by
 simp only [Go.Lib.indexByte, blankC]
 by_cases h1 : c = 32
 ·subst h1; rfl
 by_cases h2 : c = 9
 ·subst h2; rfl
 by_cases h3 : c = 10
 ·subst h3; rfl
 by_cases h4 : c = 13
 ·subst h4; rfl
 have g : ∀ x : UInt8, c ≠ x → (x == c) = false := fun x h => by simp [Ne.symm h]
 simp [g _ h1, g _ h2, g _ h3, g _ h4, h1, h2, h3, h4]
theorem Qfb (L : Str) (hl : L.length < 2^61) : ∀ (suf pre : Str) (d : Int) (s : St) (i : Nat), pre ++ suf = L → i = pre.length → -(pre.length : Int) ≤ d → d ≤ pre.length →
  ZC (.val (.str L)) (.val (.int .i64 (i : Int))) (.val (.int .i64 d)) s = some (.ret (.val (.int .i64 (match lxCom d suf with | some k => ((i + k : Nat) : Int) | none => -1))), s) := by
 intro suf
 generalize hn : suf.length = n
 induction n using Nat.strongRecOn generalizing suf with
 | ind n ih =>
   intro pre d s i h hi hd1 hd2
   subst hi
   have hL : pre.length + suf.length = L.length := by rw [← h]; simp
   rw [Q8M]
   match suf, hn, h, hL with
   | [], _, h, hL =>
     simp only [List.length_nil, Nat.add_zero] at hL
     simp only [go_sem, Int.reduceNeg]
     rw [wrap64 (by omega) (by omega)]
     have hb : decide ((pre.length : Int) + 1 < (L.length : Int)) = false := by simp; omega
     simp only [go_sem, Int.reduceNeg, hb, lxCom]
   | [_], _, h, hL =>
     simp only [List.length_cons, List.length_nil] at hL
     simp only [go_sem, Int.reduceNeg]
     rw [wrap64 (by omega) (by omega)]
     have hb : decide ((pre.length : Int) + 1 < (L.length : Int)) = false := by simp; omega
     simp only [go_sem, Int.reduceNeg, hb, lxCom]
   | a :: b :: r, hn, h, hL =>
     simp only [List.length_cons] at hL hn
     simp only [go_sem, Int.reduceNeg]
     rw [wrap64 (by omega) (by omega), wrap64 (by omega) (by omega)]
     have hb : decide ((pre.length : Int) + 1 < (L.length : Int)) = true := by simp; omega
     have hs := QgE (t := C.ti Q2) Qh (l := L) (i := pre.length) (j := pre.length + 2) (by omega) (by omega)
     have ht : (L.take (pre.length + 2)).drop pre.length = [a, b] := by rw [← h, Qkt]; rfl
     rw [ht] at hs
     have e2 : (pre.length : Int) + 2 = ((pre.length + 2 : Nat) : Int) := by omega
     rw [e2]
     simp only [go_sem, Int.reduceNeg, hb, hs]
     rw [wrap64 (by omega) (by omega), wrap64 (by omega) (by omega)]
     have i1 := ih r.length (by omega) r rfl (pre ++ [a, b]) (d + 1) s (pre.length + 2) (by simp [h]) (by simp) (by simp; omega) (by simp; omega)
     have i2 := ih r.length (by omega) r rfl (pre ++ [a, b]) (d - 1) s (pre.length + 2) (by simp [h]) (by simp) (by simp; omega) (by simp; omega)
     have i3 := ih (r.length + 1) (by omega) (b :: r) (by simp) (pre ++ [a]) d s (pre.length + 1) (by simp [h]) (by simp) (by simp; omega) (by simp; omega)
     have e1 : (pre.length : Int) + 1 = ((pre.length + 1 : Nat) : Int) := by omega
     rw [e1, i1, i2, i3]
     rw [QiG]
     have c1 : decide ([a, b] = [40, 42]) = (decide (a = 40) && decide (b = 42)) := by simp [Bool.decide_and]
     have c2 : decide ([a, b] = [42, 41]) = (decide (a = 42) && decide (b = 41)) := by simp [Bool.decide_and]
     rw [c1, c2]
     cases decide (a = 40) && decide (b = 42)
     ·cases decide (a = 42) && decide (b = 41)
      ·simp only [go_sem, Int.reduceNeg]
       cases lxCom d (b :: r) <;> simp only [go_sem, Int.reduceNeg]
       simp; omega
      ·simp only [go_sem, Int.reduceNeg]
       cases decide (d - 1 = 0)
       ·simp only [go_sem, Int.reduceNeg]
        cases lxCom (d - 1) r <;> simp only [go_sem, Int.reduceNeg]
        simp; omega
       ·simp only [go_sem, Int.reduceNeg]
     ·simp only [go_sem, Int.reduceNeg]
      cases lxCom (d + 1) r <;> simp only [go_sem, Int.reduceNeg]
      simp; omega
theorem Q9H (pre suf : Str) (hl : (pre ++ suf).length < 2^61) (s : St) : cw (.f Q2n) [.str (pre ++ suf), .int .i64 (pre.length : Int)] s = some (.ret (.val (.int .i64 (match lxCom 0 suf with | some k => ((pre.length + k : Nat) : Int) | none => -1))), s) := by
 rw [Qco]
 exact Qfb (pre ++ suf) hl suf pre 0 s pre.length rfl rfl (by omega) (by omega)
end Go.Proofs.YtobelgghegmhhaaGreatDoor
namespace Go.Am
open Go
def tvar (n : Int) : Ty := .mk 1 n [] [] true
mutual
def ownTy : Ty → Ty
 | .mk k n s l _ => .mk k n s (ownTys l) true
def ownTys : List Ty → List Ty
 | [] => []
 | t :: l => ownTy t :: ownTys l
end
def ofTy (name : Str) (l : List Ty) : Ty := .mk 2 0 name (l.map ownTy) true
section
variable {σ : Type} (to : Int → σ → Ty × σ)
mutual
def chTy : Ty → σ → Ty × σ
 | .mk k n s l _, st => bif decide (k = 1) then to n st else (.mk k n s (chTys l st).1 true, (chTys l st).2)
def chTys : List Ty → σ → List Ty × σ
 | [], st => ([], st)
 | t :: l, st => ((chTy t st).1 :: (chTys l (chTy t st).2).1, (chTys l (chTy t st).2).2)
end
end
def toPut (l : List Ty) (n : Int) (u : Unit) : Ty × Unit := (if 0 ≤ n ∧ n < l.length then ownTy (l.getD n.toNat default) else tvar n, u)
def putTy (t : Ty) (l : List Ty) : Ty := (chTy (toPut l) t ()).1
def placeI (n : Int) : List Int → Nat → Option Nat
 | [], _ => none
 | m :: l, i => if n = m then some i else placeI n l (i + 1)
def toCanon (n : Int) (old : List Int) : Ty × List Int :=
 match placeI n old 0 with
 | some i => (tvar i, old)
 | none => (tvar old.length, old ++ [n])
def canonTy (t : Ty) : Ty × List Int := chTy toCanon t []
def givenB (nm : Str) : Int × Int × Bool :=
 bif decide (nm = [105, 110, 116]) || decide (nm = [98, 111, 111, 108]) || decide (nm = [117, 110, 105, 116]) || decide (nm = [101, 120, 110]) then (0, 0, true) else
 bif decide (nm = [114, 101, 102]) then (1, 1, true) else bif decide (nm = [45, 62]) then (2, 2, true) else bif decide (nm = [42]) then (2, 8, true) else (0, 8, false)
def goodC (k n : Int) (nm : Str) (len : Int) (low : Bool) : Bool :=
 bif decide (k = 1) then decide (n ≥ 0) && decide (nm = []) && decide (len = 0)
 else bif decide (k = 2) then decide (n = 0) && decide (len ≥ (givenB nm).1) && decide (len ≤ (givenB nm).2.1) && ((givenB nm).2.2 || low)
 else false
def goodB (t : Ty) : Bool := goodC t.kind t.n t.name t.args.length (lowB t.name)
mutual
def allTy (p : Ty → Bool) : Ty → Bool
 | .mk k n s l b => p (.mk k n s l b) && allTys p l
def allTys (p : Ty → Bool) : List Ty → Bool
 | [] => true
 | t :: l => allTy p t && allTys p l
end
def rightTyB (t : Ty) : Bool := decide (t.size ≤ 256) && allTy goodB t
mutual
theorem Qgx : ∀ t : Ty, (ownTy t).size = t.size
 | .mk k n s l b => by simp only [ownTy, Ty.size, Q8l l]
theorem Q8l : ∀ l : List Ty, Ty.sizes (ownTys l) = Ty.sizes l
 | [] => rfl
 | t :: l => by simp only [ownTys, Ty.sizes, Qgx t, Q8l l]
end
theorem Q66 : ∀ l : List Ty, ownTys l = l.map ownTy
 | [] => rfl
 | t :: l => by rw [ownTys, Q66 l]; rfl
theorem Q7b (a : Int) : ∀ {l : List Ty} {t : Ty}, t ∈ l → ∀ n ∈ nodesTy a t, n ∈ nodesTys a l
 | x :: l, t, h, n, hn => by
   simp only [nodesTys, List.mem_append]
   rcases List.mem_cons.1 h with rfl | h
   ·exact .inl hn
   ·exact .inr (Q7b a h n hn)
def NamesTy (t : Ty) : Prop := ∀ n ∈ nodesTy 0 t, n.ok
theorem NamesTy.name {k n : Int} {s : Str} {l : List Ty} {b : Bool} (h : NamesTy (.mk k n s l b)) : s.length < 2^40 := h (.ty (.mk k n s l b) 0) (by simp only [nodesTy]; exact List.mem_cons_self)
theorem NamesTy.arg {k n : Int} {s : Str} {l : List Ty} {b : Bool} (h : NamesTy (.mk k n s l b)) {t : Ty} (ht : t ∈ l) : NamesTy t := fun nd hn => h nd (by simp only [nodesTy]; exact List.mem_cons_of_mem _ (Q7b 0 ht nd hn))
mutual
def WideTy : Ty → Prop
 | .mk _ _ _ l _ => l.length < 2^28 ∧ WideTys l
def WideTys : List Ty → Prop
 | [] => True
 | t :: l => WideTy t ∧ WideTys l
end
theorem WideTys.iff : ∀ {l : List Ty}, WideTys l ↔ ∀ t ∈ l, WideTy t
 | [] => by simp [WideTys]
 | t :: l => by simp only [WideTys, WideTys.iff (l := l), List.mem_cons, forall_eq_or_imp]
theorem WideTy.len {k n : Int} {s : Str} {l : List Ty} {b : Bool} (h : WideTy (.mk k n s l b)) : l.length < 2^28 := by simp only [WideTy] at h; exact h.1
theorem WideTy.arg {k n : Int} {s : Str} {l : List Ty} {b : Bool} (h : WideTy (.mk k n s l b)) {t : Ty} (ht : t ∈ l) : WideTy t := by simp only [WideTy] at h; exact WideTys.iff.1 h.2 t ht
mutual
theorem ZU : ∀ (t : Ty), t.size < 2^28 → WideTy t
 | .mk k n s l b, h => by
   simp only [Ty.size] at h
   have := Ty.len_sizes l
   simp only [WideTy]
   exact ⟨by omega, Q6w l (by omega)⟩
theorem Q6w : ∀ (l : List Ty), Ty.sizes l < 2^28 → WideTys l
 | [], _ => trivial
 | t :: l, h => by
   simp only [Ty.sizes] at h
   exact ⟨ZU t (by omega), Q6w l (by omega)⟩
end
mutual
theorem QjJ : ∀ (t : Ty), WideTy t → WideTy (ownTy t)
 | .mk k n s l b, h => by
   simp only [ownTy, WideTy] at h ⊢
   exact ⟨by rw [Q66, List.length_map]; exact h.1, Qcg l h.2⟩
theorem Qcg : ∀ (l : List Ty), WideTys l → WideTys (ownTys l)
 | [], _ => trivial
 | t :: l, h => ⟨QjJ t h.1, Qcg l h.2⟩
end
theorem Q4G {σ : Type} (to : Int → σ → Ty × σ) : ∀ (l : List Ty) (st : σ), (chTys to l st).1.length = l.length
 | [], _ => rfl
 | t :: l, st => by simp only [chTys, List.length_cons, Q4G to l]
section
variable {σ : Type} (to : Int → σ → Ty × σ)
mutual
theorem QkM (h : ∀ n st, WideTy (to n st).1) : ∀ (t : Ty) (st : σ), WideTy t → WideTy (chTy to t st).1
 | .mk k n s l b, st, g => by
   simp only [chTy]
   cases decide (k = 1) with
   | true => exact h n st
   | false =>
     simp only [cond_false, WideTy] at g ⊢
     exact ⟨by rw [Q4G]; exact g.1, QeD h l st g.2⟩
theorem QeD (h : ∀ n st, WideTy (to n st).1) : ∀ (l : List Ty) (st : σ), WideTys l → WideTys (chTys to l st).1
 | [], _, _ => trivial
 | t :: l, st, g => ⟨QkM h t st g.1, QeD h l _ g.2⟩
end
end
mutual
def preTy : Ty → List Ty
 | .mk k n s l b => .mk k n s l b :: preTys l
def preTys : List Ty → List Ty
 | [] => []
 | t :: l => preTy t ++ preTys l
end
mutual
theorem Q3b (a : Int) : ∀ t : Ty, nodesTy a t = (preTy t).map fun u => TNode.ty u a
 | .mk k n s l b => by simp only [nodesTy, preTy, List.map_cons, Q7c a l]
theorem Q7c (a : Int) : ∀ l : List Ty, nodesTys a l = (preTys l).map fun u => TNode.ty u a
 | [] => rfl
 | t :: l => by simp only [nodesTys, preTys, List.map_append, Q3b a t, Q7c a l]
end
mutual
theorem Q3g : ∀ t : Ty, (preTy t).length = t.size
 | .mk k n s l b => by simp only [preTy, Ty.size, List.length_cons, Q9S l]
theorem Q9S : ∀ l : List Ty, (preTys l).length = Ty.sizes l
 | [] => rfl
 | t :: l => by simp only [preTys, Ty.sizes, List.length_append, Q3g t, Q9S l]
end
mutual
theorem Qbf (p : Ty → Bool) : ∀ t : Ty, allTy p t = (preTy t).all p
 | .mk k n s l b => by simp only [allTy, preTy, List.all_cons, Q9o p l]
theorem Q9o (p : Ty → Bool) : ∀ l : List Ty, allTys p l = (preTys l).all p
 | [] => rfl
 | t :: l => by simp only [allTys, preTys, List.all_append, Qbf p t, Q9o p l]
end
theorem NamesTy.pre {t : Ty} (h : NamesTy t) : ∀ u ∈ preTy t, u.name.length < 2^40 := fun u hu => by
 have := h (.ty u 0) (by rw [Q3b]; exact List.mem_map.2 ⟨u, hu, rfl⟩)
 exact this
def placeR (n : Int) (l : List Int) : Int := match placeI n l 0 with | some i => i | none => -1
def varsL : List Ty → List Int → List Int
 | [], acc => acc
 | u :: r, acc => varsL r (bif decide (u.kind = 1) && decide (placeR u.n acc < 0) then acc ++ [u.n] else acc)
def varsTyR (t : Ty) : List Int := varsL (preTy t) []
mutual
def putR (l : List Ty) : Ty → Ty
 | .mk k n s a b => bif decide (k = 1) then (if 0 ≤ n ∧ n < l.length then ownTy (l.getD n.toNat default) else ownTy (.mk k n s a b)) else .mk k n s (putRs l a) true
def putRs (l : List Ty) : List Ty → List Ty
 | [] => []
 | t :: r => putR l t :: putRs l r
end
mutual
def renR (v : List Int) : Ty → Ty
 | .mk k n s a _ => bif decide (k = 1) then tvar (placeR n v) else .mk k n s (renRs v a) true
def renRs (v : List Int) : List Ty → List Ty
 | [] => []
 | t :: r => renR v t :: renRs v r
end
end Go.Am
namespace Go.Am
open Go
mutual
def eqTy : Ty → Ty → Bool
 | .mk k n s l _, .mk k' n' s' l' _ => decide (k = k') && decide (n = n') && decide (s = s') && eqTys l l'
def eqTys : List Ty → List Ty → Bool
 | [], [] => true
 | t :: l, u :: m => eqTy t u && eqTys l m
 | _, _ => false
end
def atB (w : Bool) (a b : Int) : Bool := !w || decide (a = b)
mutual
def eqPat (w : Bool) : Pat → Pat → Bool
 | .mk k a s n l _, .mk k' a' s' n' l' _ => decide (k = k') && decide (n = n') && decide (s = s') && atB w a a' && eqPats w l l'
def eqPats (w : Bool) : List Pat → List Pat → Bool
 | [], [] => true
 | t :: l, u :: m => eqPat w t u && eqPats w l m
 | _, _ => false
end
def eqCon (w : Bool) (c d : Con) : Bool := decide (c.name = d.name) && decide (c.has = d.has) && atB w c.at_ d.at_ && eqTy c.arg d.arg
def eqCons (w : Bool) : List Con → List Con → Bool
 | [], [] => true
 | t :: l, u :: m => eqCon w t u && eqCons w l m
 | _, _ => false
mutual
def eqExp (w : Bool) : Exp → Exp → Bool
 | .mk k a s n l _ c _ d _, .mk k' a' s' n' l' _ c' _ d' _ => decide (k = k') && decide (n = n') && decide (s = s') && atB w a a' && eqExps w l l' && eqCases w c c' && eqDecs w d d'
def eqExps (w : Bool) : List Exp → List Exp → Bool
 | [], [] => true
 | t :: l, u :: m => eqExp w t u && eqExps w l m
 | _, _ => false
def eqCase (w : Bool) : Case → Case → Bool
 | .mk p e, .mk p' e' => eqPat w p p' && eqExp w e e'
def eqCases (w : Bool) : List Case → List Case → Bool
 | [], [] => true
 | t :: l, u :: m => eqCase w t u && eqCases w l m
 | _, _ => false
def eqDec (w : Bool) : Dec → Dec → Bool
 | .mk k a s p l _ c _ f _, .mk k' a' s' p' l' _ c' _ f' _ => decide (k = k') && decide (s = s') && decide (p = p') && atB w a a' && eqCases w c c' && eqFuns w f f' && eqCons w l l'
def eqDecs (w : Bool) : List Dec → List Dec → Bool
 | [], [] => true
 | t :: l, u :: m => eqDec w t u && eqDecs w l m
 | _, _ => false
def eqFun (w : Bool) : Fun → Fun → Bool
 | .mk s a c, .mk s' a' c' => decide (s = s') && atB w a a' && eqCase w c c'
def eqFuns (w : Bool) : List Fun → List Fun → Bool
 | [], [] => true
 | t :: l, u :: m => eqFun w t u && eqFuns w l m
 | _, _ => false
end
theorem Q4J : ∀ l m : List Ty, l.length ≠ m.length → eqTys l m = false
 | [], [], h => absurd rfl h
 | [], _ :: _, _ => by simp only [eqTys]
 | _ :: _, [], _ => by simp only [eqTys]
 | t :: l, u :: m, h => by rw [eqTys, Q4J l m (by simpa using h), Bool.and_false]
end Go.Am
namespace Go.Proofs.YtobelgghegmhhaaGreatDoor
open Go Go.Am
set_option linter.unusedVariables false
theorem Q51 (n : Int) (s : St) : cw (.f Q2A) [.int .u8 n] s = some (.ret (.val (.bool (smallB n))), s) := by
 rw [QcP]; simp only [go_sem]; rfl
theorem Q4Z (n : Int) (s : St) : cw (.f Q2w) [.int .u8 n] s = some (.ret (.val (.bool (greatB n))), s) := by
 rw [QcL]; simp only [go_sem]; rfl
theorem Q50 (n : Int) (s : St) : cw (.f Q2x) [.int .i64 n] s = some (.ret (.val (.bool (isIntB n))), s) := by
 rw [QcM]; simp only [go_sem, Int.reduceNeg]; rfl
theorem QcO (l : Str) (pre : Str) : ∀ (suf : Str) (s : St), pre ++ suf = l → l.length < 2^62 → Q1T (.val (.str l)) (.val (.int .i64 pre.length)) s = some (.ret (.val (.bool (restAll suf && decide (l.length ≤ 32)))), s) := by
 intro suf
 induction suf generalizing pre with
 | nil =>
   intro s h hl
   rw [List.append_nil] at h
   subst h
   rw [Q5J]; simp only [Qd1, QcZ, Q62 Qh, Q3R, Q5S, Q3T]
   rw [QaH (by simp)]
   simp only [go_sem]
   simp [restAll]
   omega
 | cons c suf ih =>
   intro s h hl
   have hc : l[pre.length]? = some c := by rw [← h]; simp
   have hlt : pre.length < l.length := by rw [← h]; simp
   have := ih (pre ++ [c]) s (by simp [h]) hl
   rw [Q5J]
   simp only [Qd1, QcZ, Q62 Qh, Q3R, Q5S, Q3T]
   rw [QaI (by simpa using hlt), Q0Q Qh hc]
   simp only [go_sem, Q51, Q4Z]
   rw [wrap64 (by omega) (by omega)]
   have e : (pre.length : Int) + 1 = ((pre ++ [c]).length : Int) := by simp
   rw [e, this]
   simp only [go_sem, restAll, List.all_cons, unrestB]
   cases (!smallB c.toNat && !greatB c.toNat && (decide ((c.toNat : Int) < 48) || decide ((c.toNat : Int) > 57)) && !decide ((c.toNat : Int) = 39)) <;> simp
theorem Q6u (l : Str) (s : St) (h0 : l ≠ []) (hl : l.length < 2^62) : cw (.f Q2z) [.str l] s = some (.ret (.val (.bool (runB l))), s) := by
 rw [Qfh]
 cases l with
 | nil => exact absurd rfl h0
 | cons c l => exact QcO (c :: l) [c] l s rfl hl
theorem Q5F (a b : Str) (s : St) (h : a.length < 4294967281) : cw (.f Q1m) [.str a, .str b] s = some (.ret (.val (.bool (Go.Lib.contains a b))), s) := by
 have e : C.ext Q1m = some (pureX extContains) := by kernel_rfl
 rw [cw, Q5]; unfold callR; rw [e]; simp [pureX, extContains, h]
theorem Q3L (l : Str) (s : St) (hl : l.length < 2^62) : cw (.f Q1A) [.str l] s = some (.ret (.val (.bool (capB l))), s) := by
 rw [Qah]
 by_cases h0 : l = []
 ·subst h0; simp only [go_sem]; rfl
 ·simp only [go_sem, h0, Q4Z, not_false_eq_true, ZM Qh h0, Q6u l s h0 hl]
  simp [capB, h0, headB]
theorem Q2i (l : Str) (s : St) (hl : l.length < 2^62) : cw (.f Q04) [.str l] s = some (.ret (.val (.bool (conB l))), s) := by
 rw [Q6z]
 simp only [go_sem, Q3L l s hl]
 rfl
theorem Q0Z (l : Str) (s : St) (hl : l.length < 2^62) : cw (.f Q0N) [.str l] s = some (.ret (.val (.bool (lowB l))), s) := by
 rw [Qfg]
 by_cases h0 : l = []
 ·subst h0; simp only [go_sem]; rfl
 ·have hk : Q9h = wordsS := by decide +kernel
  have hc := fun b s => Q5F wordsS b s (by decide +kernel)
  simp only [go_sem, h0, Q51, not_false_eq_true, ZM Qh h0, Q6u l s h0 hl, Qbi (C.ti Q2) [32] l (by simp; omega), Qbi (C.ti Q2) (32 :: l) [32] (by simp; omega), hk, hc]
  simp [lowB, h0, headB, Bool.and_assoc]
end Go.Proofs.YtobelgghegmhhaaGreatDoor
namespace Go.Proofs.YtobelgghegmhhaaGreatDoor
open Go Go.Am
set_option linter.unusedVariables false
set_option maxRecDepth 4000
theorem Q7X (t : Ty) (s : St) (hn : t.name.length < 2^62) : cw (.f Q0r) [t.enc] s = some (.ret (.val (.int .i64 (wrongTyB t))), s) := by
 obtain ⟨k, n, nm, l, nl⟩ := t
 rw [Qam]
 simp only [go_sem, Nat.reduceAdd, Nat.reduceLeDiff, Q7v, Q7w, Q0Z nm _ hn]
 show _ = some (Out.ret (.val (.int .i64 (wrongTyC k n nm l.length))), s)
 delta wrongTyC tyLM
 generalize decide (nm = [105, 110, 116]) = x1
 generalize decide (nm = [98, 111, 111, 108]) = x2
 generalize decide (nm = [117, 110, 105, 116]) = x3
 generalize decide (nm = [101, 120, 110]) = x4
 generalize decide (nm = [114, 101, 102]) = x5
 generalize decide (nm = [45, 62]) = x6
 generalize decide (nm = [42]) = x7
 generalize lowB nm = x8
 cases x1 <;> cases x2 <;> cases x3 <;> cases x4 <;> cases x5 <;> cases x6 <;> cases x7 <;> cases x8 <;> rfl
theorem Q7u (t : Pat) (s : St) (hn : t.name.length < 2^62) : cw (.f Q1i) [t.enc] s = some (.ret (.val (.int .i64 (wrongPatB t))), s) := by
 obtain ⟨k, a, nm, n, l, nl⟩ := t
 rw [Q9d]
 have hk : k = 1 ∨ k = 2 ∨ k = 3 ∨ k = 4 ∨ k = 5 ∨ k = 6 ∨ (k < 1 ∨ k > 6) := by omega
 rcases hk with rfl | rfl | rfl | rfl | rfl | rfl | hk
 rotate_left 6
 ·simp only [go_sem, Nat.reduceAdd, decide_eq_false (show ¬ k = 1 by omega), decide_eq_false (show ¬ k = 2 by omega), decide_eq_false (show ¬ k = 3 by omega), decide_eq_false (show ¬ k = 4 by omega), decide_eq_false (show ¬ k = 5 by omega), decide_eq_false (show ¬ k = 6 by omega)]
  have : (decide (k < 1) || decide (k > 6)) = true := by simpa using hk
  have e : wrongPatB (Pat.mk k a nm n l nl) = 29 := by
   show (bif (decide (k < 1) || decide (k > 6)) then (29 : Int) else _) = 29
   rw [this]; rfl
  rw [e]
 all_goals
  simp only [go_sem, Int.reduceEq, Int.reduceGT, Int.reduceLT, Nat.reduceAdd, Nat.reduceLeDiff, Q6C, Q0Z nm _ hn, Q2i nm _ hn, Q50, wrongPatB, patLM, Pat.kind, Pat.name, Pat.n, Pat.kids]
  try rfl
theorem Q7r (c : Con) (s : St) (hn : c.name.length < 2^62) : cw (.f Q2B) [c.enc] s = some (.ret (.val (.int .i64 (wrongConB c))), s) := by
 rw [Q9b]
 simp only [go_sem, Nat.reduceAdd, Nat.reduceLeDiff, Con.cells, Ty.cells_eq, Q3L _ _ hn]
 rfl
theorem Q7t (e : Exp) (s : St) (hn : e.name.length < 2^62) : cw (.f Q2C) [e.enc] s = some (.ret (.val (.int .i64 (wrongExpB e))), s) := by
 obtain ⟨k, a, nm, n, l, lb, c, cb, d, db⟩ := e
 rw [Q9c]
 have hk : k = 1 ∨ k = 2 ∨ k = 3 ∨ k = 4 ∨ k = 5 ∨ k = 6 ∨ k = 7 ∨ k = 8 ∨ k = 9 ∨ k = 10 ∨ k = 11 ∨ k = 12 ∨ k = 13 ∨ k = 14 ∨ k = 15 ∨ k = 16 ∨ k = 17 ∨ k = 18 ∨ k = 19 ∨ k = 20 ∨ (k < 1 ∨ k > 20) := by omega
 rcases hk with rfl | rfl | rfl | rfl | rfl | rfl | rfl | rfl | rfl | rfl | rfl | rfl | rfl | rfl | rfl | rfl | rfl | rfl | rfl | rfl | hk
 rotate_left 20
 ·simp only [go_sem, Nat.reduceAdd, Nat.reduceLeDiff, Q5I, decide_eq_false (show ¬ k = 1 by omega), decide_eq_false (show ¬ k = 2 by omega), decide_eq_false (show ¬ k = 3 by omega), decide_eq_false (show ¬ k = 4 by omega), decide_eq_false (show ¬ k = 5 by omega), decide_eq_false (show ¬ k = 6 by omega), decide_eq_false (show ¬ k = 7 by omega), decide_eq_false (show ¬ k = 8 by omega), decide_eq_false (show ¬ k = 9 by omega), decide_eq_false (show ¬ k = 10 by omega), decide_eq_false (show ¬ k = 11 by omega), decide_eq_false (show ¬ k = 12 by omega), decide_eq_false (show ¬ k = 13 by omega), decide_eq_false (show ¬ k = 14 by omega), decide_eq_false (show ¬ k = 15 by omega), decide_eq_false (show ¬ k = 16 by omega), decide_eq_false (show ¬ k = 17 by omega), decide_eq_false (show ¬ k = 18 by omega), decide_eq_false (show ¬ k = 19 by omega), decide_eq_false (show ¬ k = 20 by omega)]
  have h : (decide (k < 1) || decide (k > 20)) = true := by simpa using hk
  have e : wrongExpB (Exp.mk k a nm n l lb c cb d db) = 29 := by
   show (bif (decide (k < 1) || decide (k > 20) || _ || _ || _ || _ || _) then (29 : Int) else _) = 29
   rw [h]; rfl
  rw [e]
 all_goals
  simp only [go_sem, Int.reduceEq, Int.reduceGT, Int.reduceLT, Nat.reduceAdd, Nat.reduceLeDiff, Q5I, Q0Z nm _ hn, Q2i nm _ hn, Q50, wrongExpB, expLM, Exp.kind, Exp.name, Exp.n, Exp.kids, Exp.cases, Exp.decs]
  try rfl
theorem Q7s (d : Dec) (inn : Bool) (a : Int) (r : List AV) (s : St) (hn : d.name.length < 2^62) : cw (.f Zu) [.agg [.cp (d.cells ++ r), .bool inn, .nilp, .nilp, .nilp, .nilp, .nilp, .int .i64 a]] s = some (.ret (.val (.int .i64 (wrongDecB d inn))), s) := by
 obtain ⟨k, at_, nm, p, l, nb, c, cb, f, fb⟩ := d
 rw [Q5f]
 simp only [go_sem, Nat.reduceAdd, Q0Z nm _ hn, Q41]
 show _ = some (Out.ret (.val (.int .i64 (wrongDecC k nm p l.length c.length f.length inn))), s)
 delta wrongDecC
 generalize decide (k = 1) = x1
 generalize decide (k = 2) = x2
 generalize decide (k = 3) = x3
 generalize decide (k = 4) = x4
 cases x1 <;> cases x2 <;> cases x3 <;> cases x4 <;> rfl
end Go.Proofs.YtobelgghegmhhaaGreatDoor
namespace Go.Proofs.YtobelgghegmhhaaGreatDoor
open Go Go.Am
set_option linter.unusedVariables false
set_option maxRecDepth 4000
theorem Q6e (nd : TNode) (r : List AV) (s : St) : cw (.f Q1J) [nd.thing r] s = some (.ret (.val (.bool nd.isNode)), s) := by
 rw [Q7q]
 cases nd <;> simp only [go_sem, Nat.reduceAdd, TNode.thing, TNode.isNode]
theorem Q5K (nd : TNode) (r : List AV) (s : St) (h : nd.name.length < 2^40) : cw (.f Q05) [nd.thing r] s = some (.ret (.val nd.bad.enc), s) := by
 rw [Q6A]
 have key : ∀ (e a : Int) (nm : Str) (v : List Slot) (s : St), v.getD 7 .und = .val (.int .i64 a) → v.length = 8 → Qp v [.val (.int .i64 0), .val (.int .i64 0), .val (.str [])] (.val (.int .i64 e)) (.val (.str nm)) s = some (.ret (.val (mkBad e a nm).enc), s) := by
  intro e a nm v s hv hl
  have hd : (v.drop 7).take 1 = [.val (.int .i64 a)] := by
   match v, hl with
   | [_, _, _, _, _, _, _, x], _ => simpa using hv
  rw [Q5g]
  by_cases h0 : e = 0
  ·subst h0
   simp only [go_sem, Int.reduceEq, Nat.reduceAdd, Nat.reduceLeDiff, hd]
   rfl
  ·by_cases h8 : e = 8
   ·subst h8
    simp only [go_sem, Int.reduceEq, Nat.reduceAdd, Nat.reduceLeDiff, hd]
    rfl
   ·simp only [go_sem, Nat.reduceAdd, Nat.reduceLeDiff, hd, decide_eq_false h0, decide_eq_false h8, mkBad]
    rfl
 cases nd with
 | dec inn d =>
   have hn : d.name.length < 2^62 := by simp only [TNode.name] at h; omega
   have hw := fun s => Q7s d inn d.at_ r s hn
   obtain ⟨k, a, nm, p, l, nb, c, cb, f, fb⟩ := d
   simp only [go_sem, Exp.enc, Pat.enc, Ty.enc, Dec.enc] at hw
   simp only [go_sem, Nat.reduceAdd, Nat.reduceLeDiff, TNode.thing, hw]
   exact key _ _ _ _ _ rfl rfl
 | exp e =>
   have hn : e.name.length < 2^62 := by simp only [TNode.name] at h; omega
   have hw := fun s => Q7t e s hn
   obtain ⟨k, a, nm, n, l, lb, c, cb, d, db⟩ := e
   simp only [go_sem, Exp.enc, Pat.enc, Ty.enc, Dec.enc] at hw
   simp only [go_sem, Nat.reduceAdd, Nat.reduceLeDiff, TNode.thing, hw]
   exact key _ _ _ _ _ rfl rfl
 | pat e =>
   have hn : e.name.length < 2^62 := by simp only [TNode.name] at h; omega
   have hw := fun s => Q7u e s hn
   obtain ⟨k, a, nm, n, l, lb⟩ := e
   simp only [go_sem, Exp.enc, Pat.enc, Ty.enc, Dec.enc] at hw
   simp only [go_sem, Nat.reduceAdd, Nat.reduceLeDiff, TNode.thing, hw]
   exact key _ _ _ _ _ rfl rfl
 | ty e a =>
   have hn : e.name.length < 2^62 := by simp only [TNode.name] at h; omega
   have hw := fun s => Q7X e s hn
   obtain ⟨k, n, nm, l, lb⟩ := e
   simp only [go_sem, Exp.enc, Pat.enc, Ty.enc, Dec.enc] at hw
   simp only [go_sem, Nat.reduceAdd, Nat.reduceLeDiff, TNode.thing, hw]
   exact key _ _ _ _ _ rfl rfl
 | fn f =>
   have hn : f.name.length < 2^62 := by simp only [TNode.name] at h; omega
   have hw := fun s => Q0Z f.name s hn
   obtain ⟨nm, a, c⟩ := f
   simp only [Fun.name] at hw
   have k0 := fun v s h1 h2 => key 0 a nm v s h1 h2
   have k8 := fun v s h1 h2 => key 8 a nm v s h1 h2
   simp only [go_sem, Nat.reduceAdd, Nat.reduceLeDiff, TNode.thing, hw, Fun.at_]
   show _ = some (Out.ret (.val (mkBad (bif !lowB nm then 8 else 0) a nm).enc), s)
   cases lowB nm
   ·simp only [go_sem]; exact key 8 a nm _ s rfl rfl
   ·simp only [go_sem]; exact key 0 a nm _ s rfl rfl
 | con c =>
   have hn : c.name.length < 2^62 := by simp only [TNode.name] at h; omega
   have hw := fun s => Q7r c s hn
   obtain ⟨nm, a, hs, arg⟩ := c
   simp only [go_sem, Con.enc, Con.cells] at hw
   simp only [go_sem, Nat.reduceAdd, Nat.reduceLeDiff, TNode.thing, Con.cells, hw]
   exact key _ _ _ _ _ rfl rfl
end Go.Proofs.YtobelgghegmhhaaGreatDoor
namespace Go.Proofs.YtobelgghegmhhaaGreatDoor
open Go Go.Am
set_option linter.unusedVariables false
set_option maxRecDepth 4000
theorem Q3M (L : List Pat) (x : Slot) (hx : x.list? = some (L.map Pat.enc)) (hl : L.length < 2^40) : ∀ (suf pre : List Pat) (n : Int) (s : St) (i : Nat), pre ++ suf = L → i = pre.length → (∀ t ∈ suf, ∀ s, cw (.f ZQ) [t.enc] s = some (.ret (.val (.int .i64 (deepPat t))), s)) → 0 ≤ n → n < 2^40 → Pat.sizes suf < 2^40 →
  Q0f (.val (.int .i64 n)) x (.val (.int .i64 L.length)) (.val (.int .i64 i)) s = some (.ret (.val (.int .i64 (deepPats suf n + 1))), s)
 | [], pre, n, s, i, h, hi, H, h0, h1, h2 => by
   subst hi
   rw [Q3q]; simp only [go_sem, Qf (by simpa using h)]
   rw [wrap64 (by omega) (by omega)]; rfl
 | t :: suf, pre, n, s, i, h, hi, H, h0, h1, h2 => by
   subst hi
   obtain ⟨f1, f2, f3⟩ := Qc hx h (by omega) (Pat.cells_len t) (by decide)
   have ht := Q3U t
   have hm := Q46 n (deepPat t) (2^40 - 1)
   have hn := Q45 n (deepPat t)
   simp only [Pat.sizes] at h2
   rw [Q3q]; simp only [go_sem, Nat.reduceAdd, Nat.reduceLeDiff, f1, f2, f3, H t (List.mem_cons_self)]
   exact Q3M L x hx hl suf (pre ++ [t]) _ s _ (by simpa using h) (by simp) (fun u hu => H u (List.mem_cons_of_mem _ hu)) (by omega) (by omega) (by omega)
theorem Q3N : ∀ (m : Nat) (t : Pat) (s : St), t.size ≤ m → t.size < 2^40 → cw (.f ZQ) [t.enc] s = some (.ret (.val (.int .i64 (deepPat t))), s)
 | 0, .mk _ _ _ _ _ _, _, h, _ => by simp only [Pat.size] at h; omega
 | m + 1, .mk k a nm n l nl, s, h, h' => by
   simp only [Pat.size] at h h'
   have hl := Pat.len_sizes l
   rw [Qaj]; simp only [go_sem, Nat.reduceAdd, Nat.reduceLeDiff, Pat.enc]
   exact Q3M l _ (by simp only [go_sem]) (by omega) l [] 0 s 0 rfl rfl (fun u hu s => by have := Pat.mem_sizes hu; exact Q3N m u s (by omega) (by omega)) (by omega) (by omega) (by omega)
end Go.Proofs.YtobelgghegmhhaaGreatDoor
namespace Go.Proofs.YtobelgghegmhhaaGreatDoor
open Go Go.Am
set_option linter.unusedVariables false
set_option maxRecDepth 4000
section
variable {σ : Type} (step : TNode → σ → σ × Bool)
def walk : List TNode → σ → σ × Bool
 | [], st => (st, true)
 | n :: l, st => bif (step n st).2 then walk l (step n st).1 else step n st
theorem QjI (a b : List TNode) (st : σ) : walk step (a ++ b) st = bif (walk step a st).2 then walk step b (walk step a st).1 else walk step a st := by
 induction a generalizing st with
 | nil => rfl
 | cons n a ih =>
   simp only [List.cons_append, walk]
   cases h : (step n st).2
   ·simp only [cond_false, h]
   ·simp only [cond_true]; exact ih _
variable (R : σ × Bool → St → Prop) (P : TNode → Prop) (loc : Nat)
def YOK : Prop := ∀ nd r st s, P nd → R (st, true) s → ∃ s', cw (.y loc) [nd.thing r] s = some (.ret (.val (.bool (step nd st).2)), s') ∧ R (step nd st) s'
def WOK (f : Nat) (args : List AV) (l : List TNode) : Prop := (∀ n ∈ l, P n) → ∀ st s, R (st, true) s → ∃ s', cw (.f f) args s = some (.ret (.val (.bool (walk step l st).2)), s') ∧ R (walk step l st) s'
abbrev wk : AV := .agg [.yld loc]
variable {step} {R} {P} {loc}
theorem QfN {st : σ × Bool} {s' : St} (hb : st.2 = true) (h : R st s') : R (st.1, true) s' := by rw [← hb]; exact h
theorem Q4y (hY : YOK step R P loc) (t : Pat) (r : List AV) (hl : t.kids.length < 2^40) : ∀ (suf pre : List Pat) (st : σ) (s : St) (i : Nat), pre ++ suf = t.kids → i = pre.length → (∀ u ∈ suf, ∀ r, WOK step R P Z7 [wk loc, .cp (u.cells ++ r)] (nodesPat u)) → (∀ n ∈ nodesPats suf, P n) → R (st, true) s →
  ∃ s', Zk (.val (.cp (t.cells ++ r))) [.val (.yld loc)] (.val (.int .i64 t.kids.length)) (.val (.int .i64 i)) s = some (.ret (.val (.bool (walk step (nodesPats suf) st).2)), s') ∧ R (walk step (nodesPats suf) st) s'
 | [], pre, st, s, i, h, hi, H, hP, hR => by
   subst hi
   rw [Q1U]; simp only [go_sem, Nat.reduceAdd, Nat.reduceLeDiff, Qf (by simpa using h), nodesPats, walk]
   exact ⟨s, rfl, hR⟩
 | u :: suf, pre, st, s, i, h, hi, H, hP, hR => by
   subst hi
   obtain ⟨f1, f2, f3⟩ := Qc (x := .val (encS t.kb (t.kids.map Pat.enc))) (Qa _ _) h (by omega) (Pat.cells_len u) (by decide)
   simp only [nodesPats] at hP ⊢
   obtain ⟨s1, e1, g1⟩ := H u (List.mem_cons_self) [] (fun n hn => hP n (List.mem_append_left _ hn)) st s hR
   rw [Q1U]
   rw [QjI]
   cases hb : (walk step (nodesPat u) st).2 with
   | false =>
     rw [hb] at e1
     simp only [go_sem, Nat.reduceAdd, Nat.reduceLeDiff, Pat.cells_eq, f1] at e1 f2 ⊢
     simp only [go_sem, Nat.reduceAdd, Nat.reduceLeDiff, f2, e1, hb]
     exact ⟨s1, rfl, g1⟩
   | true =>
     rw [hb] at e1
     obtain ⟨s2, e2, g2⟩ := Q4y hY t r hl suf (pre ++ [u]) (walk step (nodesPat u) st).1 s1 (pre.length + 1) (by simpa using h) (by simp) (fun w hw => H w (List.mem_cons_of_mem _ hw)) (fun n hn => hP n (List.mem_append_right _ hn)) (QfN hb g1)
     refine ⟨s2, ?_, g2⟩
     rw [cond_true, ← e2]
     simp only [go_sem, Nat.reduceAdd, Nat.reduceLeDiff, Pat.cells_eq, f1] at e1 f2 ⊢
     simp only [go_sem, Nat.reduceAdd, Nat.reduceLeDiff, f2, e1, f3]
theorem Q4z (hY : YOK step R P loc) : ∀ (m : Nat) (t : Pat) (r : List AV), t.size ≤ m → t.size < 2^40 → WOK step R P Z7 [wk loc, .cp (t.cells ++ r)] (nodesPat t)
 | 0, .mk _ _ _ _ _ _, _, h, _ => by simp only [Pat.size] at h; omega
 | m + 1, .mk k a nm n l nl, r, h, h' => fun hP st s hR => by
   simp only [Pat.size] at h h'
   have hl := Pat.len_sizes l
   simp only [nodesPat] at hP ⊢
   obtain ⟨s1, e1, g1⟩ := hY (.pat (.mk k a nm n l nl)) r st s (hP _ (List.mem_cons_self)) hR
   rw [Q6B]
   simp only [walk]
   cases hb : (step (.pat (.mk k a nm n l nl)) st).2 with
   | false =>
     rw [hb] at e1
     simp only [go_sem, Nat.reduceAdd, Nat.reduceLeDiff, TNode.thing, Pat.at_] at e1 ⊢
     simp only [go_sem, e1, hb]
     exact ⟨s1, rfl, g1⟩
   | true =>
     rw [hb] at e1
     obtain ⟨s2, e2, g2⟩ := Q4y hY (.mk k a nm n l nl) r (by simp only [Pat.kids]; omega) l [] (step (.pat (.mk k a nm n l nl)) st).1 s1 0 rfl rfl (fun u hu r => by have := Pat.mem_sizes hu; exact Q4z hY m u r (by omega) (by omega)) (fun n hn => hP n (List.mem_cons_of_mem _ hn)) (QfN hb g1)
     refine ⟨s2, ?_, g2⟩
     rw [cond_true, ← e2]
     simp only [go_sem, Nat.reduceAdd, Nat.reduceLeDiff, TNode.thing, Pat.at_] at e1 ⊢
     simp only [go_sem, e1, Pat.kids]
     rfl
end
end Go.Proofs.YtobelgghegmhhaaGreatDoor