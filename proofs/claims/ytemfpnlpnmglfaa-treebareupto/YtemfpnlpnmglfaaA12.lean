/- Slices that grow in place. -/
import Derived.Test.YtemfpnlpnmglfaaA11
import Derived.ArgAppend
import Derived.Maps.AppendAt
set_option linter.unusedVariables false
set_option linter.unusedSimpArgs false
namespace Go.Am
open Go Go.RowKit

def Kn.setTok (κ : Kn) (k L : Nat) (e : TypeId) (v : Value) (g : Nat) (xs : List Value) : Kn :=
  { κ with im := fun b o => if b = g then xs[o]? else κ.im b o, tok := fun i => if i = k then some (L, e, v) else κ.tok i }

section
variable {P : Program} {C : Cfg} {κ κ' κ0 : Kn} {B B' N : Nat} {s s' : St} {w w' w0 : World} {e : Env} {a : Act} {β : Nat → Option Nat} {δ : List Nat}

theorem Inv.tok_step (h : Inv C κ B s w) {k L g : Nat} {et : TypeId} {v : Value} {xs : List Value} {row : Option Nat} (hk : k ≤ s.toks.length)
    (hg : w.grownBy w' row) (hrow : (row = none ∧ w.heap.size ≤ g) ∨ (row = some g ∧ ∃ L0 v0, κ.tok k = some (L0, et, v0) ∧ v0.ownBlock = some g))
    (hown : w'.ownsRow B et (C.ti et).size v L xs) (hv : v.ownBlock = some g) (hsz : 0 < (C.ti et).size) (ho : Ones xs)
    (hold : ∀ L0 e0 v0, κ.tok k = some (L0, e0, v0) → e0 = et ∧ L0 < L) (him : ∀ j u, κ.im g j = some u → xs[j]? = some u)
    (htoks : ∀ i, s'.toks[i]? = if i = k then some L else s.toks[i]?) (hlocs : s'.locs = s.locs) :
    Inv C (κ.setTok k L et v g xs) B s' w' ∧ Mv κ (κ.setTok k L et v g xs) w w' := by
  have hxl : xs.length = L * (C.ti et).size := hown.1
  have hle : LE κ (κ.setTok k L et v g xs) := by
    refine ⟨fun b o u hu => ?_, fun _ _ h => h, fun i L1 e1 v1 h1 => ?_⟩
    · simp only [Kn.setTok]
      split
      · rename_i e; subst e; exact him o u hu
      · exact hu
    · by_cases hi : i = k
      · subst hi
        obtain ⟨rfl, h2⟩ := hold _ _ _ h1
        exact ⟨L, v, by simp [Kn.setTok], by omega, fun e => by omega⟩
      · exact ⟨L1, v1, by simp only [Kn.setTok, hi, if_false]; exact h1, Nat.le_refl _, fun _ => rfl⟩
  -- the block g is of no variable, and of no other token
  have hgloc : ∀ l b, κ.loc l = some b → b ≠ g := fun l b hl e => by
    subst e
    rcases hrow with ⟨_, hge⟩ | ⟨_, L0, v0, h0, h1⟩
    · have := (h.wr_lt (.inl ⟨l, hl⟩)).2; omega
    · exact h.loctok l b k L0 et v0 hl h0 h1
  have hgtok : ∀ i L1 e1 v1, i ≠ k → κ.tok i = some (L1, e1, v1) → v1.ownBlock ≠ some g := fun i L1 e1 v1 hi h1 e => by
    rcases hrow with ⟨_, hge⟩ | ⟨_, L0, v0, h0, h2⟩
    · have := (h.wr_lt (.inr ⟨i, L1, e1, v1, h1, e⟩)).2; omega
    · exact hi (h.tokinj i k L1 e1 v1 L0 et v0 g h1 h0 e h2)
  have hne : ∀ b, b ≠ g → some b ≠ row := fun b hb e => by
    rcases hrow with ⟨h1, _⟩ | ⟨h1, _⟩ <;> rw [h1] at e <;> cases e
    exact hb rfl
  refine ⟨⟨fun b o u hu => ?_, fun l x hx => ?_, fun l b hl => by rw [hlocs]; exact h.locn l b hl, fun i L1 hi => ?_, fun i L1 e1 v1 h1 => ?_, h.locinj, ?_, ?_, fun l b o hl => ?_⟩,
    ⟨hle, hg.os, hg.tape, hg.output, hg.size, fun b hb hw => hg.block b hb (fun e => ?_), fun b hb => ?_, fun b o u hu hb hw => ?_⟩⟩
  · simp only [Kn.setTok] at hu
    split at hu
    · rename_i e
      subst e
      have := hown.cells hv o u hu
      rwa [add_plain, Nat.zero_add] at this
    · rename_i hb
      exact hg.cell (h.im b o u hu) (hne b hb)
  · rw [hlocs] at hx
    obtain ⟨b, o, h1, h2, h3, h4⟩ := h.locs l x hx
    exact ⟨b, o, h1, h2, by rw [hg.block b (Array.getElem?_eq_some_iff.1 h3).1 (hne b (hgloc l b h1))]; exact h3, h4.mono hle⟩
  · rw [htoks] at hi
    by_cases hik : i = k
    · subst hik
      simp only [if_true, Option.some.injEq] at hi
      subst hi
      refine ⟨et, v, xs, g, by simp [Kn.setTok], hown, hv, hsz, ho, fun j u hj => by simp only [Kn.setTok, if_true]; exact hj, fun o ho' => ?_⟩
      simp only [Kn.setTok, if_true]
      exact List.getElem?_eq_none (by omega)
    · rw [if_neg hik] at hi
      obtain ⟨e1, v1, xs1, g1, h1, h2, h3, h4, h5, h6, h7⟩ := h.toks i L1 hi
      have hg1 : g1 ≠ g := fun e => by subst e; exact hgtok i L1 e1 v1 hik h1 h3
      refine ⟨e1, v1, xs1, g1, by simp only [Kn.setTok, hik, if_false]; exact h1, h2.kept hg (.inr (by rw [h3]; exact hne g1 hg1)), h3, h4, h5, fun j u hj => ?_, fun o ho' => ?_⟩
      · simp only [Kn.setTok, hg1, if_false]; exact h6 j u hj
      · simp only [Kn.setTok, hg1, if_false]; exact h7 o ho'
  · rw [htoks]
    simp only [Kn.setTok] at h1
    split at h1
    · rename_i e'; rw [if_pos e']; cases h1; rfl
    · rename_i e'; rw [if_neg e']; exact h.tokn i L1 e1 v1 h1
  · intro i j L1 e1 v1 L2 e2 v2 b h1 h2 h3 h4
    simp only [Kn.setTok] at h1 h2
    split at h1 <;> split at h2
    · omega
    · rename_i e1' e2'
      cases h1
      rw [hv] at h3
      cases h3
      exact absurd h4 (hgtok j L2 e2 v2 e2' h2)
    · rename_i e1' e2'
      cases h2
      rw [hv] at h4
      cases h4
      exact absurd h3 (hgtok i L1 e1 v1 e1' h1)
    · exact h.tokinj i j L1 e1 v1 L2 e2 v2 b h1 h2 h3 h4
  · intro l b i L1 e1 v1 hl h1 h2
    simp only [Kn.setTok] at h1
    split at h1
    · cases h1
      rw [hv] at h2
      cases h2
      exact hgloc l g hl rfl
    · exact h.loctok l b i L1 e1 v1 hl h1 h2
  · have := hgloc l b hl
    simp only [Kn.setTok, this, if_false]
    exact h.locim l b o hl
  · rcases hrow with ⟨h1, _⟩ | ⟨h1, L0, v0, h0, h2⟩
    · rw [h1] at e; cases e
    · rw [h1] at e
      cases e
      exact hw (.inr ⟨k, L0, et, v0, h0, h2⟩)
  · rcases hb with ⟨l, hl⟩ | ⟨i, L1, e1, v1, h1, h2⟩
    · exact .inl (.inl ⟨l, hl⟩)
    · simp only [Kn.setTok] at h1
      split at h1
      · cases h1
        rw [hv] at h2
        cases h2
        rcases hrow with ⟨_, hge⟩ | ⟨_, L0, v0, h0, h3⟩
        · exact .inr hge
        · exact .inl (.inr ⟨k, L0, et, v0, h0, h3⟩)
      · exact .inl (.inr ⟨i, L1, e1, v1, h1, h2⟩)
  · simp only [Kn.setTok] at hu
    split at hu
    · rename_i e'
      subst e'
      rcases hrow with ⟨_, hge⟩ | ⟨_, L0, v0, h0, h3⟩
      · omega
      · exact absurd (.inr ⟨k, L0, et, v0, h0, h3⟩) hw
    · exact hu

theorem list_eq_of_get {xs ys : List Value} (hl : xs.length = ys.length) (h : ∀ (j : Nat) (u v : Value), xs[j]? = some u → ys[j]? = some v → u = v) : xs = ys := by
  apply List.ext_getElem hl
  intro i h1 h2
  exact h i _ _ (List.getElem?_eq_getElem h1) (List.getElem?_eq_getElem h2)

theorem okSz_all {size : Nat} {l : List AV} (h : okSz size l = true) : (∀ v ∈ l, v.cells.length = size) ∧ 0 < size := by
  simp only [okSz, Bool.and_eq_true, List.all_eq_true, beq_iff_eq] at h
  refine ⟨h.1, ?_⟩
  rcases Nat.eq_zero_or_pos size with h0 | h0
  · subst h0; exact absurd h.2 (by decide)
  · exact h0

theorem grownBy_none_row {row : Option Nat} (hg : w.grownBy w' none) : w.grownBy w' row := ⟨hg.os, hg.tape, hg.output, hg.size, fun k hk _ => hg.block k hk (by simp)⟩

theorem Inv.fresh_tok (hI : Inv C κ B s w) {et : TypeId} {l' : List AV} {v' : Value} {zs : List Value} {g : Nat} (hgr : w.grownBy w' none) (hgn : v'.ownBlock = some g) (hge : w.heap.size ≤ g) (hown : w'.ownsRow B et (C.ti et).size v' l'.length zs)
    (hsz : 0 < (C.ti et).size) (ho : Ones zs) (hv : VRl κ (flat l') zs) (hszs : ∀ v ∈ l', v.cells.length = (C.ti et).size) :
    ∃ κ', Mv κ κ' w w' ∧ Inv C κ' B { s with toks := s.toks ++ [l'.length] } w' ∧ SR κ' (.own s.toks.length et l') v' := by
  have hno : κ.tok s.toks.length = none := by
    cases ht : κ.tok s.toks.length with
    | none => rfl
    | some p => obtain ⟨L, e, u⟩ := p; have := hI.tokn _ _ _ _ ht; simp at this
  obtain ⟨hI', hM⟩ := hI.tok_step (s' := { s with toks := s.toks ++ [l'.length] }) (k := s.toks.length) (Nat.le_refl _) hgr (.inl ⟨rfl, hge⟩) hown hgn hsz ho
    (fun L0 e0 v0 h0 => by rw [hno] at h0; cases h0) (fun j u hj => by have := hI.im_lt hj; omega) (fun i => by
      by_cases hi : i = s.toks.length
      · subst hi; simp
      · rw [if_neg hi]
        rcases Nat.lt_or_ge i s.toks.length with h' | h'
        · rw [List.getElem?_append_left h']
        · rw [List.getElem?_eq_none (by simp; omega), List.getElem?_eq_none h']) rfl
  rcases hown.2 with ⟨rfl, _⟩ | ⟨g2, cap2, cur2, rfl, hb2, hg2, hn2, _⟩
  · simp [Value.ownBlock] at hgn
  · simp only [Value.ownBlock, Option.some.injEq] at hgn
    subst hgn
    refine ⟨_, hM, hI', ⟨⟨⟨g2, 0, none⟩, _, cap2, rfl, rfl, hn2, fun _ => rfl, _, zs, hszs, fun j u hj => ?_, ho, VRl.mono hM.le _ _ hv⟩, l'.length, _, by simp [Kn.setTok], Nat.le_refl _, fun _ => rfl⟩⟩
    simp only [Kn.setTok, if_true, Nat.zero_add]
    exact hj

theorem append_sim (hT : ∀ t, TyOK P C t) (hI : Inv C κ B s w) (hB : B ≤ w.heap.size) {t ty et : TypeId} (hk : (C.ti t).k = .slice et) {x y : Slot} {u v : Value} (hx : SR κ x u) (hy : SR κ y v) {sl : Slot} (h : appendS et (C.ti et) s x y = some (sl, s')) :
    ∃ z κ' w', (Builtin.append_ #[t, t] ty #[u, v]).run P w = .ok z w' ∧ Mv κ κ' w w' ∧ Inv C κ' B s' w' ∧ SR κ' sl z := by
  have hK := (hT t).kind
  have hel := (hT t).elem et hk
  rw [hk] at hK; simp only [KOk] at hK
  obtain ⟨i0, hi0⟩ := Option.isSome_iff_exists.1 hel
  unfold appendS at h
  split at h
  · rename_i hyl
    split at h
    · rename_i lx hxl
      cases h
      obtain ⟨a1, n1, c1, rfl, h1, h2, _⟩ := hx.list hxl
      obtain ⟨a2, n2, c2, rfl, h3, h4, h5, h6⟩ := hy.list hyl
      simp only [List.length_nil] at h3
      subst h3
      refine ⟨.slice a1 n1 c1, κ, w, ?_, .refl _ _, hI, hx⟩
      have hfc : (Builtin.firstCells i0.size 0 (.slice a2 0 c2)).run P w = .ok #[] w := by
        cases a2 with
        | none => simp [Builtin.firstCells]
        | some a2 => simp [Builtin.firstCells, loadCells, loadCellsFrom]
      cases a1 with
      | none => simp [Builtin.append_, run_underlying hK, sizeOf, typeInfo, hi0, Builtin.lenOf, h2, hfc]
      | some a1 => simp [Builtin.append_, run_underlying hK, sizeOf, typeInfo, hi0, Builtin.lenOf, h2, hfc, storeCells]
    · cases h
  · rename_i ys hne hyl
    cases hq : okSz (C.ti et).size ys with
    | false => rw [hq] at h; cases h
    | true =>
      rw [hq] at h
      simp only [cond_true] at h
      obtain ⟨hys, hsz⟩ := okSz_all hq
      have hne0 : (C.ti et).size ≠ 0 := by omega
      obtain ⟨ie, ze, g1, g2, g3, g4, g5, _⟩ := (hT et).info (nbad hT hne0)
      have hyn : y ≠ .val .nils := fun e => by subst e; simp only [Slot.list?] at hyl; cases hyl; exact hne rfl
      obtain ⟨ya, m, yc, rfl, hm, _, hysp, szy, yvs, hycl, hyh, hyo, hyv⟩ := hy.list_some hyl hyn
      have hmpos : 0 < m := by
        rw [← hm]
        cases ys with
        | nil => exact absurd rfl hne
        | cons _ _ => simp
      have hyasp := hysp hmpos
      have hylen : yvs.length = m * (C.ti et).size := by rw [← hyv.length, flat_length hys, hm]
      have hynews : ∀ j u, yvs[j]? = some u → w.cell? (ya.add j) = some u := fun j u hj => by
        obtain ⟨yb, yo, ysp⟩ := ya
        simp only at hyasp
        subst hyasp
        rw [add_plain]
        exact hI.im _ _ _ (hyh j u hj)
      split at h
      · rename_i k e' l
        cases hq2 : okSz (C.ti et).size l with
        | false => rw [hq2] at h; cases h
        | true =>
          rw [hq2] at h
          simp only [cond_true] at h
          obtain ⟨hlsz, _⟩ := okSz_all hq2
          split at h
          · rename_i hc
            obtain ⟨rfl, htk, hby, hmx⟩ := hc
            cases h
            obtain ⟨⟨xa, n, c, rfl, hxs⟩, L, uu, htok, hLl, hLe⟩ := hx
            obtain ⟨hxn, hxc, hxsp, szx, xvs, hxcl, hxh, hxo, hxv⟩ := hxs
            have hLk := hI.tokn k L e' uu htok
            rw [htk] at hLk
            cases hLk
            have huu := hLe rfl
            subst huu
            obtain ⟨e2, v2, xs, g, k1, k2, k3, k4, k5, k6, k7⟩ := hI.toks k l.length htk
            rw [htok] at k1
            cases k1
            simp only [Value.ownBlock, Option.some.injEq] at k3
            rcases k2.2 with ⟨hbad, _⟩ | ⟨g', cap, cur, hv', hbg, hgg, hncap, hcapm, hcur, htake⟩
            · cases hbad
            · cases hv'
              simp only at k3
              subst k3
              have hxl : xvs.length = l.length * (C.ti e').size := by rw [← hxv.length, flat_length hlsz]
              have hxs2 : xs = xvs := by
                refine list_eq_of_get (by rw [hxl]; exact k2.1) fun j a b ha hb => ?_
                have h1 := k6 j a ha
                have h2 := hxh j b hb
                simp only [Nat.zero_add] at h2
                rw [h1] at h2
                exact Option.some.inj h2
              subst hxs2
              have hkl : k < s.toks.length := (List.getElem?_eq_some_iff.1 htk).1
              have htoks' : ∀ i, (s.toks.set k (l.length + ys.length))[i]? = if i = k then some (l.length + ys.length) else s.toks[i]? := fun i => by
                by_cases hik : i = k
                · subst hik; rw [List.getElem?_set_self hkl, if_pos rfl]
                · rw [List.getElem?_set_ne (Ne.symm hik), if_neg hik]
              have hflat : ∀ κ', VRl κ' (flat l) xs → VRl κ' (flat ys) yvs → VRl κ' (flat (l ++ ys)) (xs ++ yvs) := fun κ' h1 h2 => by
                rw [show flat (l ++ ys) = flat l ++ flat ys by simp [flat]]
                exact VRl.append.2 ⟨_, _, rfl, h1, h2⟩
              have hszs : ∀ v ∈ l ++ ys, v.cells.length = (C.ti e').size := fun v hv => (List.mem_append.1 hv).elim (hlsz v) (hys v)
              by_cases hroom : l.length + m ≤ c
              · have hr := run_append_room (P := P) w t ty e' ie hK g1 g' l.length c cur hgg ya m yc yvs (by rw [g2]; exact hylen) hynews (fun u hu => hyo u hu) hroom (by rw [g2, hylen, hcur, ← Nat.add_mul]; exact Nat.mul_le_mul_right _ hroom)
                rw [g2] at hr
                generalize hcur' : (cur.toList.take (l.length * (C.ti e').size) ++ yvs ++ cur.toList.drop (l.length * (C.ti e').size + yvs.length)).toArray = cur' at hr
                have hgr : w.grownBy (w.setRow g' cur') (some g') := ⟨rfl, rfl, rfl, by simp, fun i hi hne => setRow_other w g' i cur' (fun e => hne (by rw [e]))⟩
                have hown' : (w.setRow g' cur').ownsRow B e' (C.ti e').size (.slice (some ⟨g', 0, none⟩) (l.length + ys.length) c) (l.length + ys.length) (xs ++ yvs) := by
                  refine ⟨by rw [List.length_append, k2.1, hylen, hm, Nat.add_mul], .inr ⟨g', c, cur', rfl, hbg, setRow_heap w g' cur _ e' (0, 0) hgg, by rw [hm]; exact hroom, hcapm, ?_, ?_⟩⟩
                  · rw [← hcur', ← hcur]
                    have hle : l.length * (C.ti e').size + yvs.length ≤ cur.size := by rw [hylen, hcur, ← Nat.add_mul]; exact Nat.mul_le_mul_right _ hroom
                    simp only [List.size_toArray, List.length_append, List.length_take, List.length_drop, Array.length_toList]
                    omega
                  · rw [← hcur']
                    rw [List.take_left' (by rw [List.length_append, List.length_take, Nat.min_eq_left (by have h9 : cur.toList.length = c * (C.ti e').size := (by rw [← hcur]; simp); rw [h9]; exact Nat.mul_le_mul_right _ (by omega)), hylen, hm, Nat.add_mul]), htake]
                obtain ⟨hI', hM⟩ := hI.tok_step (s' := { s with toks := s.toks.set k (l.length + ys.length) }) (Nat.le_of_lt hkl) hgr (.inr ⟨rfl, l.length, _, htok, rfl⟩) hown' rfl hsz (k5.append hyo)
                  (fun L0 e0 v0 h0 => by rw [htok] at h0; cases h0; exact ⟨rfl, by omega⟩) (fun j u hj => by
                    have hjl : j < xs.length := by
                      rcases Nat.lt_or_ge j xs.length with h' | h'
                      · exact h'
                      · rw [k7 j (by rw [← k2.1]; exact h')] at hj; cases hj
                    rw [List.getElem?_append_left hjl]
                    have := k6 j _ (List.getElem?_eq_getElem hjl)
                    rw [hj] at this
                    rw [List.getElem?_eq_getElem hjl, ← this]) htoks' rfl
                refine ⟨.slice (some ⟨g', 0, none⟩) (l.length + ys.length) c, _, _, by rw [hr, hm], hM, hI', ⟨⟨⟨g', 0, none⟩, _, c, rfl, by simp, by rw [hm]; exact hroom, fun _ => rfl, _, xs ++ yvs, hszs, fun j u hj => ?_, k5.append hyo, hflat _ (VRl.mono hM.le _ _ hxv) (VRl.mono hM.le _ _ hyv)⟩, l.length + ys.length, _, by simp [Kn.setTok], by simp, fun _ => rfl⟩⟩
                simp only [Kn.setTok, if_true, Nat.zero_add]
                exact hj
              · have hgrow := run_append_arg_grows (P := P) w t ty e' ie ze (C.ti e').size (C.ti e').bytes hK g1 g4 g2 g3 g5 hsz ⟨g', 0, none⟩ l.length c xs k2.1 (fun j u hj => by rw [add_plain, Nat.zero_add]; exact hI.im _ _ _ (k6 j u hj)) ya m yc yvs hylen hynews (by omega) (by simp only [maxLen]; rw [← hm]; omega) (by rw [← hm]; exact hby)
                obtain ⟨v', w', hr, hown', hgr⟩ := hgrow
                obtain ⟨gn, hgn⟩ : ∃ gn, v'.ownBlock = some gn := by
                  rcases hown'.2 with ⟨_, h0⟩ | ⟨g2, cap2, cur2, rfl, _⟩
                  · omega
                  · exact ⟨g2, rfl⟩
                have hgn2 := (hown'.lt gn hgn).1
                have hown2 : w'.ownsRow B e' (C.ti e').size v' (l.length + ys.length) (xs ++ yvs) := by
                  rw [hm]
                  refine ⟨hown'.1, hown'.2.imp id fun ⟨g2, cap2, cur2, h1, h2, h3⟩ => ⟨g2, cap2, cur2, h1, Nat.le_trans hB h2, h3⟩⟩
                obtain ⟨hI', hM⟩ := hI.tok_step (s' := { s with toks := s.toks.set k (l.length + ys.length) }) (Nat.le_of_lt hkl) hgr (.inl ⟨rfl, hgn2⟩) hown2 hgn hsz (k5.append hyo)
                  (fun L0 e0 v0 h0 => by rw [htok] at h0; cases h0; exact ⟨rfl, by omega⟩) (fun j u hj => by have := hI.im_lt hj; omega) htoks' rfl
                rcases hown2.2 with ⟨_, h0⟩ | ⟨g2', cap2, cur2, rfl, hb2, hg2, hn2, _⟩
                · omega
                · simp only [Value.ownBlock, Option.some.injEq] at hgn
                  subst hgn
                  refine ⟨_, _, _, hr, hM, hI', ⟨⟨⟨g2', 0, none⟩, _, cap2, rfl, by simp, hn2, fun _ => rfl, _, xs ++ yvs, hszs, fun j u hj => ?_, k5.append hyo, hflat _ (VRl.mono hM.le _ _ hxv) (VRl.mono hM.le _ _ hyv)⟩, l.length + ys.length, _, by simp [Kn.setTok], by simp, fun _ => rfl⟩⟩
                  simp only [Kn.setTok, if_true, Nat.zero_add]
                  exact hj
          · cases h
      · rename_i l
        cases hq2 : okSz (C.ti et).size l with
        | false => rw [hq2] at h; cases h
        | true =>
          rw [hq2] at h
          simp only [cond_true] at h
          obtain ⟨hlsz, _⟩ := okSz_all hq2
          split at h
          · rename_i hc
            obtain ⟨hby, hmx⟩ := hc
            cases h
            obtain ⟨xa, n, rfl, hxn, _, hxsp, szx, xvs, hxcl, hxh, hxo, hxv⟩ := hx
            have hxl : xvs.length = n * (C.ti et).size := by rw [← hxv.length, flat_length hlsz, hxn]
            have holds : ∀ j u, xvs[j]? = some u → w.cell? (xa.add j) = some u := fun j u hj => by
              have hn : 0 < n := by
                rcases Nat.eq_zero_or_pos n with h0 | h0
                · subst h0
                  have : xvs = [] := List.length_eq_zero_iff.1 (by rw [hxl]; simp)
                  subst this
                  simp at hj
                · exact h0
              have hsp := hxsp hn
              obtain ⟨xb, xo, xsp⟩ := xa
              simp only at hsp
              subst hsp
              rw [add_plain]
              exact hI.im _ _ _ (hxh j u hj)
            obtain ⟨v', w', hr, hown', hgr⟩ := run_append_arg_grows (P := P) w t ty et ie ze (C.ti et).size (C.ti et).bytes hK g1 g4 g2 g3 g5 hsz xa n n xvs hxl holds ya m yc yvs hylen hynews (by omega) (by simp only [maxLen]; rw [← hm, ← hxn]; omega) (by rw [← hm, ← hxn]; exact hby)
            obtain ⟨gn, hgn⟩ : ∃ gn, v'.ownBlock = some gn := by
              rcases hown'.2 with ⟨_, h0⟩ | ⟨g2, cap2, cur2, rfl, _⟩
              · omega
              · exact ⟨g2, rfl⟩
            have hlen : (l ++ ys).length = n + m := by simp [hxn, hm]
            obtain ⟨κ', r1, r2, r3⟩ := hI.fresh_tok (l' := l ++ ys) hgr hgn (hown'.lt gn hgn).1 (by rw [hlen]; exact ⟨hown'.1, hown'.2.imp id fun ⟨g2, cap2, cur2, h1, h2, h3⟩ => ⟨g2, cap2, cur2, h1, Nat.le_trans hB h2, h3⟩⟩) hsz (hxo.append hyo)
              (by rw [show flat (l ++ ys) = flat l ++ flat ys by simp [flat]]; exact VRl.append.2 ⟨_, _, rfl, hxv, hyv⟩) (fun v hv => (List.mem_append.1 hv).elim (hlsz v) (hys v))
            simp only [List.length_append] at r2
            exact ⟨v', κ', w', hr, r1, r2, r3⟩
          · cases h
      · split at h
        · rename_i hc
          obtain ⟨hby, hmx⟩ := hc
          cases h
          simp only [SR, VR] at hx
          subst hx
          obtain ⟨v', w', hr, hown', hgr, _, hbl⟩ := run_append_own_at (P := P) w B t ty et ie ze (C.ti et).size (C.ti et).bytes hK g1 g4 g2 g3 g5 hsz (.slice none 0 0) 0 [] (World.ownsRow_nil _ _ _ _) ya m yc yvs hylen hynews (fun u hu => hyo u hu) (by simp only [maxLen]; rw [← hm]; omega) (by rw [← hm]; simpa using hby) hB
          simp only [Nat.zero_add, List.nil_append] at hown'
          obtain ⟨gn, hgn⟩ : ∃ gn, v'.ownBlock = some gn := by
            rcases hown'.2 with ⟨_, h0⟩ | ⟨g2, cap2, cur2, rfl, _⟩
            · omega
            · exact ⟨g2, rfl⟩
          have hge : w.heap.size ≤ gn := by
            rw [hgn] at hbl
            rcases hbl with hbl | hbl
            · cases hbl
            · cases hbl; exact Nat.le_refl _
          obtain ⟨κ', r1, r2, r3⟩ := hI.fresh_tok (l' := ys) hgr hgn hge (by rw [hm]; exact hown') hsz hyo hyv hys
          exact ⟨v', κ', w', hr, r1, r2, r3⟩
        · cases h
      · cases h
  · cases h

end
end Go.Am
