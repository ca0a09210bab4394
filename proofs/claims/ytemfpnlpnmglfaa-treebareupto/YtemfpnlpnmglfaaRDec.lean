/- What is read of an argument, as a tree. -/
import Derived.Test.YtemfpnlpnmglfaaPTree
import Derived.Test.YtemfpnlpnmglfaaG
import Derived.Test.YtemfpnlpnmglfaaA23
import Derived.Test.YtemfpnlpnmglfaaRows
set_option linter.unusedVariables false
set_option linter.unusedSimpArgs false
namespace Go.Am
open Go

section
variable {H : Type} {ti : TypeId → TI}

def Fields (ti : TypeId → TI) (n : Nat) : List (Nat × TypeId) → List (DataW H) → List (List AV) → Prop
  | [], [], [] => True
  | f :: fs, d :: ds, l :: ls => conv ti n f.2 d = some l ∧ Fields ti n fs ds ls
  | _, _, _ => False

theorem fields_of (n : Nat) : ∀ (fs : List (Nat × TypeId)) (ds : List (DataW H)) (ls : List (List AV)), fs.length = ds.length → ((fs.zip ds).mapM fun p => conv ti n p.1.2 p.2) = some ls → Fields ti n fs ds ls
  | [], [], ls, _, h => by simp at h; subst h; trivial
  | f :: fs, d :: ds, ls, hl, h => by
    rw [List.zip_cons_cons, List.mapM_cons] at h
    cases h1 : conv ti n f.2 d with
    | none => simp [h1] at h
    | some l =>
      cases h2 : ((fs.zip ds).mapM fun p => conv ti n p.1.2 p.2) with
      | none => simp [h1, h2] at h
      | some ls' =>
        simp [h1, h2] at h
        subst h
        exact ⟨h1, fields_of n fs ds ls' (by simpa using hl) h2⟩
  | [], _ :: _, _, hl, _ => by simp at hl
  | _ :: _, [], _, hl, _ => by simp at hl

theorem conv_struct {n : Nat} {t : TypeId} {d : DataW H} {l : List AV} {fs : List (Nat × TypeId)} (hk : (ti t).k = .struct fs) (h : conv ti (n + 1) t d = some l) : ∃ parts ls, d = .agg parts ∧ Fields ti n fs parts ls ∧ l = ls.flatten := by
  simp only [conv, hk] at h
  split at h <;> first | (cases h; done) | skip
  all_goals try (rename_i hx; cases hx; done)
  rename_i fs' parts hx
  cases hx
  split at h
  · rename_i hl
    obtain ⟨ls, h1, rfl⟩ := Option.map_eq_some_iff.1 h
    exact ⟨parts, ls, rfl, fields_of n _ _ _ hl h1, rfl⟩
  · cases h

theorem conv_int {n : Nat} {t : TypeId} {d : DataW H} {l : List AV} {k : IntKind} (hk : (ti t).k = .int k) (h : conv ti n t d = some l) : ∃ x, d = .lit (.int k x) ∧ l = [.int k x] ∧ (Lit.int k x).wf = true := by
  cases n with
  | zero => simp [conv] at h
  | succ n =>
    simp only [conv, hk] at h
    split at h <;> first | (cases h; done) | skip
    all_goals try (rename_i hx; cases hx; done)
    rename_i k' j x hx
    cases hx
    split at h
    · rename_i hc
      obtain ⟨rfl, hc⟩ := hc
      cases h
      exact ⟨x, rfl, rfl, hc⟩
    · cases h

theorem conv_bool {n : Nat} {t : TypeId} {d : DataW H} {l : List AV} (hk : (ti t).k = .bool) (h : conv ti n t d = some l) : ∃ b, d = .lit (.bool b) ∧ l = [.bool b] := by
  cases n with
  | zero => simp [conv] at h
  | succ n =>
    simp only [conv, hk] at h
    split at h <;> first | (cases h; done) | skip
    all_goals try (rename_i hx; cases hx; done)
    rename_i b hx
    cases h
    exact ⟨b, rfl, rfl⟩

theorem conv_str {n : Nat} {t : TypeId} {d : DataW H} {l : List AV} (hk : (ti t).k = .str) (h : conv ti n t d = some l) : ∃ s, d = .lit (.string s) ∧ l = [.str s] := by
  cases n with
  | zero => simp [conv] at h
  | succ n =>
    simp only [conv, hk] at h
    split at h <;> first | (cases h; done) | skip
    all_goals try (rename_i hx; cases hx; done)
    rename_i s hx
    split at h
    · cases h
      exact ⟨s, rfl, rfl⟩
    · cases h

theorem conv_slice {n : Nat} {t e : TypeId} {d : DataW H} {l : List AV} (hk : (ti t).k = .slice e) (h : conv ti (n + 1) t d = some l) : (d = .nil ∧ l = [.nils]) ∨ ∃ elems spare xs, d = .slice elems spare ∧ (elems.mapM fun d => (conv ti n e d).bind (ofCells (ti e))) = some xs ∧ l = [.sl xs] := by
  simp only [conv, hk] at h
  split at h <;> first | (cases h; done) | skip
  all_goals try (rename_i hx; cases hx; done)
  · cases h
    exact .inl ⟨rfl, rfl⟩
  · rename_i e' elems spare hx
    cases hx
    split at h
    · obtain ⟨xs, h1, rfl⟩ := Option.map_eq_some_iff.1 h
      exact .inr ⟨elems, spare, xs, rfl, h1, rfl⟩
    · cases h
end
end Go.Am

namespace Go.Proofs.Ytemfpnlpnmglfaa
open Go Go.Am
set_option maxRecDepth 4000

section
variable {H : Type}

theorem elems_dec {τ : Type} {cells : τ → List AV} {G : Nat → τ → Prop} {GL : Nat → List τ → Prop} {e : TypeId} {n : Nat} (ha : (C.ti e).isAgg = true) (h0 : GL 0 []) (h1 : ∀ m k t L, G m t → GL k L → GL (m + k) (t :: L))
    (he : ∀ (d : DataW H) l, conv C.ti n e d = some l → Rows.uptoBulk d < 2^30 → ∃ t, l = cells t ∧ G (Rows.uptoBulk d) t) : ∀ (ds : List (DataW H)) (xs : List AV), (ds.mapM fun d => (conv C.ti n e d).bind (ofCells (C.ti e))) = some xs → Rows.uptoBulkAll ds < 2^30 → ∃ L, xs = L.map (fun t => .agg (cells t)) ∧ GL (Rows.uptoBulkAll ds) L
  | [], xs, h, _ => by simp at h; subst h; exact ⟨[], rfl, by simpa only [Rows.uptoBulkAll] using h0⟩
  | d :: ds, xs, h, hb => by
    simp only [Rows.uptoBulkAll] at hb ⊢
    rw [List.mapM_cons] at h
    cases h2 : (conv C.ti n e d) with
    | none => simp [h2] at h
    | some l =>
      obtain ⟨t, rfl, ht⟩ := he d l h2 (by omega)
      cases h3 : ofCells (C.ti e) (cells t) with
      | none => simp [h2, h3] at h
      | some v =>
        cases h4 : (ds.mapM fun d => (conv C.ti n e d).bind (ofCells (C.ti e))) with
        | none => simp [h2, h3, h4] at h
        | some ys =>
          simp [h2, h3, h4] at h
          subst h
          obtain ⟨L, rfl, hL⟩ := elems_dec ha h0 h1 he ds ys h4 (by omega)
          have : v = .agg (cells t) := by
            unfold ofCells at h3
            rw [ha, cond_true] at h3
            split at h3 <;> cases h3
            rfl
          subst this
          exact ⟨t :: L, rfl, h1 _ _ _ _ ht hL⟩

theorem slice_dec {τ : Type} {cells : τ → List AV} {G : Nat → τ → Prop} {GL : Nat → List τ → Prop} {t e : TypeId} {n : Nat} (hk : (C.ti t).k = .slice e) (ha : (C.ti e).isAgg = true) (h0 : GL 0 []) (h1 : ∀ m k t L, G m t → GL k L → GL (m + k) (t :: L))
    (he : ∀ (d : DataW H) l, conv C.ti n e d = some l → Rows.uptoBulk d < 2^30 → ∃ t, l = cells t ∧ G (Rows.uptoBulk d) t) (d : DataW H) (l : List AV) (h : conv C.ti (n + 1) t d = some l) (hb : Rows.uptoBulk d < 2^30) : ∃ L b k, l = [encS b (L.map fun t => .agg (cells t))] ∧ GL k L ∧ k + 1 ≤ Rows.uptoBulk d := by
  rcases conv_slice hk h with ⟨rfl, rfl⟩ | ⟨elems, spare, xs, rfl, h2, rfl⟩
  · exact ⟨[], true, 0, rfl, h0, by simp only [Rows.uptoBulk]; omega⟩
  · simp only [Rows.uptoBulk] at hb ⊢
    obtain ⟨L, rfl, hL⟩ := elems_dec ha h0 h1 he elems xs h2 (by omega)
    exact ⟨L, false, _, rfl, hL, by omega⟩

def GTy (b : Nat) (t : Ty) : Prop := t.size ≤ b ∧ ∀ a, ∀ n ∈ nodesTy a t, n.ok
def GTys (b : Nat) (l : List Ty) : Prop := Ty.sizes l ≤ b ∧ ∀ a, ∀ n ∈ nodesTys a l, n.ok
theorem GTys.nil : GTys 0 [] := ⟨Nat.le_refl _, by simp [nodesTys]⟩
theorem GTys.cons (m k : Nat) (t : Ty) (L : List Ty) (h : GTy m t) (g : GTys k L) : GTys (m + k) (t :: L) := by
  refine ⟨by have := h.1; have := g.1; simp only [Ty.sizes]; omega, fun a n hn => ?_⟩
  simp only [nodesTys, List.mem_append] at hn
  rcases hn with hn | hn
  · exact h.2 a n hn
  · exact g.2 a n hn

theorem dec_ty : ∀ (n : Nat) (d : DataW H) l, conv C.ti n T_Ty d = some l → Rows.uptoBulk d < 2^30 → ∃ t : Ty, l = t.cells ∧ GTy (Rows.uptoBulk d) t
  | 0, d, l, h, _ => by simp [conv] at h
  | 1, d, l, h, _ => by
    obtain ⟨parts, ls, rfl, hf, rfl⟩ := conv_struct T_Ty_k h
    rcases parts with _ | ⟨d1, _ | ⟨d2, _ | ⟨d3, _ | ⟨d4, _ | _⟩⟩⟩⟩ <;> rcases ls with _ | ⟨l1, _ | ⟨l2, _ | ⟨l3, _ | ⟨l4, _ | _⟩⟩⟩⟩ <;> simp only [Fields, and_false] at hf
    simp [conv] at hf
  | n + 2, d, l, h, hb => by
    obtain ⟨parts, ls, rfl, hf, rfl⟩ := conv_struct T_Ty_k h
    rcases parts with _ | ⟨d1, _ | ⟨d2, _ | ⟨d3, _ | ⟨d4, _ | _⟩⟩⟩⟩ <;> rcases ls with _ | ⟨l1, _ | ⟨l2, _ | ⟨l3, _ | ⟨l4, _ | _⟩⟩⟩⟩ <;> simp only [Fields, and_false] at hf
    obtain ⟨c1, c2, c3, c4, -⟩ := hf
    simp only [Rows.uptoBulk, Rows.uptoBulkAll] at hb ⊢
    obtain ⟨k, rfl, rfl, w1⟩ := conv_int T_TyKind_k c1
    obtain ⟨m, rfl, rfl, w2⟩ := conv_int T_int_k c2
    obtain ⟨s, rfl, rfl⟩ := conv_str T_string_k c3
    simp only [Rows.uptoBulk] at hb ⊢
    obtain ⟨L, b, k', rfl, hL, hk⟩ := slice_dec T_S_Ty_k T_Ty_agg GTys.nil GTys.cons (fun d l h hb => dec_ty n d l h hb) d4 l4 c4 (by omega)
    refine ⟨.mk k m s L b, by rw [Ty.cells_mk]; rfl, by have := hL.1; simp only [Ty.size]; omega, fun a nd hn => ?_⟩
    simp only [nodesTy, List.mem_cons] at hn
    rcases hn with rfl | hn
    · simp only [TNode.ok, Ty.name]; omega
    · exact hL.2 a nd hn

theorem wf64 {x : Int} (h : (Lit.int .i64 x).wf = true) : -9223372036854775808 ≤ x ∧ x ≤ 9223372036854775807 := by
  simp only [Lit.wf, Bool.and_eq_true, decide_eq_true_eq] at h
  exact h

def GPat (b : Nat) (t : Pat) : Prop := t.size ≤ b ∧ ∀ n ∈ nodesPat t, n.ok
def GPats (b : Nat) (l : List Pat) : Prop := Pat.sizes l ≤ b ∧ ∀ n ∈ nodesPats l, n.ok
theorem GPats.nil : GPats 0 [] := ⟨Nat.le_refl _, by simp [nodesPats]⟩
theorem GPats.cons (m k : Nat) (t : Pat) (L : List Pat) (h : GPat m t) (g : GPats k L) : GPats (m + k) (t :: L) := by
  refine ⟨by have := h.1; have := g.1; simp only [Pat.sizes]; omega, fun n hn => ?_⟩
  simp only [nodesPats, List.mem_append] at hn
  rcases hn with hn | hn
  · exact h.2 n hn
  · exact g.2 n hn

theorem dec_pat : ∀ (n : Nat) (d : DataW H) l, conv C.ti n T_Pat d = some l → Rows.uptoBulk d < 2^30 → ∃ t : Pat, l = t.cells ∧ GPat (Rows.uptoBulk d) t
  | 0, d, l, h, _ => by simp [conv] at h
  | 1, d, l, h, _ => by
    obtain ⟨parts, ls, rfl, hf, rfl⟩ := conv_struct T_Pat_k h
    rcases parts with _ | ⟨d1, _ | ⟨d2, _ | ⟨d3, _ | ⟨d4, _ | ⟨d5, _ | _⟩⟩⟩⟩⟩ <;> rcases ls with _ | ⟨l1, _ | ⟨l2, _ | ⟨l3, _ | ⟨l4, _ | ⟨l5, _ | _⟩⟩⟩⟩⟩ <;> simp only [Fields, and_false] at hf
    simp [conv] at hf
  | n + 2, d, l, h, hb => by
    obtain ⟨parts, ls, rfl, hf, rfl⟩ := conv_struct T_Pat_k h
    rcases parts with _ | ⟨d1, _ | ⟨d2, _ | ⟨d3, _ | ⟨d4, _ | ⟨d5, _ | _⟩⟩⟩⟩⟩ <;> rcases ls with _ | ⟨l1, _ | ⟨l2, _ | ⟨l3, _ | ⟨l4, _ | ⟨l5, _ | _⟩⟩⟩⟩⟩ <;> simp only [Fields, and_false] at hf
    obtain ⟨c1, c2, c3, c4, c5, -⟩ := hf
    simp only [Rows.uptoBulk, Rows.uptoBulkAll] at hb ⊢
    obtain ⟨k, rfl, rfl, w1⟩ := conv_int T_PatKind_k c1
    obtain ⟨a, rfl, rfl, w2⟩ := conv_int T_int_k c2
    obtain ⟨s, rfl, rfl⟩ := conv_str T_string_k c3
    obtain ⟨m, rfl, rfl, w4⟩ := conv_int T_int_k c4
    simp only [Rows.uptoBulk] at hb ⊢
    obtain ⟨L, b, k', rfl, hL, hk⟩ := slice_dec T_S_Pat_k T_Pat_agg GPats.nil GPats.cons (fun d l h hb => dec_pat n d l h hb) d5 l5 c5 (by omega)
    refine ⟨.mk k a s m L b, by rw [Pat.cells_mk]; rfl, by have := hL.1; simp only [Pat.size]; omega, fun nd hn => ?_⟩
    simp only [nodesPat, List.mem_cons] at hn
    rcases hn with rfl | hn
    · exact ⟨by simp only [Pat.name]; omega, wf64 w4⟩
    · exact hL.2 nd hn

def GCon (b : Nat) (t : Con) : Prop := t.size ≤ b ∧ ∀ n ∈ nodesCon t, n.ok
def GCons (b : Nat) (l : List Con) : Prop := Con.sizes l ≤ b ∧ ∀ n ∈ nodesCons l, n.ok
theorem GCons.nil : GCons 0 [] := ⟨Nat.le_refl _, by simp [nodesCons]⟩
theorem GCons.cons (m k : Nat) (t : Con) (L : List Con) (h : GCon m t) (g : GCons k L) : GCons (m + k) (t :: L) := by
  refine ⟨by have := h.1; have := g.1; simp only [Con.sizes]; omega, fun n hn => ?_⟩
  simp only [nodesCons, List.mem_append] at hn
  rcases hn with hn | hn
  · exact h.2 n hn
  · exact g.2 n hn

theorem dec_con : ∀ (n : Nat) (d : DataW H) l, conv C.ti n T_Con d = some l → Rows.uptoBulk d < 2^30 → ∃ t : Con, l = t.cells ∧ GCon (Rows.uptoBulk d) t
  | 0, d, l, h, _ => by simp [conv] at h
  | n + 1, d, l, h, hb => by
    obtain ⟨parts, ls, rfl, hf, rfl⟩ := conv_struct T_Con_k h
    rcases parts with _ | ⟨d1, _ | ⟨d2, _ | ⟨d3, _ | ⟨d4, _ | _⟩⟩⟩⟩ <;> rcases ls with _ | ⟨l1, _ | ⟨l2, _ | ⟨l3, _ | ⟨l4, _ | _⟩⟩⟩⟩ <;> simp only [Fields, and_false] at hf
    obtain ⟨c1, c2, c3, c4, -⟩ := hf
    simp only [Rows.uptoBulk, Rows.uptoBulkAll] at hb ⊢
    obtain ⟨s, rfl, rfl⟩ := conv_str T_string_k c1
    obtain ⟨a, rfl, rfl, w2⟩ := conv_int T_int_k c2
    obtain ⟨hs, rfl, rfl⟩ := conv_bool T_bool_k c3
    simp only [Rows.uptoBulk] at hb ⊢
    obtain ⟨t, rfl, ht⟩ := dec_ty n d4 l4 c4 (by omega)
    refine ⟨⟨s, a, hs, t⟩, by simp [Con.cells], by have := ht.1; simp only [Con.size]; omega, fun nd hn => ?_⟩
    simp only [nodesCon, List.mem_cons] at hn
    rcases hn with rfl | hn
    · simp only [TNode.ok]; omega
    · cases hs
      · simp at hn
      · exact ht.2 _ nd hn

def GExp (b : Nat) (t : Exp) : Prop := t.size ≤ b ∧ ∀ n ∈ nodesExp t, n.ok
def GExps (b : Nat) (l : List Exp) : Prop := Exp.sizes l ≤ b ∧ ∀ n ∈ nodesExps l, n.ok
def GCase (b : Nat) (t : Case) : Prop := t.size ≤ b ∧ ∀ n ∈ nodesCase t, n.ok
def GCases (b : Nat) (l : List Case) : Prop := Case.sizes l ≤ b ∧ ∀ n ∈ nodesCases l, n.ok
def GDec (b : Nat) (t : Dec) : Prop := t.size ≤ b ∧ ∀ i, ∀ n ∈ nodesDec i t, n.ok
def GDecs (b : Nat) (l : List Dec) : Prop := Dec.sizes l ≤ b ∧ ∀ i, ∀ n ∈ nodesDecs i l, n.ok
def GFun (b : Nat) (t : Fun) : Prop := t.size ≤ b ∧ ∀ n ∈ nodesFun t, n.ok
def GFuns (b : Nat) (l : List Fun) : Prop := Fun.sizes l ≤ b ∧ ∀ n ∈ nodesFuns l, n.ok
theorem GDecs.nil : GDecs 0 [] := ⟨by simp [Dec.sizes], by simp [nodesDecs]⟩
theorem GDecs.cons (m k : Nat) (t : Dec) (L : List Dec) (h : GDec m t) (g : GDecs k L) : GDecs (m + k) (t :: L) := by
  refine ⟨by have := h.1; have := g.1; simp only [Dec.sizes]; omega, fun i n hn => ?_⟩
  simp only [nodesDecs, List.mem_append] at hn
  rcases hn with hn | hn
  · exact h.2 i n hn
  · exact g.2 i n hn
theorem GExps.nil : GExps 0 [] := ⟨by simp [Exp.sizes], by simp [nodesExps]⟩
theorem GExps.cons (m k : Nat) (t : Exp) (L : List Exp) (h : GExp m t) (g : GExps k L) : GExps (m + k) (t :: L) := by
  refine ⟨by have := h.1; have := g.1; simp only [Exp.sizes]; omega, fun n hn => ?_⟩
  simp only [nodesExps, List.mem_append] at hn
  rcases hn with hn | hn
  · exact h.2 n hn
  · exact g.2 n hn
theorem GCases.nil : GCases 0 [] := ⟨by simp [Case.sizes], by simp [nodesCases]⟩
theorem GCases.cons (m k : Nat) (t : Case) (L : List Case) (h : GCase m t) (g : GCases k L) : GCases (m + k) (t :: L) := by
  refine ⟨by have := h.1; have := g.1; simp only [Case.sizes]; omega, fun n hn => ?_⟩
  simp only [nodesCases, List.mem_append] at hn
  rcases hn with hn | hn
  · exact h.2 n hn
  · exact g.2 n hn
theorem GFuns.nil : GFuns 0 [] := ⟨by simp [Fun.sizes], by simp [nodesFuns]⟩
theorem GFuns.cons (m k : Nat) (t : Fun) (L : List Fun) (h : GFun m t) (g : GFuns k L) : GFuns (m + k) (t :: L) := by
  refine ⟨by have := h.1; have := g.1; simp only [Fun.sizes]; omega, fun n hn => ?_⟩
  simp only [nodesFuns, List.mem_append] at hn
  rcases hn with hn | hn
  · exact h.2 n hn
  · exact g.2 n hn

structure DecAll (H : Type) (n : Nat) : Prop where
  exp : ∀ (d : DataW H) l, conv C.ti n T_Exp d = some l → Rows.uptoBulk d < 2^30 → ∃ t : Exp, l = t.cells ∧ GExp (Rows.uptoBulk d) t
  case : ∀ (d : DataW H) l, conv C.ti n T_Case d = some l → Rows.uptoBulk d < 2^30 → ∃ t : Case, l = t.cells ∧ GCase (Rows.uptoBulk d) t
  dec : ∀ (d : DataW H) l, conv C.ti n T_Dec d = some l → Rows.uptoBulk d < 2^30 → ∃ t : Dec, l = t.cells ∧ GDec (Rows.uptoBulk d) t
  fn : ∀ (d : DataW H) l, conv C.ti n T_Fun d = some l → Rows.uptoBulk d < 2^30 → ∃ t : Fun, l = t.cells ∧ GFun (Rows.uptoBulk d) t

theorem dec_exp2 (n : Nat) (ih : DecAll H n) : ∀ (d : DataW H) l, conv C.ti (n + 2) T_Exp d = some l → Rows.uptoBulk d < 2^30 → ∃ t : Exp, l = t.cells ∧ GExp (Rows.uptoBulk d) t := fun d l h hb => by
    obtain ⟨parts, ls, rfl, hf, rfl⟩ := conv_struct T_Exp_k h
    rcases parts with _ | ⟨d1, _ | ⟨d2, _ | ⟨d3, _ | ⟨d4, _ | ⟨d5, _ | ⟨d6, _ | ⟨d7, _ | _⟩⟩⟩⟩⟩⟩⟩ <;> rcases ls with _ | ⟨l1, _ | ⟨l2, _ | ⟨l3, _ | ⟨l4, _ | ⟨l5, _ | ⟨l6, _ | ⟨l7, _ | _⟩⟩⟩⟩⟩⟩⟩ <;> simp only [Fields, and_false] at hf
    obtain ⟨c1, c2, c3, c4, c5, c6, c7, -⟩ := hf
    simp only [Rows.uptoBulk, Rows.uptoBulkAll] at hb ⊢
    obtain ⟨k, rfl, rfl, w1⟩ := conv_int T_ExpKind_k c1
    obtain ⟨a, rfl, rfl, w2⟩ := conv_int T_int_k c2
    obtain ⟨s, rfl, rfl⟩ := conv_str T_string_k c3
    obtain ⟨m, rfl, rfl, w4⟩ := conv_int T_int_k c4
    simp only [Rows.uptoBulk] at hb ⊢
    obtain ⟨L, b, k', rfl, hL, hk⟩ := slice_dec T_S_Exp_k T_Exp_agg GExps.nil GExps.cons ih.exp d5 l5 c5 (by omega)
    obtain ⟨L2, b2, k2', rfl, hL2, hk2⟩ := slice_dec T_S_Case_k T_Case_agg GCases.nil GCases.cons ih.case d6 l6 c6 (by omega)
    obtain ⟨L3, b3, k3', rfl, hL3, hk3⟩ := slice_dec T_S_Dec_k T_Dec_agg GDecs.nil GDecs.cons ih.dec d7 l7 c7 (by omega)
    refine ⟨.mk k a s m L b L2 b2 L3 b3, by rw [Exp.cells_mk]; rfl, by have := hL.1; have := hL2.1; have := hL3.1; simp only [Exp.size]; omega, fun nd hn => ?_⟩
    simp only [nodesExp, List.mem_cons, List.mem_append] at hn
    rcases hn with rfl | hn | hn | hn
    · have h1 := hL.1
      have h2 := Exp.len_sizes L
      exact ⟨by simp only [Exp.name]; omega, by simp only [Exp.kids]; omega, wf64 w4⟩
    · exact hL3.2 _ nd hn
    · exact hL.2 nd hn
    · exact hL2.2 nd hn

theorem dec_dec2 (n : Nat) (ih : DecAll H n) : ∀ (d : DataW H) l, conv C.ti (n + 2) T_Dec d = some l → Rows.uptoBulk d < 2^30 → ∃ t : Dec, l = t.cells ∧ GDec (Rows.uptoBulk d) t := fun d l h hb => by
    obtain ⟨parts, ls, rfl, hf, rfl⟩ := conv_struct T_Dec_k h
    rcases parts with _ | ⟨d1, _ | ⟨d2, _ | ⟨d3, _ | ⟨d4, _ | ⟨d5, _ | ⟨d6, _ | ⟨d7, _ | _⟩⟩⟩⟩⟩⟩⟩ <;> rcases ls with _ | ⟨l1, _ | ⟨l2, _ | ⟨l3, _ | ⟨l4, _ | ⟨l5, _ | ⟨l6, _ | ⟨l7, _ | _⟩⟩⟩⟩⟩⟩⟩ <;> simp only [Fields, and_false] at hf
    obtain ⟨c1, c2, c3, c4, c5, c6, c7, -⟩ := hf
    simp only [Rows.uptoBulk, Rows.uptoBulkAll] at hb ⊢
    obtain ⟨k, rfl, rfl, w1⟩ := conv_int T_DecKind_k c1
    obtain ⟨a, rfl, rfl, w2⟩ := conv_int T_int_k c2
    obtain ⟨s, rfl, rfl⟩ := conv_str T_string_k c3
    obtain ⟨m, rfl, rfl, w4⟩ := conv_int T_int_k c4
    simp only [Rows.uptoBulk] at hb ⊢
    obtain ⟨L, b, k', rfl, hL, hk⟩ := slice_dec T_S_Con_k T_Con_agg GCons.nil GCons.cons (dec_con n) d5 l5 c5 (by omega)
    obtain ⟨L2, b2, k2', rfl, hL2, hk2⟩ := slice_dec T_S_Case_k T_Case_agg GCases.nil GCases.cons ih.case d6 l6 c6 (by omega)
    obtain ⟨L3, b3, k3', rfl, hL3, hk3⟩ := slice_dec T_S_Fun_k T_Fun_agg GFuns.nil GFuns.cons ih.fn d7 l7 c7 (by omega)
    refine ⟨.mk k a s m L b L2 b2 L3 b3, by rw [Dec.cells_mk]; rfl, by have := hL.1; have := hL2.1; have := hL3.1; simp only [Dec.size]; omega, fun i nd hn => ?_⟩
    simp only [nodesDec, List.mem_cons, List.mem_append] at hn
    rcases hn with rfl | hn | hn | hn
    · simp only [TNode.ok, Dec.name]; omega
    · exact hL2.2 nd hn
    · exact hL3.2 nd hn
    · exact hL.2 nd hn

theorem dec_case1 (n : Nat) (ih : DecAll H n) : ∀ (d : DataW H) l, conv C.ti (n + 1) T_Case d = some l → Rows.uptoBulk d < 2^30 → ∃ t : Case, l = t.cells ∧ GCase (Rows.uptoBulk d) t := fun d l h hb => by
    obtain ⟨parts, ls, rfl, hf, rfl⟩ := conv_struct T_Case_k h
    rcases parts with _ | ⟨d1, _ | ⟨d2, _ | _⟩⟩ <;> rcases ls with _ | ⟨l1, _ | ⟨l2, _ | _⟩⟩ <;> simp only [Fields, and_false] at hf
    obtain ⟨c1, c2, -⟩ := hf
    simp only [Rows.uptoBulk, Rows.uptoBulkAll] at hb ⊢
    obtain ⟨p, rfl, hp⟩ := dec_pat n d1 l1 c1 (by omega)
    obtain ⟨e, rfl, he⟩ := ih.exp d2 l2 c2 (by omega)
    refine ⟨.mk p e, by rw [Case.cells_mk]; simp, by have := hp.1; have := he.1; simp only [Case.size]; omega, fun nd hn => ?_⟩
    simp only [nodesCase, List.mem_append] at hn
    rcases hn with hn | hn
    · exact hp.2 nd hn
    · exact he.2 nd hn

theorem dec_fun1 (n : Nat) (ih : DecAll H n) : ∀ (d : DataW H) l, conv C.ti (n + 1) T_Fun d = some l → Rows.uptoBulk d < 2^30 → ∃ t : Fun, l = t.cells ∧ GFun (Rows.uptoBulk d) t := fun d l h hb => by
    obtain ⟨parts, ls, rfl, hf, rfl⟩ := conv_struct T_Fun_k h
    rcases parts with _ | ⟨d1, _ | ⟨d2, _ | ⟨d3, _ | _⟩⟩⟩ <;> rcases ls with _ | ⟨l1, _ | ⟨l2, _ | ⟨l3, _ | _⟩⟩⟩ <;> simp only [Fields, and_false] at hf
    obtain ⟨c1, c2, c3, -⟩ := hf
    simp only [Rows.uptoBulk, Rows.uptoBulkAll] at hb ⊢
    obtain ⟨s, rfl, rfl⟩ := conv_str T_string_k c1
    obtain ⟨a, rfl, rfl, w2⟩ := conv_int T_int_k c2
    simp only [Rows.uptoBulk] at hb ⊢
    obtain ⟨e, rfl, he⟩ := ih.case d3 l3 c3 (by omega)
    refine ⟨.mk s a e, by rw [Fun.cells_mk]; simp, by have := he.1; simp only [Fun.size]; omega, fun nd hn => ?_⟩
    simp only [nodesFun, List.mem_cons] at hn
    rcases hn with rfl | hn
    · simp only [TNode.ok, Fun.name]; omega
    · exact he.2 nd hn

theorem dec_all : ∀ n, DecAll H n
  | 0 => ⟨fun _ _ h => by simp [conv] at h, fun _ _ h => by simp [conv] at h, fun _ _ h => by simp [conv] at h, fun _ _ h => by simp [conv] at h⟩
  | 1 => ⟨fun d l h _ => by
      obtain ⟨parts, ls, rfl, hf, rfl⟩ := conv_struct T_Exp_k h
      rcases parts with _ | ⟨d1, _ | ⟨d2, _ | ⟨d3, _ | ⟨d4, _ | ⟨d5, _ | ⟨d6, _ | ⟨d7, _ | _⟩⟩⟩⟩⟩⟩⟩ <;> rcases ls with _ | ⟨l1, _ | ⟨l2, _ | ⟨l3, _ | ⟨l4, _ | ⟨l5, _ | ⟨l6, _ | ⟨l7, _ | _⟩⟩⟩⟩⟩⟩⟩ <;> simp only [Fields, and_false] at hf
      simp [conv] at hf, dec_case1 0 (dec_all 0), fun d l h _ => by
      obtain ⟨parts, ls, rfl, hf, rfl⟩ := conv_struct T_Dec_k h
      rcases parts with _ | ⟨d1, _ | ⟨d2, _ | ⟨d3, _ | ⟨d4, _ | ⟨d5, _ | ⟨d6, _ | ⟨d7, _ | _⟩⟩⟩⟩⟩⟩⟩ <;> rcases ls with _ | ⟨l1, _ | ⟨l2, _ | ⟨l3, _ | ⟨l4, _ | ⟨l5, _ | ⟨l6, _ | ⟨l7, _ | _⟩⟩⟩⟩⟩⟩⟩ <;> simp only [Fields, and_false] at hf
      simp [conv] at hf, dec_fun1 0 (dec_all 0)⟩
  | n + 2 => ⟨dec_exp2 n (dec_all n), dec_case1 (n + 1) (dec_all (n + 1)), dec_dec2 n (dec_all n), dec_fun1 (n + 1) (dec_all (n + 1))⟩

/-- a program, as it is read -/
theorem dec_decs (n : Nat) (d : DataW H) (l : List AV) (h : conv C.ti n T_S_Dec d = some l) (hb : Rows.uptoBulk d < 2^30) : ∃ L b, l = [encS b (L.map Dec.enc)] ∧ Dec.sizes L ≤ Rows.uptoBulk d ∧ ∀ i, ∀ nd ∈ nodesDecs i L, nd.ok := by
  cases n with
  | zero => simp [conv] at h
  | succ n =>
    obtain ⟨L, b, k, e, hL, hk⟩ := slice_dec T_S_Dec_k T_Dec_agg GDecs.nil GDecs.cons (dec_all n).dec d l h hb
    exact ⟨L, b, e, by have := hL.1; omega, hL.2⟩

end
end Go.Proofs.Ytemfpnlpnmglfaa
