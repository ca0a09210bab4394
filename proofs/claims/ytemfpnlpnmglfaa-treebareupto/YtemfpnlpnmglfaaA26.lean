/- Reckoning with the printed functions: what their operations come to. -/
import Derived.Test.YtemfpnlpnmglfaaA25
set_option linter.unusedVariables false
set_option linter.unusedSimpArgs false
namespace Go.Am
open Go

/-! ### binds -/

@[go_sem] theorem bind1_some (v : Slot) (k : Slot → Res) : bind1 (some v) k = k v := id rfl
@[go_sem] theorem bindL_some (v : List Slot) (k : List Slot → Res) : bindL (some v) k = k v := id rfl
@[go_sem] theorem bindA_some (v : List AV) (k : List AV → Res) : bindA (some v) k = k v := id rfl
@[go_sem] theorem bindB_some (v : Bool) (k : Bool → Res) : bindB (some v) k = k v := id rfl
@[go_sem] theorem bindS_some (v : St) (k : St → Res) : bindS (some v) k = k v := id rfl
@[go_sem] theorem bind2_some (v : Slot) (s : St) (k : Slot → St → Res) : bind2 (some (v, s)) k = k v s := id rfl
@[go_sem] theorem back_ret (v : Slot) (s : St) (k : Slot → St → Res) : back (some (.ret v, s)) k = k v s := id rfl
@[go_sem] theorem noPan_ret (v : Slot) (s : St) : noPan (some (.ret v, s)) = some (.ret v, s) := id rfl
@[congr] theorem bind1_congr {r r' : Option Slot} {k : Slot → Res} (h : r = r') : bind1 r k = bind1 r' k := by rw [h]
@[congr] theorem bindL_congr {r r' : Option (List Slot)} {k : List Slot → Res} (h : r = r') : bindL r k = bindL r' k := by rw [h]
@[congr] theorem bindA_congr {r r' : Option (List AV)} {k : List AV → Res} (h : r = r') : bindA r k = bindA r' k := by rw [h]
@[congr] theorem bindB_congr {r r' : Option Bool} {k : Bool → Res} (h : r = r') : bindB r k = bindB r' k := by rw [h]
@[congr] theorem bindS_congr {r r' : Option St} {k : St → Res} (h : r = r') : bindS r k = bindS r' k := by rw [h]
@[congr] theorem bind2_congr {r r' : Option (Slot × St)} {k : Slot → St → Res} (h : r = r') : bind2 r k = bind2 r' k := by rw [h]
@[congr] theorem back_congr {r r' : Res} {k : Slot → St → Res} (h : r = r') : back r k = back r' k := by rw [h]

/-- a fork -/
def ifR (b : Bool) (x y : Res) : Res := bif b then x else y
@[go_sem] theorem ifR_true (x y : Res) : ifR true x y = x := id rfl
@[go_sem] theorem ifR_false (x y : Res) : ifR false x y = y := id rfl
@[congr] theorem ifR_congr {b b' : Bool} {x y : Res} (h : b = b') : ifR b x y = ifR b' x y := by rw [h]
theorem ifR_pos {b : Bool} (h : b = true) (x y : Res) : ifR b x y = x := by rw [h]; rfl
theorem ifR_neg {b : Bool} (h : b = false) (x y : Res) : ifR b x y = y := by rw [h]; rfl
@[go_sem] theorem ifR_ret (b : Bool) (x y : AV) (s : St) : ifR b (some (.ret (.val x), s)) (some (.ret (.val y), s)) = some (.ret (.val (bif b then x else y)), s) := by cases b <;> rfl
@[go_sem] theorem bif_int (b : Bool) (k : IntKind) (x y : Int) : (bif b then AV.int k x else AV.int k y) = AV.int k (bif b then x else y) := by cases b <;> rfl
@[go_sem] theorem bif_ab (b x y : Bool) : (bif b then AV.bool x else AV.bool y) = AV.bool (bif b then x else y) := by cases b <;> rfl
@[go_sem] theorem bif_str (b : Bool) (x y : List UInt8) : (bif b then AV.str x else AV.str y) = AV.str (bif b then x else y) := by cases b <;> rfl
@[go_sem] theorem condS_bool (b : Bool) (x y : Res) : condS (.val (.bool b)) x y = ifR b x y := id rfl
@[congr] theorem condS_congr {b b' : Slot} {x y : Res} (h : b = b') : condS b x y = condS b' x y := by rw [h]
@[congr] theorem endX_congr {loc loc' : Nat} {s s' : St} {kn kr : St → Res} {ke : Nat → St → Res} (h : loc = loc') (g : s = s') : endX loc s kn kr ke = endX loc' s' kn kr ke := by rw [h, g]
@[congr] theorem rangeC_congr {C : Cfg} {cl : CallFn} {h h' : Slot} {loc loc' : Nat} {s s' : St} {k : St → Res} (e1 : h = h') (e2 : loc = loc') (e3 : s = s') : rangeC C cl h loc s k = rangeC C cl h' loc' s' k := by rw [e1, e2, e3]

/-! ### slots -/

@[go_sem] theorem av_val (v : AV) : (Slot.val v).av = some v := id rfl
@[go_sem] theorem av_own (k : Nat) (e : TypeId) (l : List AV) : (Slot.own k e l).av = some (.sl l) := id rfl
@[go_sem] theorem av_full (l : List AV) : (Slot.full l).av = some (.sl l) := id rfl
@[go_sem] theorem list?_nils : (Slot.val .nils).list? = some [] := id rfl
@[go_sem] theorem list?_sl (l : List AV) : (Slot.val (.sl l)).list? = some l := id rfl
@[go_sem] theorem list?_own (k : Nat) (e : TypeId) (l : List AV) : (Slot.own k e l).list? = some l := id rfl
@[go_sem] theorem list?_full (l : List AV) : (Slot.full l).list? = some l := id rfl
@[go_sem] theorem avs_nil : avs [] = some [] := id rfl
@[go_sem] theorem avs_val (v : AV) (r : List Slot) : avs (.val v :: r) = (avs r).map (v :: ·) := by
  simp only [avs, av_val]; cases avs r <;> rfl
@[go_sem] theorem avs_full (l : List AV) (r : List Slot) : avs (.full l :: r) = (avs r).map (.sl l :: ·) := by
  simp only [avs, av_full]; cases avs r <;> rfl
@[go_sem] theorem avs_own (k : Nat) (e : TypeId) (l : List AV) (r : List Slot) : avs (.own k e l :: r) = (avs r).map (.sl l :: ·) := by
  simp only [avs, av_own]; cases avs r <;> rfl
theorem avs_cons {x : Slot} {v : AV} (h : x.av = some v) (r : List Slot) : avs (x :: r) = (avs r).map (v :: ·) := by
  simp only [avs, h]; cases avs r <;> rfl
@[go_sem] theorem avs_map_val (l : List AV) : avs (l.map .val) = some l := by
  induction l with
  | nil => rfl
  | cons a l ih => simp [go_sem, ih]

/-- a slice's value: nil, or not -/
def encS (nl : Bool) (l : List AV) : AV := bif nl && l.isEmpty then .nils else .sl l
@[go_sem] theorem list?_encS (nl : Bool) (l : List AV) : (Slot.val (encS nl l)).list? = some l := by
  cases nl <;> cases l <;> rfl
@[go_sem] theorem encS_cons (nl : Bool) (a : AV) (l : List AV) : encS nl (a :: l) = .sl (a :: l) := by cases nl <;> rfl
theorem encS_false (l : List AV) : encS false l = .sl l := rfl
@[go_sem] theorem encS_nil : encS true [] = .nils := id rfl
@[go_sem] theorem cellOk_encS (nl : Bool) (l : List AV) : (Slot.val (encS nl l)).cellOk = true := by cases nl <;> cases l <;> rfl
@[go_sem] theorem cells_encS (nl : Bool) (l : List AV) : (encS nl l).cells = [encS nl l] := by cases nl <;> cases l <;> rfl
@[go_sem] theorem isTup_encS (nl : Bool) (l : List AV) : (encS nl l).isTup = false := by cases nl <;> cases l <;> rfl
@[go_sem] theorem cellOk_bool (b : Bool) : (Slot.val (.bool b)).cellOk = true := id rfl
@[go_sem] theorem cellOk_int (k : IntKind) (n : Int) : (Slot.val (.int k n)).cellOk = true := id rfl
@[go_sem] theorem cellOk_str (l : List UInt8) : (Slot.val (.str l)).cellOk = true := id rfl
@[go_sem] theorem cellOk_cp (l : List AV) : (Slot.val (.cp l)).cellOk = true := id rfl
@[go_sem] theorem cellOk_vp (a b : Nat) : (Slot.val (.vp a b)).cellOk = true := id rfl
@[go_sem] theorem cellOk_fn (f : FuncId) (l : List AV) : (Slot.val (.fn f l)).cellOk = true := id rfl
@[go_sem] theorem cellOk_yld (l : Nat) : (Slot.val (.yld l)).cellOk = true := id rfl
@[go_sem] theorem cellOk_nilp : (Slot.val .nilp).cellOk = true := id rfl
@[go_sem] theorem cellOk_nilf : (Slot.val .nilf).cellOk = true := id rfl
@[go_sem] theorem cellOk_nils : (Slot.val .nils).cellOk = true := id rfl
@[go_sem] theorem cellOk_mp (l : Nat) : (Slot.val (.mp l)).cellOk = true := id rfl
@[go_sem] theorem cellOk_own (k : Nat) (e : TypeId) (l : List AV) : (Slot.own k e l).cellOk = true := id rfl
@[go_sem] theorem cellOk_full (l : List AV) : (Slot.full l).cellOk = true := id rfl
@[go_sem] theorem cells_agg (l : List AV) : (AV.agg l).cells = l := id rfl
@[go_sem] theorem cells_bool (b : Bool) : (AV.bool b).cells = [.bool b] := id rfl
@[go_sem] theorem cells_int (k : IntKind) (n : Int) : (AV.int k n).cells = [.int k n] := id rfl
@[go_sem] theorem cells_str (l : List UInt8) : (AV.str l).cells = [.str l] := id rfl
@[go_sem] theorem cells_cp (l : List AV) : (AV.cp l).cells = [.cp l] := id rfl
@[go_sem] theorem cells_sl (l : List AV) : (AV.sl l).cells = [.sl l] := id rfl
@[go_sem] theorem cells_nils : AV.nils.cells = [.nils] := id rfl
@[go_sem] theorem cells_nilp : AV.nilp.cells = [.nilp] := id rfl
@[go_sem] theorem cells_fn (f : FuncId) (l : List AV) : (AV.fn f l).cells = [.fn f l] := id rfl
@[go_sem] theorem cells_yld (l : Nat) : (AV.yld l).cells = [.yld l] := id rfl
@[go_sem] theorem isTup_agg (l : List AV) : (AV.agg l).isTup = false := id rfl
@[go_sem] theorem isTup_bool (b : Bool) : (AV.bool b).isTup = false := id rfl
@[go_sem] theorem isTup_int (k : IntKind) (n : Int) : (AV.int k n).isTup = false := id rfl
@[go_sem] theorem isTup_str (l : List UInt8) : (AV.str l).isTup = false := id rfl
@[go_sem] theorem isTup_cp (l : List AV) : (AV.cp l).isTup = false := id rfl
@[go_sem] theorem isTup_sl (l : List AV) : (AV.sl l).isTup = false := id rfl
@[go_sem] theorem isTup_nils : AV.nils.isTup = false := id rfl
@[go_sem] theorem isTup_nilp : AV.nilp.isTup = false := id rfl
@[go_sem] theorem isTup_fn (f : FuncId) (l : List AV) : (AV.fn f l).isTup = false := id rfl
@[go_sem] theorem isTup_yld (l : Nat) : (AV.yld l).isTup = false := id rfl

/-! ### guards -/

@[go_sem] theorem isB_t (b : Bool) : Slot.isB (.val (.bool b)) true = some b := by cases b <;> rfl
@[go_sem] theorem isB_f (b : Bool) : Slot.isB (.val (.bool b)) false = some (!b) := by cases b <;> rfl
@[go_sem] theorem isB_no (w : Bool) : Slot.isB .no w = some false := id rfl
@[go_sem] theorem gd_true (r : Option Slot) : gd true r = r := id rfl
@[go_sem] theorem gd_false (r : Option Slot) : gd false r = some .no := id rfl
@[go_sem] theorem gdV_true (r : Slot) : gdV true r = r := id rfl
@[go_sem] theorem gdV_false (r : Slot) : gdV false r = .no := id rfl
@[go_sem] theorem gd_some (b : Bool) (v : Slot) : gd b (some v) = some (gdV b v) := by cases b <;> rfl
@[congr] theorem gd_congr {b b' : Bool} {r r' : Option Slot} (h : b = b') (g : b' = true → r = r') : gd b r = gd b' r' := by
  subst h; cases b
  · rfl
  · rw [g rfl]
@[go_sem] theorem gdV_gdV (a b : Bool) (v : Slot) : gdV a (gdV b v) = gdV (a && b) v := by cases a <;> cases b <;> rfl
@[go_sem] theorem isB_gdV_t (a b : Bool) : Slot.isB (gdV a (.val (.bool b))) true = some (a && b) := by cases a <;> cases b <;> rfl
@[go_sem] theorem isB_gdV_f (a b : Bool) : Slot.isB (gdV a (.val (.bool b))) false = some (a && !b) := by cases a <;> cases b <;> rfl
@[go_sem] theorem and_l (a b : Bool) : (a && b && a) = (a && b) := by cases a <;> cases b <;> rfl
@[go_sem] theorem and_r (a b : Bool) : (a && b && b) = (a && b) := by cases a <;> cases b <;> rfl
@[go_sem] theorem and_l2 (a b c : Bool) : (a && b && c && a) = (a && b && c) := by cases a <;> cases b <;> cases c <;> rfl
@[go_sem] theorem and_lr2 (a b c : Bool) : (a && b && c && (a && b)) = (a && b && c) := by cases a <;> cases b <;> cases c <;> rfl
@[go_sem] theorem and_lr (a b : Bool) : (a && (a && b)) = (a && b) := by cases a <;> cases b <;> rfl
section
variable (b c : Bool) (t u : TI) (op : BinOp) (uo : UnOp) (x y z : Slot) (n : Nat) (r : Bool) (s : St)
@[go_sem] theorem gd_bin_l : gd b (binS t op (gdV b x) y) = gd b (binS t op x y) := by cases b <;> rfl
@[go_sem] theorem gd_bin_r : gd b (binS t op x (gdV b y)) = gd b (binS t op x y) := by cases b <;> rfl
@[go_sem] theorem gd_bin_lc : gd b (binS t op (gdV (b && c) x) y) = gd b (binS t op (gdV c x) y) := by cases b <;> rfl
@[go_sem] theorem gd_un : gd b (unS uo (gdV b x)) = gd b (unS uo x) := by cases b <;> rfl
@[go_sem] theorem gd_conv : gd b (convS t u (gdV b x)) = gd b (convS t u x) := by cases b <;> rfl
@[go_sem] theorem gd_len : gd b (lenS t (gdV b x)) = gd b (lenS t x) := by cases b <;> rfl
@[go_sem] theorem gd_map_list (g : List AV → Slot) : gd b (Option.map g (gdV b x).list?) = gd b (Option.map g x.list?) := by cases b <;> rfl
@[go_sem] theorem gd_index_l : gd b (indexS t u (gdV b x) y) = gd b (indexS t u x y) := by cases b <;> rfl
@[go_sem] theorem gd_index_r : gd b (indexS t u x (gdV b y)) = gd b (indexS t u x y) := by cases b <;> rfl
@[go_sem] theorem gd_ix_l : gd b (ixS n (gdV b x) y) = gd b (ixS n x y) := by cases b <;> rfl
@[go_sem] theorem gd_ix_r : gd b (ixS n x (gdV b y)) = gd b (ixS n x y) := by cases b <;> rfl
@[go_sem] theorem gd_ld : gd b (ldV t r s (gdV b x)) = gd b (ldV t r s x) := by cases b <;> rfl
@[go_sem] theorem gd_fa : gd b (faV n (gdV b x)) = gd b (faV n x) := by cases b <;> rfl
@[go_sem] theorem gd_nil : gd b (nilCheckV (gdV b x)) = gd b (nilCheckV x) := by cases b <;> rfl
@[go_sem] theorem gd_field (o : Nat) : gd b (fieldS t u o (gdV b x)) = gd b (fieldS t u o x) := by cases b <;> rfl
@[go_sem] theorem gd_pick_c : gd b (pickS (gdV b x) y z) = gd b (pickS x y z) := by cases b <;> rfl
@[go_sem] theorem gd_pick_l : gd b (pickS x (gdV b y) z) = gd b (pickS x y z) := by cases b <;> rfl
@[go_sem] theorem gd_pick_r : gd b (pickS x y (gdV b z)) = gd b (pickS x y z) := by cases b <;> rfl
@[go_sem] theorem gd_bif (p q : Option Slot) : gd b (bif b then p else q) = gd b p := by cases b <;> rfl
@[go_sem] theorem gdV_bif_not : gdV b (bif c then x else gdV (b && !c) y) = gdV b (bif c then x else y) := by cases b <;> cases c <;> rfl
@[go_sem] theorem gdV_bif_and : gdV b (bif c then gdV (b && c) x else y) = gdV b (bif c then x else y) := by cases b <;> cases c <;> rfl
@[go_sem] theorem bif_ct (d : Bool) : (bif c then Slot.val (.bool true) else .val (.bool d)) = .val (.bool (c || d)) := by cases c <;> rfl
@[go_sem] theorem bif_cf (d : Bool) : (bif c then Slot.val (.bool d) else .val (.bool false)) = .val (.bool (c && d)) := by cases c <;> rfl
end
@[go_sem] theorem pickS_val (c : Bool) (a b : Slot) : pickS (.val (.bool c)) a b = some (bif c then a else b) := id rfl
@[go_sem] theorem bif_gdV_and (c : Bool) (a b : Bool) (v w : Slot) : (bif c then gdV (c && a) v else w) = bif c then gdV a v else w := by cases c <;> rfl
@[go_sem] theorem bif_gdV_self (c : Bool) (v w : Slot) : (bif c then gdV c v else w) = bif c then v else w := by cases c <;> rfl
@[go_sem] theorem bif_gdV_not (c : Bool) (v w : Slot) : (bif c then v else gdV (!c) w) = bif c then v else w := by cases c <;> rfl
theorem bif_boolS (c a b : Bool) : (bif c then Slot.val (.bool a) else .val (.bool b)) = .val (.bool (bif c then a else b)) := by cases c <;> rfl
@[go_sem] theorem chkP_true (w : Bool) (k : Unit → Res) : chkP true w k = k () := id rfl

@[go_sem] theorem chkP_self (w : Bool) (k : Unit → Res) : chkP w w k = k () := by cases w <;> rfl

/-! ### numbers and texts -/

def maxI (a b : Int) : Int := if b > a then b else a


theorem beqd (x y : List UInt8) : (x == y) = decide (x = y) := by rw [Bool.eq_iff_iff]; simp

section
variable (t : TI) (k : IntKind) (a b : Int) (x y : List UInt8)
@[go_sem] theorem binS_lss : binS t .lss (.val (.int k a)) (.val (.int k b)) = some (.val (.bool (decide (a < b)))) := by simp [go_sem, binS]
@[go_sem] theorem binS_leq : binS t .leq (.val (.int k a)) (.val (.int k b)) = some (.val (.bool (decide (a ≤ b)))) := by simp [go_sem, binS]
@[go_sem] theorem binS_gtr : binS t .gtr (.val (.int k a)) (.val (.int k b)) = some (.val (.bool (decide (a > b)))) := by simp [go_sem, binS]
@[go_sem] theorem binS_geq : binS t .geq (.val (.int k a)) (.val (.int k b)) = some (.val (.bool (decide (a ≥ b)))) := by simp [go_sem, binS]
@[go_sem] theorem binS_eql : binS t .eql (.val (.int k a)) (.val (.int k b)) = some (.val (.bool (decide (a = b)))) := by simp [go_sem, binS]; rfl
@[go_sem] theorem binS_neq : binS t .neq (.val (.int k a)) (.val (.int k b)) = some (.val (.bool (!decide (a = b)))) := by simp [go_sem, binS]; rfl
@[go_sem] theorem binS_add : binS t .add (.val (.int k a)) (.val (.int k b)) = some (.val (.int k (k.wrap (a + b)))) := by simp [go_sem, binS]
@[go_sem] theorem binS_sub : binS t .sub (.val (.int k a)) (.val (.int k b)) = some (.val (.int k (k.wrap (a - b)))) := by simp [go_sem, binS]
@[go_sem] theorem binS_seql : binS t .eql (.val (.str x)) (.val (.str y)) = some (.val (.bool (decide (x = y)))) := by simp only [binS, av_val, beqd]
@[go_sem] theorem binS_sneq : binS t .neq (.val (.str x)) (.val (.str y)) = some (.val (.bool (!decide (x = y)))) := by simp only [binS, av_val, beqd]
@[go_sem] theorem binS_rem (h : b ≠ 0) : binS t .rem (.val (.int k a)) (.val (.int k b)) = some (.val (.int k (a.tmod b))) := by simp [go_sem, binS, h]
@[go_sem] theorem binS_quo (h : b ≠ 0) : binS t .quo (.val (.int k a)) (.val (.int k b)) = some (.val (.int k (k.wrap (a.tdiv b)))) := by simp [go_sem, binS, h]
@[go_sem] theorem binS_mul : binS t .mul (.val (.int k a)) (.val (.int k b)) = some (.val (.int k (k.wrap (a * b)))) := by simp [go_sem, binS]
theorem binS_sadd (h : x.length + y.length ≤ 9223372036854775807) : binS t .add (.val (.str x)) (.val (.str y)) = some (.val (.str (x ++ y))) := by simp only [binS, av_val]; rw [if_pos h]
@[go_sem] theorem unS_not (b : Bool) : unS .not (.val (.bool b)) = some (.val (.bool !b)) := id rfl
theorem unS_neg : unS .neg (.val (.int k a)) = some (.val (.int k (k.wrap (0 - a)))) := rfl
@[go_sem] theorem max2_int : max2 (.val (.int k a)) (.val (.int k b)) = some (.val (.int k (maxI a b))) := id rfl
@[go_sem] theorem max3_int (c : Int) : max3 (.val (.int k a)) (.val (.int k b)) (.val (.int k c)) = some (.val (.int k (maxI (maxI a b) c))) := id rfl
@[go_sem] theorem binS_beql (p q : Bool) (h : t.k = .bool) : binS t .eql (.val (.bool p)) (.val (.bool q)) = some (.val (.bool (p == q))) := by simp [go_sem, binS, eqS, h]
@[go_sem] theorem binS_bneq (p q : Bool) (h : t.k = .bool) : binS t .neq (.val (.bool p)) (.val (.bool q)) = some (.val (.bool !(p == q))) := by simp [go_sem, binS, eqS, h]
end

def TKptr : TK → Bool | .ptr => true | _ => false
@[go_sem] theorem TKptr_ptr : TKptr .ptr = true := id rfl
section
variable {t : TI} (l : List AV)
theorem TKptr_eq {k : TK} (h : TKptr k = true) : k = .ptr := by cases k <;> first | rfl | cases h
@[go_sem] theorem neq_cp (h : TKptr t.k = true) : binS t .neq (.val (.cp l)) (.val .nilp) = some (.val (.bool true)) := by simp [go_sem, binS, eqS, TKptr_eq h]
@[go_sem] theorem neq_nilp (h : TKptr t.k = true) : binS t .neq (.val .nilp) (.val .nilp) = some (.val (.bool false)) := by simp [go_sem, binS, eqS, TKptr_eq h]
@[go_sem] theorem eql_cp (h : TKptr t.k = true) : binS t .eql (.val (.cp l)) (.val .nilp) = some (.val (.bool false)) := by simp [go_sem, binS, eqS, TKptr_eq h]
@[go_sem] theorem eql_nilp (h : TKptr t.k = true) : binS t .eql (.val .nilp) (.val .nilp) = some (.val (.bool true)) := by simp [go_sem, binS, eqS, TKptr_eq h]
end

theorem wrap64 {n : Int} (h : -9223372036854775808 ≤ n) (g : n ≤ 9223372036854775807) : IntKind.i64.wrap n = n := by
  unfold IntKind.wrap
  simp [go_sem, IntKind.bits, IntKind.signed]
  omega

theorem indexS_str {t et : TI} (h : t.k = .str) {l : List UInt8} {n : Nat} {b : UInt8} (hv : l[n]? = some b) : indexS t et (.val (.str l)) (.val (.int .i64 (n : Int))) = some (.val (.int .u8 b.toNat)) := by
  unfold indexS
  simp only [h]
  rw [if_pos (by omega)]
  simp [go_sem, hv]
@[go_sem] theorem indexS_zero {t et : TI} (h : t.k = .str) {l : List UInt8} (hl : l ≠ []) : indexS t et (.val (.str l)) (.val (.int .i64 0)) = some (.val (.int .u8 (l.headD 0).toNat)) := by
  cases l with
  | nil => exact absurd rfl hl
  | cons b l => exact indexS_str (n := 0) h rfl

/-! ### structs, slices -/

@[go_sem] theorem lenS_str {t : TI} (h : t.k = .str) (l : List UInt8) : lenS t (.val (.str l)) = some (.val (.int .i64 l.length)) := by simp [go_sem, lenS, h]
def TKslice : TK → Bool | .slice _ => true | _ => false
@[go_sem] theorem TKslice_sl (e : TypeId) : TKslice (.slice e) = true := id rfl
@[go_sem] theorem lenS_slice {t : TI} (h : TKslice t.k = true) (x : Slot) : lenS t x = x.list?.map fun l => .val (.int .i64 l.length) := by
  unfold lenS
  cases hk : t.k <;> rw [hk] at h <;> first | cases h | skip
  simp only []; cases x.list? <;> rfl

@[go_sem] theorem boxCells_agg {t : TI} (h : t.isAgg = true) {l : List AV} (g : l.length = t.size) : boxCells t (.val (.agg l)) = some (l.map .val) := by unfold boxCells; rw [h]; simp only [cond_true]; rw [if_pos g]
theorem isGood_of {t : TI} (h : t.k ≠ .bad) : t.isGood = true := by unfold TI.isGood; split <;> simp_all
@[go_sem] theorem boxCells_one {t : TI} (h : t.isAgg = false) (g : t.isGood = true) {x : Slot} (hx : x.cellOk = true) : boxCells t x = some [x] := by unfold boxCells; rw [h, hx, g]; rfl
def aggO (t : TI) (o : Option (List AV)) : Option Slot := match o with | some l => if l.length = t.size then some (.val (.agg l)) else none | none => none
@[go_sem] theorem aggO_some {t : TI} {l : List AV} (h : l.length = t.size) : aggO t (some l) = some (.val (.agg l)) := by simp only [aggO]; rw [if_pos h]
@[go_sem] theorem ofSlots_agg {t : TI} (h : t.isAgg = true) (cs : List Slot) : ofSlots t cs = aggO t (avs cs) := by unfold ofSlots; rw [h]; rfl
@[go_sem] theorem ofSlots_one {t : TI} (h : t.isAgg = false) (x : Slot) : ofSlots t [x] = some x := by simp [go_sem, ofSlots, h]
@[go_sem] theorem ofCells_agg {t : TI} (h : t.isAgg = true) {cs : List AV} (g : cs.length = t.size) : ofCells t cs = some (.agg cs) := by unfold ofCells; rw [h]; simp only [cond_true]; rw [if_pos g]
@[go_sem] theorem ofCells_one {t : TI} (h : t.isAgg = false) (x : AV) : ofCells t [x] = some x := by simp [go_sem, ofCells, h]
@[go_sem] theorem ldV_cp (t : TI) (r : Bool) (s : St) (l : List AV) : ldV t r s (.val (.cp l)) = (ofCells t (l.take t.size)).map .val := by
  simp only [ldV]; cases ofCells t (l.take t.size) <;> rfl

theorem map_mid {α β : Type} {f : α → β} (pre : List α) (x : α) (suf : List α) : ((pre ++ x :: suf).map f)[pre.length]? = some (f x) := by simp
attribute [go_sem] List.take_of_length_le List.map_cons List.map_nil List.length_cons List.length_nil List.length_map List.length_append List.cons_append List.nil_append List.append_assoc List.append_nil List.take_succ_cons List.take_zero List.drop_succ_cons List.drop_zero List.take_nil List.drop_nil List.map_append List.map_map Option.map_some Option.map_none Bool.and_self Bool.and_true Bool.true_and Bool.and_false Bool.false_and Bool.or_false Bool.or_true Bool.true_or Bool.false_or Bool.not_true Bool.not_false cond_true cond_false if_true if_false reduceCtorEq decide_true decide_false
theorem ofSlots_map {t : TI} (h : t.isAgg = true) {l : List AV} (g : l.length = t.size) : ofSlots t (l.map .val) = some (.val (.agg l)) := by
  unfold ofSlots; rw [h]; simp [go_sem, g]
@[go_sem] theorem putAt_map {z l : List AV} (h : z.length = l.length) : putAt (z.map .val) 0 (l.map .val) = some (l.map .val) := by
  unfold putAt; simp [go_sem, h]

@[go_sem] theorem drop_app {α : Type} {n : Nat} {l m : List α} (h : l.length ≤ n) : (l ++ m).drop n = m.drop (n - l.length) := by
  rw [List.drop_append, List.drop_of_length_le h]; rfl
@[go_sem] theorem take_app {α : Type} {n : Nat} {l m : List α} (h : n ≤ l.length) : (l ++ m).take n = l.take n := by
  rw [List.take_append]; simp [go_sem, Nat.sub_eq_zero_of_le h]
@[go_sem] theorem putAt_ok {l c : List Slot} {off : Nat} (h : off + c.length ≤ l.length) : putAt l off c = some (l.take off ++ (c ++ l.drop (off + c.length))) := by unfold putAt; rw [if_pos h]
theorem putAt_all {l c : List Slot} (h : l.length = c.length) : putAt l 0 c = some c := by
  unfold putAt
  rw [if_pos (by omega)]
  simp [go_sem, h]

theorem ixS_get {sz : Nat} {x : Slot} {k : IntKind} {n : Nat} {l : List AV} {v : AV} (h : x.list? = some l) (hv : l[n]? = some v) (hs : v.cells.length = sz) (h0 : 0 < sz) : ixS sz x (.val (.int k (n : Int))) = some (.val (.cp v.cells)) := by
  have hlt := (List.getElem?_eq_some_iff.1 hv).1
  unfold ixS
  rw [h]
  simp only []
  rw [if_pos ⟨by omega, by omega⟩]
  simp [go_sem, hv, hs, h0]

@[go_sem] theorem faV_cp (off : Nat) (l : List AV) : faV off (.val (.cp l)) = some (.val (.cp (l.drop off))) := id rfl
@[go_sem] theorem faV_vp (off a o : Nat) : faV off (.val (.vp a o)) = some (.val (.vp a (o + off))) := id rfl
@[go_sem] theorem nilCheck_cp (l : List AV) : nilCheckV (.val (.cp l)) = some (.val (.cp l)) := id rfl
@[go_sem] theorem nilCheck_vp (a b : Nat) : nilCheckV (.val (.vp a b)) = some (.val (.vp a b)) := id rfl

def fullO (o : Option (List AV)) : Option Slot := match o with | some l => some (.full l) | none => none
@[go_sem] theorem fullO_some (l : List AV) : fullO (some l) = some (.full l) := id rfl
@[go_sem] theorem bslF_eq (sz : Nat) (xs : List Slot) : bslF sz xs = fullO (bslS sz xs) := by unfold bslF; cases bslS sz xs <;> rfl
@[go_sem] theorem bslS_nil (sz : Nat) : bslS sz [] = some [] := id rfl
@[go_sem] theorem bslS_val {sz : Nat} {v : AV} (h : v.cells.length = sz) (g : v.isTup = false) (r : List Slot) : bslS sz (.val v :: r) = (bslS sz r).map (v :: ·) := by
  simp only [bslS, av_val]; rw [if_pos ⟨h, g⟩]; cases bslS sz r <;> rfl
theorem bslS_cons {sz : Nat} {x : Slot} {v : AV} (hx : x.av = some v) (h : v.cells.length = sz) (g : v.isTup = false) (r : List Slot) : bslS sz (x :: r) = (bslS sz r).map (v :: ·) := by
  simp only [bslS, hx]; rw [if_pos ⟨h, g⟩]; cases bslS sz r <;> rfl
/-- the parts of a struct -/
@[go_sem] theorem fillS_nil (l : List AV) : fillS l [] = some l := id rfl
@[go_sem] theorem fillS_val {l : List AV} {off sz : Nat} {v : AV} (h : v.cells.length = sz) (g : v.isTup = false) (k : off + v.cells.length ≤ l.length) (r : List (Nat × Nat × Slot)) : fillS l ((off, sz, .val v) :: r) = fillS (l.take off ++ (v.cells ++ l.drop (off + v.cells.length))) r := by
  simp only [fillS, av_val]; rw [if_pos ⟨h, g⟩]; simp only [setAt]; rw [if_pos k]
theorem fillS_cons {l : List AV} {off sz : Nat} {x : Slot} {v : AV} (hx : x.av = some v) (h : v.cells.length = sz) (g : v.isTup = false) (k : off + v.cells.length ≤ l.length) (r : List (Nat × Nat × Slot)) : fillS l ((off, sz, x) :: r) = fillS (l.take off ++ (v.cells ++ l.drop (off + v.cells.length))) r := by
  simp only [fillS, hx]; rw [if_pos ⟨h, g⟩]; simp only [setAt]; rw [if_pos k]
def bldO (o : Option (List AV)) : Option Slot := match o with | some l => some (.val (.agg l)) | none => none
@[go_sem] theorem bldO_some (l : List AV) : bldO (some l) = some (.val (.agg l)) := id rfl
@[go_sem] theorem buildS_eq (z : List AV) (ps : List (Nat × Nat × Slot)) : buildS z ps = bldO (fillS z ps) := by unfold buildS; cases fillS z ps <;> rfl
@[go_sem] theorem avsO_nil : avsO [] = some [] := id rfl
@[go_sem] theorem avsO_val (v : AV) (r : List (Option Slot)) : avsO (some (.val v) :: r) = (avsO r).map (v :: ·) := by
  simp only [avsO, av_val]; cases avsO r <;> rfl
theorem avsO_cons {x : Slot} {v : AV} (h : x.av = some v) (r : List (Option Slot)) : avsO (some x :: r) = (avsO r).map (v :: ·) := by
  simp only [avsO, h]; cases avsO r <;> rfl
def tupO (o : Option (List AV)) : Option Slot := match o with | some l => some (.val (.tup l)) | none => none
@[go_sem] theorem tupO_some (l : List AV) : tupO (some l) = some (.val (.tup l)) := id rfl
@[go_sem] theorem tupS_eq (rs : List (Option Slot)) : tupS rs = tupO (avsO rs) := id rfl
theorem extractS_tup {l : List AV} {i : Nat} {v : AV} (h : l[i]? = some v) : extractS (.val (.tup l)) i = some (.val v) := by simp only [extractS, h]
@[go_sem] theorem ext_tup0 (a : AV) (l : List AV) : extractS (.val (.tup (a :: l))) 0 = some (.val a) := id rfl
@[go_sem] theorem ext_tup1 (a b : AV) (l : List AV) : extractS (.val (.tup (a :: b :: l))) 1 = some (.val b) := id rfl
@[go_sem] theorem ext_tup2 (a b c : AV) (l : List AV) : extractS (.val (.tup (a :: b :: c :: l))) 2 = some (.val c) := id rfl

/-! ### calls -/

theorem cal_fn (cl : CallFn) (f : FuncId) (caps : List AV) (args : List Slot) (s : St) : cal cl true (tgtV (.val (.fn f caps)) args) s = match avs args with | some l => cl (.f f) (l ++ caps) s | none => none := by
  unfold tgtV
  cases avs args <;> rfl
@[go_sem] theorem cal_yld (cl : CallFn) (loc : Nat) (args : List Slot) (s : St) : cal cl true (tgtV (.val (.yld loc)) args) s = match avs args with | some l => cl (.y loc) l s | none => none := by
  unfold tgtV
  cases avs args <;> rfl
/-- a guarded call -/
def gdR (b : Bool) (r : Res) (s : St) : Res := bif b then r else some (.ret .no, s)
@[go_sem] theorem gdR_true (r : Res) (s : St) : gdR true r s = r := id rfl
@[go_sem] theorem gdR_false (r : Res) (s : St) : gdR false r s = some (.ret .no, s) := id rfl
@[go_sem] theorem gdR_some (b : Bool) (v : Slot) (s : St) : gdR b (some (.ret v, s)) s = some (.ret (gdV b v), s) := by cases b <;> rfl
@[congr] theorem gdR_congr {b b' : Bool} {r r' : Res} {s : St} (h : b = b') (g : b' = true → r = r') : gdR b r s = gdR b' r' s := by
  subst h; cases b
  · rfl
  · rw [g rfl]
def argC (cl : CallFn) (f : FuncId) (caps : List AV) (o : Option (List AV)) (s : St) : Res := match o with | some l => cl (.f f) (l ++ caps) s | none => none
@[go_sem] theorem argC_some (cl : CallFn) (f : FuncId) (caps l : List AV) (s : St) : argC cl f caps (some l) s = cl (.f f) (l ++ caps) s := id rfl
@[go_sem] theorem gdR_1 (cl : CallFn) (f : FuncId) (caps : List AV) (b : Bool) (x : Slot) (r : List Slot) (s : St) : gdR b (argC cl f caps (avs (gdV b x :: r)) s) s = gdR b (argC cl f caps (avs (x :: r)) s) s := by cases b <;> rfl
@[go_sem] theorem gdR_2 (cl : CallFn) (f : FuncId) (caps : List AV) (b : Bool) (x : Slot) (r : List Slot) (g : List AV → List AV) (s : St) : gdR b (argC cl f caps ((avs (gdV b x :: r)).map g) s) s = gdR b (argC cl f caps ((avs (x :: r)).map g) s) s := by cases b <;> rfl
@[go_sem] theorem gdR_3 (cl : CallFn) (f : FuncId) (caps : List AV) (b : Bool) (x : Slot) (r : List Slot) (g h : List AV → List AV) (s : St) : gdR b (argC cl f caps (((avs (gdV b x :: r)).map g).map h) s) s = gdR b (argC cl f caps (((avs (x :: r)).map g).map h) s) s := by cases b <;> rfl
@[go_sem] theorem cal_gd (cl : CallFn) (w : Bool) (f : FuncId) (caps : List AV) (args : List Slot) (s : St) : cal cl w (tgtV (.val (.fn f caps)) args) s = gdR w (argC cl f caps (avs args) s) s := by
  cases w
  · rfl
  · rw [cal_fn]; rfl
@[go_sem] theorem cal_false (cl : CallFn) (t : Option (Callee × List AV)) (s : St) : cal cl false t s = some (.ret .no, s) := id rfl

/-! ### states -/

/-- a state that has grown: all that was is as it was -/
def Grew (s s' : St) : Prop := (∃ a, s'.locs = s.locs ++ a) ∧ ∃ b, s'.toks = s.toks ++ b

theorem Grew.refl (s : St) : Grew s s := ⟨⟨[], by simp⟩, ⟨[], by simp⟩⟩
theorem Grew.trans {a b c : St} (h : Grew a b) (k : Grew b c) : Grew a c := by
  obtain ⟨⟨x, hx⟩, ⟨y, hy⟩⟩ := h
  obtain ⟨⟨u, hu⟩, ⟨v, hv⟩⟩ := k
  exact ⟨⟨x ++ u, by rw [hu, hx, List.append_assoc]⟩, ⟨y ++ v, by rw [hv, hy, List.append_assoc]⟩⟩
theorem Grew.tok {s s' : St} (h : Grew s s') {k n : Nat} (hk : s.toks[k]? = some n) : s'.toks[k]? = some n := by
  obtain ⟨_, b, hb⟩ := h
  rw [hb, List.getElem?_append_left (List.getElem?_eq_some_iff.1 hk).1]
  exact hk
theorem Grew.toksLe {s s' : St} (h : Grew s s') : s.toks.length ≤ s'.toks.length := by
  obtain ⟨_, b, hb⟩ := h
  rw [hb]; simp
theorem Grew.loc {s s' : St} (h : Grew s s') {k : Nat} {o : Obj} (hk : s.locs[k]? = some o) : s'.locs[k]? = some o := by
  obtain ⟨⟨a, ha⟩, _⟩ := h
  rw [ha, List.getElem?_append_left (List.getElem?_eq_some_iff.1 hk).1]
  exact hk
theorem Grew.locsLe {s s' : St} (h : Grew s s') : s.locs.length ≤ s'.locs.length := by
  obtain ⟨⟨a, ha⟩, _⟩ := h
  rw [ha]; simp

/-- a slice that has been made since s0, and may be appended to in place -/
structure AccR (e : TypeId) (s0 s : St) (x : Slot) (l : List AV) : Prop where
  grew : Grew s0 s
  is : (x = .val .nils ∧ l = []) ∨ x = .full l ∨ ∃ k, x = .own k e l ∧ s0.toks.length ≤ k ∧ s.toks[k]? = some l.length

theorem AccR.list? {e : TypeId} {s0 s : St} {x : Slot} {l : List AV} (h : AccR e s0 s x l) : x.list? = some l := by
  rcases h.is with ⟨rfl, rfl⟩ | rfl | ⟨k, rfl, _⟩ <;> rfl

theorem AccR.av {e : TypeId} {s0 s : St} {x : Slot} {l : List AV} (h : AccR e s0 s x l) : ∃ nl, x.av = some (encS nl l) := by
  rcases h.is with ⟨rfl, rfl⟩ | rfl | ⟨k, rfl, _⟩
  · exact ⟨true, rfl⟩
  · exact ⟨false, rfl⟩
  · exact ⟨false, rfl⟩

theorem AccR.cellOk {e : TypeId} {s0 s : St} {x : Slot} {l : List AV} (h : AccR e s0 s x l) : x.cellOk = true := by
  rcases h.is with ⟨rfl, rfl⟩ | rfl | ⟨k, rfl, _⟩ <;> rfl

theorem AccR.move {e : TypeId} {s0 s s' : St} {x : Slot} {l : List AV} (h : AccR e s0 s x l) (g : Grew s s') : AccR e s0 s' x l := by
  refine ⟨h.grew.trans g, ?_⟩
  rcases h.is with hx | hx | ⟨k, hx, h1, h2⟩
  · exact .inl hx
  · exact .inr (.inl hx)
  · exact .inr (.inr ⟨k, hx, h1, g.tok h2⟩)

theorem AccR.nil (e : TypeId) (s : St) : AccR e s s (.val .nils) [] := ⟨.refl s, .inl ⟨rfl, rfl⟩⟩
theorem AccR.full (e : TypeId) (s : St) (l : List AV) : AccR e s s (.full l) l := ⟨.refl s, .inr (.inl rfl)⟩

/-- seen from an earlier state -/
theorem AccR.weaken {e : TypeId} {s0 s1 s : St} {x : Slot} {l : List AV} (h : AccR e s1 s x l) (g : Grew s0 s1) : AccR e s0 s x l := by
  refine ⟨g.trans h.grew, ?_⟩
  rcases h.is with hx | hx | ⟨k, hx, h1, h2⟩
  · exact .inl hx
  · exact .inr (.inl hx)
  · exact .inr (.inr ⟨k, hx, Nat.le_trans g.toksLe h1, h2⟩)

theorem Grew.pushTok {s0 s : St} (h : Grew s0 s) (n : Nat) : Grew s0 { s with toks := s.toks ++ [n] } := by
  obtain ⟨ha, b, hb⟩ := h
  exact ⟨ha, b ++ [n], by simp [go_sem, hb]⟩

theorem Grew.setTok {s0 s : St} (h : Grew s0 s) {k : Nat} (hk : s0.toks.length ≤ k) (n : Nat) : Grew s0 { s with toks := s.toks.set k n } := by
  obtain ⟨ha, b, hb⟩ := h
  refine ⟨ha, b.set (k - s0.toks.length) n, ?_⟩
  simp only [hb]
  rw [List.set_append_right _ _ hk]

theorem Grew.addLoc {s0 s : St} (h : Grew s0 s) (o : Obj) : Grew s0 (s.addLoc o) := by
  obtain ⟨⟨a, ha⟩, hb⟩ := h
  exact ⟨⟨a ++ [o], by simp [go_sem, St.addLoc, ha]⟩, hb⟩

theorem okSz_of {sz : Nat} {l : List AV} (h : ∀ v ∈ l, v.cells.length = sz) (h0 : 0 < sz) : okSz sz l = true := by
  unfold okSz
  simp only [Bool.and_eq_true, List.all_eq_true, beq_iff_eq]
  exact ⟨h, by simpa using h0⟩

/-- APPEND, to such a slice -/
theorem AccR.append {e : TypeId} {t : TI} {s0 s : St} {x y : Slot} {l m : List AV} (h : AccR e s0 s x l) (hy : y.list? = some m) (hl : ∀ v ∈ l, v.cells.length = t.size) (hm : ∀ v ∈ m, v.cells.length = t.size) (h0 : 0 < t.size)
    (b1 : (l.length + m.length) * t.bytes ≤ 140737488355328) (b2 : l.length + m.length ≤ 9223372036854775807) : ∃ x' s', appendS e t s x y = some (x', s') ∧ AccR e s0 s' x' (l ++ m) := by
  unfold appendS
  rw [hy]
  cases m with
  | nil =>
    simp only [h.list?]
    exact ⟨x, s, rfl, by simpa using h⟩
  | cons a m =>
    simp only [okSz_of hm h0, cond_true]
    rcases h.is with ⟨rfl, rfl⟩ | rfl | ⟨k, rfl, h1, h2⟩
    · simp only []
      rw [if_pos ⟨by simpa using b1, by simpa using b2⟩]
      exact ⟨_, _, rfl, h.grew.pushTok _, .inr (.inr ⟨s.toks.length, rfl, h.grew.toksLe, by simp⟩)⟩
    · simp only [okSz_of hl h0, cond_true]
      rw [if_pos ⟨b1, b2⟩]
      exact ⟨_, _, rfl, h.grew.pushTok _, .inr (.inr ⟨s.toks.length, rfl, h.grew.toksLe, by simp⟩)⟩
    · simp only [okSz_of hl h0, cond_true]
      have hlt := (List.getElem?_eq_some_iff.1 h2).1
      rw [if_pos ⟨trivial, h2, b1, b2⟩]
      exact ⟨_, _, rfl, h.grew.setTok h1 _, .inr (.inr ⟨k, rfl, h1, by simp [go_sem, hlt]⟩)⟩

/-- what a call gives: a value, the state grown -/
def Ret (r : Res) (s : St) (v : AV) : Prop := ∃ s', r = some (.ret (.val v), s') ∧ Grew s s'
/-- .. a slice made anew -/
def RetA (r : Res) (e : TypeId) (s : St) (l : List AV) : Prop := ∃ x s', r = some (.ret x, s') ∧ AccR e s s' x l

theorem Ret.mk {s s' : St} {v : AV} (h : Grew s s') : Ret (some (.ret (.val v), s')) s v := ⟨s', rfl, h⟩
theorem Ret.same (s : St) (v : AV) : Ret (some (.ret (.val v), s)) s v := ⟨s, rfl, .refl s⟩
theorem RetA.mk {e : TypeId} {s s' : St} {x : Slot} {l : List AV} (h : AccR e s s' x l) : RetA (some (.ret x, s')) e s l := ⟨x, s', rfl, h⟩

theorem Ret.call {r : Res} {s : St} {v : AV} {k : Slot → St → Res} {Q : Res → Prop} (h : Ret r s v) (hk : ∀ s', Grew s s' → Q (k (.val v) s')) : Q (back r k) := by
  obtain ⟨s', rfl, g⟩ := h
  exact hk s' g
theorem Ret.callN {r : Res} {s : St} {v : AV} {k : Slot → St → Res} {Q : Res → Prop} (h : Ret r s v) (hk : ∀ s', Grew s s' → Q (k (.val v) s')) : Q (back (noPan r) k) := by
  obtain ⟨s', rfl, g⟩ := h
  exact hk s' g
theorem RetA.call {r : Res} {e : TypeId} {s : St} {l : List AV} {k : Slot → St → Res} {Q : Res → Prop} (h : RetA r e s l) (hk : ∀ x s', AccR e s s' x l → Q (k x s')) : Q (back r k) := by
  obtain ⟨x, s', rfl, g⟩ := h
  exact hk x s' g
theorem RetA.callN {r : Res} {e : TypeId} {s : St} {l : List AV} {k : Slot → St → Res} {Q : Res → Prop} (h : RetA r e s l) (hk : ∀ x s', AccR e s s' x l → Q (k x s')) : Q (back (noPan r) k) := by
  obtain ⟨x, s', rfl, g⟩ := h
  exact hk x s' g

theorem AccR.appendF {α : Type} {f : α → AV} {e : TypeId} {t : TI} {s0 s : St} {x y : Slot} {A B : List α} (h : AccR e s0 s x (A.map f)) (hy : y.list? = some (B.map f)) (hf : ∀ a, (f a).cells.length = t.size) (h0 : 0 < t.size)
    (b : A.length + B.length < 2^30) (hb : t.bytes ≤ 2^16) : ∃ x' s', appendS e t s x y = some (x', s') ∧ AccR e s0 s' x' ((A ++ B).map f) := by
  have h1 : (A.length + B.length) * t.bytes ≤ 2^30 * 2^16 := Nat.mul_le_mul (Nat.le_of_lt b) hb
  have := AccR.append (m := B.map f) h hy (t := t) (fun v hv => by obtain ⟨a, _, rfl⟩ := List.mem_map.1 hv; exact hf a) (fun v hv => by obtain ⟨a, _, rfl⟩ := List.mem_map.1 hv; exact hf a) h0 (by simp only [List.length_map]; omega) (by simp only [List.length_map]; omega)
  simpa using this

/-- a round over a list: what the loop's head and its element come to -/
theorem step_facts {α : Type} {f : α → AV} {L pre suf : List α} {t : α} {x : Slot} {sz : Nat} (hx : x.list? = some (L.map f)) (h : pre ++ t :: suf = L) (hl : L.length < 2^62) (hs : (f t).cells.length = sz) (h0 : 0 < sz) :
    decide ((pre.length : Int) < (L.length : Int)) = true ∧ ixS sz x (.val (.int .i64 (pre.length : Int))) = some (.val (.cp (f t).cells)) ∧ IntKind.i64.wrap ((pre.length : Int) + 1) = ((pre.length + 1 : Nat) : Int) := by
  have hlt : pre.length < L.length := by rw [← h]; simp
  refine ⟨by simpa using hlt, ixS_get hx (by rw [← h]; simp) hs h0, ?_⟩
  rw [wrap64 (by omega) (by omega)]
  rfl
theorem end_facts {α : Type} {L pre : List α} (h : pre = L) : decide ((pre.length : Int) < (L.length : Int)) = false := by subst h; simp

end Go.Am
