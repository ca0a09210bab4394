/- A part of the proof: A26, A28, T1, G1, K. -/
import Derived.Test.YtfkihppbbeonkaaM2
import Derived.KernelRfl
import Derived.Test.YtfkihppbbeonkaaProg
set_option linter.unusedVariables false
set_option linter.unusedSimpArgs false
namespace Go.Am
open Go
/-! ### binds -/
@[go_sem] theorem bind1_some (v : Slot) (k : Slot → Res) : bind1 (some v) k = k v := id rfl
@[go_sem] theorem bindL_some (v : List Slot) (k : List Slot → Res) : bindL (some v) k = k v := id rfl
@[go_sem] theorem bindA_some (v : List AV) (k : List AV → Res) : bindA (some v) k = k v := id rfl
@[go_sem] theorem bindB_some (v : Bool) (k : Bool → Res) : bindB (some v) k = k v := id rfl
@[go_sem] theorem bindS_some (v : St) (k : St → Res) : bindS (some v) k = k v := id rfl
@[go_sem] theorem bind2_some (v : Slot) (s : St) (k : Slot → St → Res) : bind2 (some (v, s)) k = k v s := id rfl
@[go_sem] theorem back_ret (v : Slot) (s : St) (k : Slot → St → Res) : back (some (.ret v, s)) k = k v s := id rfl
@[go_sem] theorem noPan_ret (v : Slot) (s : St) : noPan (some (.ret v, s)) = some (.ret v, s) := id rfl
@[congr] theorem bind1_congr {r r' : Option Slot} {k : Slot → Res} (h : r = r') : bind1 r k = bind1 r' k := by rw [h]
@[congr] theorem bindL_congr {r r' : Option (List Slot)} {k : List Slot → Res} (h : r = r') : bindL r k = bindL r' k := by rw [h]
@[congr] theorem bindA_congr {r r' : Option (List AV)} {k : List AV → Res} (h : r = r') : bindA r k = bindA r' k := by rw [h]
@[congr] theorem bindB_congr {r r' : Option Bool} {k : Bool → Res} (h : r = r') : bindB r k = bindB r' k := by rw [h]
@[congr] theorem bindS_congr {r r' : Option St} {k : St → Res} (h : r = r') : bindS r k = bindS r' k := by rw [h]
@[congr] theorem bind2_congr {r r' : Option (Slot × St)} {k : Slot → St → Res} (h : r = r') : bind2 r k = bind2 r' k := by rw [h]
@[congr] theorem back_congr {r r' : Res} {k : Slot → St → Res} (h : r = r') : back r k = back r' k := by rw [h]
/-- a fork -/
def ifR (b : Bool) (x y : Res) : Res := bif b then x else y
@[go_sem] theorem ifR_true (x y : Res) : ifR true x y = x := id rfl
@[go_sem] theorem ifR_false (x y : Res) : ifR false x y = y := id rfl
@[congr] theorem ifR_congr {b b' : Bool} {x y : Res} (h : b = b') : ifR b x y = ifR b' x y := by rw [h]
theorem ifR_pos {b : Bool} (h : b = true) (x y : Res) : ifR b x y = x := by rw [h]; rfl
theorem ifR_neg {b : Bool} (h : b = false) (x y : Res) : ifR b x y = y := by rw [h]; rfl
@[go_sem] theorem ifR_ret (b : Bool) (x y : AV) (s : St) : ifR b (some (.ret (.val x), s)) (some (.ret (.val y), s)) = some (.ret (.val (bif b then x else y)), s) := by cases b <;> rfl
@[go_sem] theorem bif_int (b : Bool) (k : IntKind) (x y : Int) : (bif b then AV.int k x else AV.int k y) = AV.int k (bif b then x else y) := by cases b <;> rfl
@[go_sem] theorem bif_ab (b x y : Bool) : (bif b then AV.bool x else AV.bool y) = AV.bool (bif b then x else y) := by cases b <;> rfl
@[go_sem] theorem bif_str (b : Bool) (x y : List UInt8) : (bif b then AV.str x else AV.str y) = AV.str (bif b then x else y) := by cases b <;> rfl
@[go_sem] theorem condS_bool (b : Bool) (x y : Res) : condS (.val (.bool b)) x y = ifR b x y := id rfl
@[congr] theorem condS_congr {b b' : Slot} {x y : Res} (h : b = b') : condS b x y = condS b' x y := by rw [h]
@[congr] theorem endX_congr {loc loc' : Nat} {s s' : St} {kn kr : St → Res} {ke : Nat → St → Res} (h : loc = loc') (g : s = s') : endX loc s kn kr ke = endX loc' s' kn kr ke := by rw [h, g]
@[congr] theorem rangeC_congr {C : Cfg} {cl : CallFn} {h h' : Slot} {loc loc' : Nat} {s s' : St} {k : St → Res} (e1 : h = h') (e2 : loc = loc') (e3 : s = s') : rangeC C cl h loc s k = rangeC C cl h' loc' s' k := by rw [e1, e2, e3]
/-! ### slots -/
@[go_sem] theorem av_val (v : AV) : (Slot.val v).av = some v := id rfl
@[go_sem] theorem av_own (k : Nat) (e : TypeId) (l : List AV) : (Slot.own k e l).av = some (.sl l) := id rfl
@[go_sem] theorem av_full (l : List AV) : (Slot.full l).av = some (.sl l) := id rfl
@[go_sem] theorem list?_nils : (Slot.val .nils).list? = some [] := id rfl
@[go_sem] theorem list?_sl (l : List AV) : (Slot.val (.sl l)).list? = some l := id rfl
@[go_sem] theorem list?_own (k : Nat) (e : TypeId) (l : List AV) : (Slot.own k e l).list? = some l := id rfl
@[go_sem] theorem list?_full (l : List AV) : (Slot.full l).list? = some l := id rfl
@[go_sem] theorem avs_nil : avs [] = some [] := id rfl
@[go_sem] theorem avs_val (v : AV) (r : List Slot) : avs (.val v :: r) = (avs r).map (v :: ·) := by
  simp only [avs, av_val]; cases avs r <;> rfl
@[go_sem] theorem avs_full (l : List AV) (r : List Slot) : avs (.full l :: r) = (avs r).map (.sl l :: ·) := by
  simp only [avs, av_full]; cases avs r <;> rfl
@[go_sem] theorem avs_own (k : Nat) (e : TypeId) (l : List AV) (r : List Slot) : avs (.own k e l :: r) = (avs r).map (.sl l :: ·) := by
  simp only [avs, av_own]; cases avs r <;> rfl
theorem avs_cons {x : Slot} {v : AV} (h : x.av = some v) (r : List Slot) : avs (x :: r) = (avs r).map (v :: ·) := by
  simp only [avs, h]; cases avs r <;> rfl
@[go_sem] theorem avs_map_val (l : List AV) : avs (l.map .val) = some l := by
  induction l with
  | nil => rfl
  | cons a l ih => simp [go_sem, ih]
/-- a slice's value: nil, or not -/
def encS (nl : Bool) (l : List AV) : AV := bif nl && l.isEmpty then .nils else .sl l
@[go_sem] theorem list?_encS (nl : Bool) (l : List AV) : (Slot.val (encS nl l)).list? = some l := by
  cases nl <;> cases l <;> rfl
@[go_sem] theorem encS_cons (nl : Bool) (a : AV) (l : List AV) : encS nl (a :: l) = .sl (a :: l) := by cases nl <;> rfl
theorem encS_false (l : List AV) : encS false l = .sl l := rfl
@[go_sem] theorem encS_nil : encS true [] = .nils := id rfl
@[go_sem] theorem cellOk_encS (nl : Bool) (l : List AV) : (Slot.val (encS nl l)).cellOk = true := by cases nl <;> cases l <;> rfl
@[go_sem] theorem cells_encS (nl : Bool) (l : List AV) : (encS nl l).cells = [encS nl l] := by cases nl <;> cases l <;> rfl
@[go_sem] theorem isTup_encS (nl : Bool) (l : List AV) : (encS nl l).isTup = false := by cases nl <;> cases l <;> rfl
@[go_sem] theorem cellOk_bool (b : Bool) : (Slot.val (.bool b)).cellOk = true := id rfl
@[go_sem] theorem cellOk_int (k : IntKind) (n : Int) : (Slot.val (.int k n)).cellOk = true := id rfl
@[go_sem] theorem cellOk_str (l : List UInt8) : (Slot.val (.str l)).cellOk = true := id rfl
@[go_sem] theorem cellOk_cp (l : List AV) : (Slot.val (.cp l)).cellOk = true := id rfl
@[go_sem] theorem cellOk_vp (a b : Nat) : (Slot.val (.vp a b)).cellOk = true := id rfl
@[go_sem] theorem cellOk_fn (f : FuncId) (l : List AV) : (Slot.val (.fn f l)).cellOk = true := id rfl
@[go_sem] theorem cellOk_yld (l : Nat) : (Slot.val (.yld l)).cellOk = true := id rfl
@[go_sem] theorem cellOk_nilp : (Slot.val .nilp).cellOk = true := id rfl
@[go_sem] theorem cellOk_nilf : (Slot.val .nilf).cellOk = true := id rfl
@[go_sem] theorem cellOk_nils : (Slot.val .nils).cellOk = true := id rfl
@[go_sem] theorem cellOk_mp (l : Nat) : (Slot.val (.mp l)).cellOk = true := id rfl
@[go_sem] theorem cellOk_own (k : Nat) (e : TypeId) (l : List AV) : (Slot.own k e l).cellOk = true := id rfl
@[go_sem] theorem cellOk_full (l : List AV) : (Slot.full l).cellOk = true := id rfl
@[go_sem] theorem cells_agg (l : List AV) : (AV.agg l).cells = l := id rfl
@[go_sem] theorem cells_bool (b : Bool) : (AV.bool b).cells = [.bool b] := id rfl
@[go_sem] theorem cells_int (k : IntKind) (n : Int) : (AV.int k n).cells = [.int k n] := id rfl
@[go_sem] theorem cells_str (l : List UInt8) : (AV.str l).cells = [.str l] := id rfl
@[go_sem] theorem cells_cp (l : List AV) : (AV.cp l).cells = [.cp l] := id rfl
@[go_sem] theorem cells_sl (l : List AV) : (AV.sl l).cells = [.sl l] := id rfl
@[go_sem] theorem cells_nils : AV.nils.cells = [.nils] := id rfl
@[go_sem] theorem cells_nilp : AV.nilp.cells = [.nilp] := id rfl
@[go_sem] theorem cells_fn (f : FuncId) (l : List AV) : (AV.fn f l).cells = [.fn f l] := id rfl
@[go_sem] theorem cells_yld (l : Nat) : (AV.yld l).cells = [.yld l] := id rfl
@[go_sem] theorem isTup_agg (l : List AV) : (AV.agg l).isTup = false := id rfl
@[go_sem] theorem isTup_bool (b : Bool) : (AV.bool b).isTup = false := id rfl
@[go_sem] theorem isTup_int (k : IntKind) (n : Int) : (AV.int k n).isTup = false := id rfl
@[go_sem] theorem isTup_str (l : List UInt8) : (AV.str l).isTup = false := id rfl
@[go_sem] theorem isTup_cp (l : List AV) : (AV.cp l).isTup = false := id rfl
@[go_sem] theorem isTup_sl (l : List AV) : (AV.sl l).isTup = false := id rfl
@[go_sem] theorem isTup_nils : AV.nils.isTup = false := id rfl
@[go_sem] theorem isTup_nilp : AV.nilp.isTup = false := id rfl
@[go_sem] theorem isTup_fn (f : FuncId) (l : List AV) : (AV.fn f l).isTup = false := id rfl
@[go_sem] theorem isTup_yld (l : Nat) : (AV.yld l).isTup = false := id rfl
/-! ### guards -/
@[go_sem] theorem isB_t (b : Bool) : Slot.isB (.val (.bool b)) true = some b := by cases b <;> rfl
@[go_sem] theorem isB_f (b : Bool) : Slot.isB (.val (.bool b)) false = some (!b) := by cases b <;> rfl
@[go_sem] theorem isB_no (w : Bool) : Slot.isB .no w = some false := id rfl
@[go_sem] theorem gd_true (r : Option Slot) : gd true r = r := id rfl
@[go_sem] theorem gd_false (r : Option Slot) : gd false r = some .no := id rfl
@[go_sem] theorem gdV_true (r : Slot) : gdV true r = r := id rfl
@[go_sem] theorem gdV_false (r : Slot) : gdV false r = .no := id rfl
@[go_sem] theorem gd_some (b : Bool) (v : Slot) : gd b (some v) = some (gdV b v) := by cases b <;> rfl
@[congr] theorem gd_congr {b b' : Bool} {r r' : Option Slot} (h : b = b') (g : b' = true → r = r') : gd b r = gd b' r' := by
  subst h; cases b
  · rfl
  · rw [g rfl]
@[go_sem] theorem gdV_gdV (a b : Bool) (v : Slot) : gdV a (gdV b v) = gdV (a && b) v := by cases a <;> cases b <;> rfl
@[go_sem] theorem isB_gdV_t (a b : Bool) : Slot.isB (gdV a (.val (.bool b))) true = some (a && b) := by cases a <;> cases b <;> rfl
@[go_sem] theorem isB_gdV_f (a b : Bool) : Slot.isB (gdV a (.val (.bool b))) false = some (a && !b) := by cases a <;> cases b <;> rfl
@[go_sem] theorem and_l (a b : Bool) : (a && b && a) = (a && b) := by cases a <;> cases b <;> rfl
@[go_sem] theorem and_r (a b : Bool) : (a && b && b) = (a && b) := by cases a <;> cases b <;> rfl
@[go_sem] theorem and_l2 (a b c : Bool) : (a && b && c && a) = (a && b && c) := by cases a <;> cases b <;> cases c <;> rfl
@[go_sem] theorem and_lr2 (a b c : Bool) : (a && b && c && (a && b)) = (a && b && c) := by cases a <;> cases b <;> cases c <;> rfl
@[go_sem] theorem and_lr (a b : Bool) : (a && (a && b)) = (a && b) := by cases a <;> cases b <;> rfl
section
variable (b c : Bool) (t u : TI) (op : BinOp) (uo : UnOp) (x y z : Slot) (n : Nat) (r : Bool) (s : St)
@[go_sem] theorem gd_bin_l : gd b (binS t op (gdV b x) y) = gd b (binS t op x y) := by cases b <;> rfl
@[go_sem] theorem gd_bin_r : gd b (binS t op x (gdV b y)) = gd b (binS t op x y) := by cases b <;> rfl
@[go_sem] theorem gd_bin_lc : gd b (binS t op (gdV (b && c) x) y) = gd b (binS t op (gdV c x) y) := by cases b <;> rfl
@[go_sem] theorem gd_un : gd b (unS uo (gdV b x)) = gd b (unS uo x) := by cases b <;> rfl
@[go_sem] theorem gd_conv : gd b (convS t u (gdV b x)) = gd b (convS t u x) := by cases b <;> rfl
@[go_sem] theorem gd_len : gd b (lenS t (gdV b x)) = gd b (lenS t x) := by cases b <;> rfl
@[go_sem] theorem gd_map_list (g : List AV → Slot) : gd b (Option.map g (gdV b x).list?) = gd b (Option.map g x.list?) := by cases b <;> rfl
@[go_sem] theorem gd_index_l : gd b (indexS t u (gdV b x) y) = gd b (indexS t u x y) := by cases b <;> rfl
@[go_sem] theorem gd_index_r : gd b (indexS t u x (gdV b y)) = gd b (indexS t u x y) := by cases b <;> rfl
@[go_sem] theorem gd_ix_l : gd b (ixS n (gdV b x) y) = gd b (ixS n x y) := by cases b <;> rfl
@[go_sem] theorem gd_ix_r : gd b (ixS n x (gdV b y)) = gd b (ixS n x y) := by cases b <;> rfl
@[go_sem] theorem gd_ld : gd b (ldV t r s (gdV b x)) = gd b (ldV t r s x) := by cases b <;> rfl
@[go_sem] theorem gd_fa : gd b (faV n (gdV b x)) = gd b (faV n x) := by cases b <;> rfl
@[go_sem] theorem gd_nil : gd b (nilCheckV (gdV b x)) = gd b (nilCheckV x) := by cases b <;> rfl
@[go_sem] theorem gd_field (o : Nat) : gd b (fieldS t u o (gdV b x)) = gd b (fieldS t u o x) := by cases b <;> rfl
@[go_sem] theorem gd_pick_c : gd b (pickS (gdV b x) y z) = gd b (pickS x y z) := by cases b <;> rfl
@[go_sem] theorem gd_pick_l : gd b (pickS x (gdV b y) z) = gd b (pickS x y z) := by cases b <;> rfl
@[go_sem] theorem gd_pick_r : gd b (pickS x y (gdV b z)) = gd b (pickS x y z) := by cases b <;> rfl
@[go_sem] theorem gd_bif (p q : Option Slot) : gd b (bif b then p else q) = gd b p := by cases b <;> rfl
@[go_sem] theorem gdV_bif_not : gdV b (bif c then x else gdV (b && !c) y) = gdV b (bif c then x else y) := by cases b <;> cases c <;> rfl
@[go_sem] theorem gdV_bif_and : gdV b (bif c then gdV (b && c) x else y) = gdV b (bif c then x else y) := by cases b <;> cases c <;> rfl
@[go_sem] theorem bif_ct (d : Bool) : (bif c then Slot.val (.bool true) else .val (.bool d)) = .val (.bool (c || d)) := by cases c <;> rfl
@[go_sem] theorem bif_cf (d : Bool) : (bif c then Slot.val (.bool d) else .val (.bool false)) = .val (.bool (c && d)) := by cases c <;> rfl
end
@[go_sem] theorem pickS_val (c : Bool) (a b : Slot) : pickS (.val (.bool c)) a b = some (bif c then a else b) := id rfl
@[go_sem] theorem bif_gdV_and (c : Bool) (a b : Bool) (v w : Slot) : (bif c then gdV (c && a) v else w) = bif c then gdV a v else w := by cases c <;> rfl
@[go_sem] theorem bif_gdV_self (c : Bool) (v w : Slot) : (bif c then gdV c v else w) = bif c then v else w := by cases c <;> rfl
@[go_sem] theorem bif_gdV_not (c : Bool) (v w : Slot) : (bif c then v else gdV (!c) w) = bif c then v else w := by cases c <;> rfl
theorem bif_boolS (c a b : Bool) : (bif c then Slot.val (.bool a) else .val (.bool b)) = .val (.bool (bif c then a else b)) := by cases c <;> rfl
@[go_sem] theorem chkP_true (w : Bool) (k : Unit → Res) : chkP true w k = k () := id rfl
@[go_sem] theorem chkP_self (w : Bool) (k : Unit → Res) : chkP w w k = k () := by cases w <;> rfl
/-! ### numbers and texts -/
def maxI (a b : Int) : Int := if b > a then b else a
theorem beqd (x y : List UInt8) : (x == y) = decide (x = y) := by rw [Bool.eq_iff_iff]; simp
section
variable (t : TI) (k : IntKind) (a b : Int) (x y : List UInt8)
@[go_sem] theorem binS_lss : binS t .lss (.val (.int k a)) (.val (.int k b)) = some (.val (.bool (decide (a < b)))) := by simp [go_sem, binS]
@[go_sem] theorem binS_leq : binS t .leq (.val (.int k a)) (.val (.int k b)) = some (.val (.bool (decide (a ≤ b)))) := by simp [go_sem, binS]
@[go_sem] theorem binS_gtr : binS t .gtr (.val (.int k a)) (.val (.int k b)) = some (.val (.bool (decide (a > b)))) := by simp [go_sem, binS]
@[go_sem] theorem binS_geq : binS t .geq (.val (.int k a)) (.val (.int k b)) = some (.val (.bool (decide (a ≥ b)))) := by simp [go_sem, binS]
@[go_sem] theorem binS_eql : binS t .eql (.val (.int k a)) (.val (.int k b)) = some (.val (.bool (decide (a = b)))) := by simp [go_sem, binS]; rfl
@[go_sem] theorem binS_neq : binS t .neq (.val (.int k a)) (.val (.int k b)) = some (.val (.bool (!decide (a = b)))) := by simp [go_sem, binS]; rfl
@[go_sem] theorem binS_add : binS t .add (.val (.int k a)) (.val (.int k b)) = some (.val (.int k (k.wrap (a + b)))) := by simp [go_sem, binS]
@[go_sem] theorem binS_sub : binS t .sub (.val (.int k a)) (.val (.int k b)) = some (.val (.int k (k.wrap (a - b)))) := by simp [go_sem, binS]
@[go_sem] theorem binS_seql : binS t .eql (.val (.str x)) (.val (.str y)) = some (.val (.bool (decide (x = y)))) := by simp only [binS, av_val, beqd]
@[go_sem] theorem binS_sneq : binS t .neq (.val (.str x)) (.val (.str y)) = some (.val (.bool (!decide (x = y)))) := by simp only [binS, av_val, beqd]
@[go_sem] theorem binS_rem (h : b ≠ 0) : binS t .rem (.val (.int k a)) (.val (.int k b)) = some (.val (.int k (a.tmod b))) := by simp [go_sem, binS, h]
@[go_sem] theorem binS_quo (h : b ≠ 0) : binS t .quo (.val (.int k a)) (.val (.int k b)) = some (.val (.int k (k.wrap (a.tdiv b)))) := by simp [go_sem, binS, h]
@[go_sem] theorem binS_mul : binS t .mul (.val (.int k a)) (.val (.int k b)) = some (.val (.int k (k.wrap (a * b)))) := by simp [go_sem, binS]
theorem binS_sadd (h : x.length + y.length ≤ 9223372036854775807) : binS t .add (.val (.str x)) (.val (.str y)) = some (.val (.str (x ++ y))) := by simp only [binS, av_val]; rw [if_pos h]
@[go_sem] theorem unS_not (b : Bool) : unS .not (.val (.bool b)) = some (.val (.bool !b)) := id rfl
theorem unS_neg : unS .neg (.val (.int k a)) = some (.val (.int k (k.wrap (0 - a)))) := rfl
@[go_sem] theorem max2_int : max2 (.val (.int k a)) (.val (.int k b)) = some (.val (.int k (maxI a b))) := id rfl
@[go_sem] theorem max3_int (c : Int) : max3 (.val (.int k a)) (.val (.int k b)) (.val (.int k c)) = some (.val (.int k (maxI (maxI a b) c))) := id rfl
@[go_sem] theorem binS_beql (p q : Bool) (h : t.k = .bool) : binS t .eql (.val (.bool p)) (.val (.bool q)) = some (.val (.bool (p == q))) := by simp [go_sem, binS, eqS, h]
@[go_sem] theorem binS_bneq (p q : Bool) (h : t.k = .bool) : binS t .neq (.val (.bool p)) (.val (.bool q)) = some (.val (.bool !(p == q))) := by simp [go_sem, binS, eqS, h]
end
def TKptr : TK → Bool | .ptr => true | _ => false
@[go_sem] theorem TKptr_ptr : TKptr .ptr = true := id rfl
section
variable {t : TI} (l : List AV)
theorem TKptr_eq {k : TK} (h : TKptr k = true) : k = .ptr := by cases k <;> first | rfl | cases h
@[go_sem] theorem neq_cp (h : TKptr t.k = true) : binS t .neq (.val (.cp l)) (.val .nilp) = some (.val (.bool true)) := by simp [go_sem, binS, eqS, TKptr_eq h]
@[go_sem] theorem neq_nilp (h : TKptr t.k = true) : binS t .neq (.val .nilp) (.val .nilp) = some (.val (.bool false)) := by simp [go_sem, binS, eqS, TKptr_eq h]
@[go_sem] theorem eql_cp (h : TKptr t.k = true) : binS t .eql (.val (.cp l)) (.val .nilp) = some (.val (.bool false)) := by simp [go_sem, binS, eqS, TKptr_eq h]
@[go_sem] theorem eql_nilp (h : TKptr t.k = true) : binS t .eql (.val .nilp) (.val .nilp) = some (.val (.bool true)) := by simp [go_sem, binS, eqS, TKptr_eq h]
end
theorem wrap64 {n : Int} (h : -9223372036854775808 ≤ n) (g : n ≤ 9223372036854775807) : IntKind.i64.wrap n = n := by
  unfold IntKind.wrap
  simp [go_sem, IntKind.bits, IntKind.signed]
  omega
theorem indexS_str {t et : TI} (h : t.k = .str) {l : List UInt8} {n : Nat} {b : UInt8} (hv : l[n]? = some b) : indexS t et (.val (.str l)) (.val (.int .i64 (n : Int))) = some (.val (.int .u8 b.toNat)) := by
  unfold indexS
  simp only [h]
  rw [if_pos (by omega)]
  simp [go_sem, hv]
@[go_sem] theorem indexS_zero {t et : TI} (h : t.k = .str) {l : List UInt8} (hl : l ≠ []) : indexS t et (.val (.str l)) (.val (.int .i64 0)) = some (.val (.int .u8 (l.headD 0).toNat)) := by
  cases l with
  | nil => exact absurd rfl hl
  | cons b l => exact indexS_str (n := 0) h rfl
/-! ### structs, slices -/
@[go_sem] theorem lenS_str {t : TI} (h : t.k = .str) (l : List UInt8) : lenS t (.val (.str l)) = some (.val (.int .i64 l.length)) := by simp [go_sem, lenS, h]
def TKslice : TK → Bool | .slice _ => true | _ => false
@[go_sem] theorem TKslice_sl (e : TypeId) : TKslice (.slice e) = true := id rfl
@[go_sem] theorem lenS_slice {t : TI} (h : TKslice t.k = true) (x : Slot) : lenS t x = x.list?.map fun l => .val (.int .i64 l.length) := by
  unfold lenS
  cases hk : t.k <;> rw [hk] at h <;> first | cases h | skip
  simp only []; cases x.list? <;> rfl
@[go_sem] theorem boxCells_agg {t : TI} (h : t.isAgg = true) {l : List AV} (g : l.length = t.size) : boxCells t (.val (.agg l)) = some (l.map .val) := by unfold boxCells; rw [h]; simp only [cond_true]; rw [if_pos g]
theorem isGood_of {t : TI} (h : t.k ≠ .bad) : t.isGood = true := by unfold TI.isGood; split <;> simp_all
@[go_sem] theorem boxCells_one {t : TI} (h : t.isAgg = false) (g : t.isGood = true) {x : Slot} (hx : x.cellOk = true) : boxCells t x = some [x] := by unfold boxCells; rw [h, hx, g]; rfl
def aggO (t : TI) (o : Option (List AV)) : Option Slot := match o with | some l => if l.length = t.size then some (.val (.agg l)) else none | none => none
@[go_sem] theorem aggO_some {t : TI} {l : List AV} (h : l.length = t.size) : aggO t (some l) = some (.val (.agg l)) := by simp only [aggO]; rw [if_pos h]
@[go_sem] theorem ofSlots_agg {t : TI} (h : t.isAgg = true) (cs : List Slot) : ofSlots t cs = aggO t (avs cs) := by unfold ofSlots; rw [h]; rfl
@[go_sem] theorem ofSlots_one {t : TI} (h : t.isAgg = false) (x : Slot) : ofSlots t [x] = some x := by simp [go_sem, ofSlots, h]
@[go_sem] theorem ofCells_agg {t : TI} (h : t.isAgg = true) {cs : List AV} (g : cs.length = t.size) : ofCells t cs = some (.agg cs) := by unfold ofCells; rw [h]; simp only [cond_true]; rw [if_pos g]
@[go_sem] theorem ofCells_one {t : TI} (h : t.isAgg = false) (x : AV) : ofCells t [x] = some x := by simp [go_sem, ofCells, h]
@[go_sem] theorem ldV_cp (t : TI) (r : Bool) (s : St) (l : List AV) : ldV t r s (.val (.cp l)) = (ofCells t (l.take t.size)).map .val := by
  simp only [ldV]; cases ofCells t (l.take t.size) <;> rfl
theorem map_mid {α β : Type} {f : α → β} (pre : List α) (x : α) (suf : List α) : ((pre ++ x :: suf).map f)[pre.length]? = some (f x) := by simp
attribute [go_sem] List.take_of_length_le List.map_cons List.map_nil List.length_cons List.length_nil List.length_map List.length_append List.cons_append List.nil_append List.append_assoc List.append_nil List.take_succ_cons List.take_zero List.drop_succ_cons List.drop_zero List.take_nil List.drop_nil List.map_append List.map_map Option.map_some Option.map_none Bool.and_self Bool.and_true Bool.true_and Bool.and_false Bool.false_and Bool.or_false Bool.or_true Bool.true_or Bool.false_or Bool.not_true Bool.not_false cond_true cond_false if_true if_false reduceCtorEq decide_true decide_false
theorem ofSlots_map {t : TI} (h : t.isAgg = true) {l : List AV} (g : l.length = t.size) : ofSlots t (l.map .val) = some (.val (.agg l)) := by
  unfold ofSlots; rw [h]; simp [go_sem, g]
@[go_sem] theorem putAt_map {z l : List AV} (h : z.length = l.length) : putAt (z.map .val) 0 (l.map .val) = some (l.map .val) := by
  unfold putAt; simp [go_sem, h]
@[go_sem] theorem drop_app {α : Type} {n : Nat} {l m : List α} (h : l.length ≤ n) : (l ++ m).drop n = m.drop (n - l.length) := by
  rw [List.drop_append, List.drop_of_length_le h]; rfl
@[go_sem] theorem take_app {α : Type} {n : Nat} {l m : List α} (h : n ≤ l.length) : (l ++ m).take n = l.take n := by
  rw [List.take_append]; simp [go_sem, Nat.sub_eq_zero_of_le h]
@[go_sem] theorem putAt_ok {l c : List Slot} {off : Nat} (h : off + c.length ≤ l.length) : putAt l off c = some (l.take off ++ (c ++ l.drop (off + c.length))) := by unfold putAt; rw [if_pos h]
theorem putAt_all {l c : List Slot} (h : l.length = c.length) : putAt l 0 c = some c := by
  unfold putAt
  rw [if_pos (by omega)]
  simp [go_sem, h]
theorem ixS_get {sz : Nat} {x : Slot} {k : IntKind} {n : Nat} {l : List AV} {v : AV} (h : x.list? = some l) (hv : l[n]? = some v) (hs : v.cells.length = sz) (h0 : 0 < sz) : ixS sz x (.val (.int k (n : Int))) = some (.val (.cp v.cells)) := by
  have hlt := (List.getElem?_eq_some_iff.1 hv).1
  unfold ixS
  rw [h]
  simp only []
  rw [if_pos ⟨by omega, by omega⟩]
  simp [go_sem, hv, hs, h0]
@[go_sem] theorem faV_cp (off : Nat) (l : List AV) : faV off (.val (.cp l)) = some (.val (.cp (l.drop off))) := id rfl
@[go_sem] theorem faV_vp (off a o : Nat) : faV off (.val (.vp a o)) = some (.val (.vp a (o + off))) := id rfl
@[go_sem] theorem nilCheck_cp (l : List AV) : nilCheckV (.val (.cp l)) = some (.val (.cp l)) := id rfl
@[go_sem] theorem nilCheck_vp (a b : Nat) : nilCheckV (.val (.vp a b)) = some (.val (.vp a b)) := id rfl
def fullO (o : Option (List AV)) : Option Slot := match o with | some l => some (.full l) | none => none
@[go_sem] theorem fullO_some (l : List AV) : fullO (some l) = some (.full l) := id rfl
@[go_sem] theorem bslF_eq (sz : Nat) (xs : List Slot) : bslF sz xs = fullO (bslS sz xs) := by unfold bslF; cases bslS sz xs <;> rfl
@[go_sem] theorem bslS_nil (sz : Nat) : bslS sz [] = some [] := id rfl
@[go_sem] theorem bslS_val {sz : Nat} {v : AV} (h : v.cells.length = sz) (g : v.isTup = false) (r : List Slot) : bslS sz (.val v :: r) = (bslS sz r).map (v :: ·) := by
  simp only [bslS, av_val]; rw [if_pos ⟨h, g⟩]; cases bslS sz r <;> rfl
theorem bslS_cons {sz : Nat} {x : Slot} {v : AV} (hx : x.av = some v) (h : v.cells.length = sz) (g : v.isTup = false) (r : List Slot) : bslS sz (x :: r) = (bslS sz r).map (v :: ·) := by
  simp only [bslS, hx]; rw [if_pos ⟨h, g⟩]; cases bslS sz r <;> rfl
/-- the parts of a struct -/
@[go_sem] theorem fillS_nil (l : List AV) : fillS l [] = some l := id rfl
@[go_sem] theorem fillS_val {l : List AV} {off sz : Nat} {v : AV} (h : v.cells.length = sz) (g : v.isTup = false) (k : off + v.cells.length ≤ l.length) (r : List (Nat × Nat × Slot)) : fillS l ((off, sz, .val v) :: r) = fillS (l.take off ++ (v.cells ++ l.drop (off + v.cells.length))) r := by
  simp only [fillS, av_val]; rw [if_pos ⟨h, g⟩]; simp only [setAt]; rw [if_pos k]
theorem fillS_cons {l : List AV} {off sz : Nat} {x : Slot} {v : AV} (hx : x.av = some v) (h : v.cells.length = sz) (g : v.isTup = false) (k : off + v.cells.length ≤ l.length) (r : List (Nat × Nat × Slot)) : fillS l ((off, sz, x) :: r) = fillS (l.take off ++ (v.cells ++ l.drop (off + v.cells.length))) r := by
  simp only [fillS, hx]; rw [if_pos ⟨h, g⟩]; simp only [setAt]; rw [if_pos k]
def bldO (o : Option (List AV)) : Option Slot := match o with | some l => some (.val (.agg l)) | none => none
@[go_sem] theorem bldO_some (l : List AV) : bldO (some l) = some (.val (.agg l)) := id rfl
@[go_sem] theorem buildS_eq (z : List AV) (ps : List (Nat × Nat × Slot)) : buildS z ps = bldO (fillS z ps) := by unfold buildS; cases fillS z ps <;> rfl
@[go_sem] theorem avsO_nil : avsO [] = some [] := id rfl
@[go_sem] theorem avsO_val (v : AV) (r : List (Option Slot)) : avsO (some (.val v) :: r) = (avsO r).map (v :: ·) := by
  simp only [avsO, av_val]; cases avsO r <;> rfl
theorem avsO_cons {x : Slot} {v : AV} (h : x.av = some v) (r : List (Option Slot)) : avsO (some x :: r) = (avsO r).map (v :: ·) := by
  simp only [avsO, h]; cases avsO r <;> rfl
def tupO (o : Option (List AV)) : Option Slot := match o with | some l => some (.val (.tup l)) | none => none
@[go_sem] theorem tupO_some (l : List AV) : tupO (some l) = some (.val (.tup l)) := id rfl
@[go_sem] theorem tupS_eq (rs : List (Option Slot)) : tupS rs = tupO (avsO rs) := id rfl
theorem extractS_tup {l : List AV} {i : Nat} {v : AV} (h : l[i]? = some v) : extractS (.val (.tup l)) i = some (.val v) := by simp only [extractS, h]
@[go_sem] theorem ext_tup0 (a : AV) (l : List AV) : extractS (.val (.tup (a :: l))) 0 = some (.val a) := id rfl
@[go_sem] theorem ext_tup1 (a b : AV) (l : List AV) : extractS (.val (.tup (a :: b :: l))) 1 = some (.val b) := id rfl
@[go_sem] theorem ext_tup2 (a b c : AV) (l : List AV) : extractS (.val (.tup (a :: b :: c :: l))) 2 = some (.val c) := id rfl
/-! ### calls -/
theorem cal_fn (cl : CallFn) (f : FuncId) (caps : List AV) (args : List Slot) (s : St) : cal cl true (tgtV (.val (.fn f caps)) args) s = match avs args with | some l => cl (.f f) (l ++ caps) s | none => none := by
  unfold tgtV
  cases avs args <;> rfl
@[go_sem] theorem cal_yld (cl : CallFn) (loc : Nat) (args : List Slot) (s : St) : cal cl true (tgtV (.val (.yld loc)) args) s = match avs args with | some l => cl (.y loc) l s | none => none := by
  unfold tgtV
  cases avs args <;> rfl
/-- a guarded call -/
def gdR (b : Bool) (r : Res) (s : St) : Res := bif b then r else some (.ret .no, s)
@[go_sem] theorem gdR_true (r : Res) (s : St) : gdR true r s = r := id rfl
@[go_sem] theorem gdR_false (r : Res) (s : St) : gdR false r s = some (.ret .no, s) := id rfl
@[go_sem] theorem gdR_some (b : Bool) (v : Slot) (s : St) : gdR b (some (.ret v, s)) s = some (.ret (gdV b v), s) := by cases b <;> rfl
@[congr] theorem gdR_congr {b b' : Bool} {r r' : Res} {s : St} (h : b = b') (g : b' = true → r = r') : gdR b r s = gdR b' r' s := by
  subst h; cases b
  · rfl
  · rw [g rfl]
def argC (cl : CallFn) (f : FuncId) (caps : List AV) (o : Option (List AV)) (s : St) : Res := match o with | some l => cl (.f f) (l ++ caps) s | none => none
@[go_sem] theorem argC_some (cl : CallFn) (f : FuncId) (caps l : List AV) (s : St) : argC cl f caps (some l) s = cl (.f f) (l ++ caps) s := id rfl
@[go_sem] theorem gdR_1 (cl : CallFn) (f : FuncId) (caps : List AV) (b : Bool) (x : Slot) (r : List Slot) (s : St) : gdR b (argC cl f caps (avs (gdV b x :: r)) s) s = gdR b (argC cl f caps (avs (x :: r)) s) s := by cases b <;> rfl
@[go_sem] theorem gdR_2 (cl : CallFn) (f : FuncId) (caps : List AV) (b : Bool) (x : Slot) (r : List Slot) (g : List AV → List AV) (s : St) : gdR b (argC cl f caps ((avs (gdV b x :: r)).map g) s) s = gdR b (argC cl f caps ((avs (x :: r)).map g) s) s := by cases b <;> rfl
@[go_sem] theorem gdR_3 (cl : CallFn) (f : FuncId) (caps : List AV) (b : Bool) (x : Slot) (r : List Slot) (g h : List AV → List AV) (s : St) : gdR b (argC cl f caps (((avs (gdV b x :: r)).map g).map h) s) s = gdR b (argC cl f caps (((avs (x :: r)).map g).map h) s) s := by cases b <;> rfl
@[go_sem] theorem cal_gd (cl : CallFn) (w : Bool) (f : FuncId) (caps : List AV) (args : List Slot) (s : St) : cal cl w (tgtV (.val (.fn f caps)) args) s = gdR w (argC cl f caps (avs args) s) s := by
  cases w
  · rfl
  · rw [cal_fn]; rfl
@[go_sem] theorem cal_false (cl : CallFn) (t : Option (Callee × List AV)) (s : St) : cal cl false t s = some (.ret .no, s) := id rfl
/-! ### states -/
/-- a state that has grown: all that was is as it was -/
def Grew (s s' : St) : Prop := (∃ a, s'.locs = s.locs ++ a) ∧ ∃ b, s'.toks = s.toks ++ b
theorem Grew.refl (s : St) : Grew s s := ⟨⟨[], by simp⟩, ⟨[], by simp⟩⟩
theorem Grew.trans {a b c : St} (h : Grew a b) (k : Grew b c) : Grew a c := by
  obtain ⟨⟨x, hx⟩, ⟨y, hy⟩⟩ := h
  obtain ⟨⟨u, hu⟩, ⟨v, hv⟩⟩ := k
  exact ⟨⟨x ++ u, by rw [hu, hx, List.append_assoc]⟩, ⟨y ++ v, by rw [hv, hy, List.append_assoc]⟩⟩
theorem Grew.tok {s s' : St} (h : Grew s s') {k n : Nat} (hk : s.toks[k]? = some n) : s'.toks[k]? = some n := by
  obtain ⟨_, b, hb⟩ := h
  rw [hb, List.getElem?_append_left (List.getElem?_eq_some_iff.1 hk).1]
  exact hk
theorem Grew.toksLe {s s' : St} (h : Grew s s') : s.toks.length ≤ s'.toks.length := by
  obtain ⟨_, b, hb⟩ := h
  rw [hb]; simp
theorem Grew.loc {s s' : St} (h : Grew s s') {k : Nat} {o : Obj} (hk : s.locs[k]? = some o) : s'.locs[k]? = some o := by
  obtain ⟨⟨a, ha⟩, _⟩ := h
  rw [ha, List.getElem?_append_left (List.getElem?_eq_some_iff.1 hk).1]
  exact hk
theorem Grew.locsLe {s s' : St} (h : Grew s s') : s.locs.length ≤ s'.locs.length := by
  obtain ⟨⟨a, ha⟩, _⟩ := h
  rw [ha]; simp
/-- a slice that has been made since s0, and may be appended to in place -/
structure AccR (e : TypeId) (s0 s : St) (x : Slot) (l : List AV) : Prop where
  grew : Grew s0 s
  is : (x = .val .nils ∧ l = []) ∨ x = .full l ∨ ∃ k, x = .own k e l ∧ s0.toks.length ≤ k ∧ s.toks[k]? = some l.length
theorem AccR.list? {e : TypeId} {s0 s : St} {x : Slot} {l : List AV} (h : AccR e s0 s x l) : x.list? = some l := by
  rcases h.is with ⟨rfl, rfl⟩ | rfl | ⟨k, rfl, _⟩ <;> rfl
theorem AccR.av {e : TypeId} {s0 s : St} {x : Slot} {l : List AV} (h : AccR e s0 s x l) : ∃ nl, x.av = some (encS nl l) := by
  rcases h.is with ⟨rfl, rfl⟩ | rfl | ⟨k, rfl, _⟩
  · exact ⟨true, rfl⟩
  · exact ⟨false, rfl⟩
  · exact ⟨false, rfl⟩
theorem AccR.cellOk {e : TypeId} {s0 s : St} {x : Slot} {l : List AV} (h : AccR e s0 s x l) : x.cellOk = true := by
  rcases h.is with ⟨rfl, rfl⟩ | rfl | ⟨k, rfl, _⟩ <;> rfl
theorem AccR.move {e : TypeId} {s0 s s' : St} {x : Slot} {l : List AV} (h : AccR e s0 s x l) (g : Grew s s') : AccR e s0 s' x l := by
  refine ⟨h.grew.trans g, ?_⟩
  rcases h.is with hx | hx | ⟨k, hx, h1, h2⟩
  · exact .inl hx
  · exact .inr (.inl hx)
  · exact .inr (.inr ⟨k, hx, h1, g.tok h2⟩)
theorem AccR.nil (e : TypeId) (s : St) : AccR e s s (.val .nils) [] := ⟨.refl s, .inl ⟨rfl, rfl⟩⟩
theorem AccR.full (e : TypeId) (s : St) (l : List AV) : AccR e s s (.full l) l := ⟨.refl s, .inr (.inl rfl)⟩
/-- seen from an earlier state -/
theorem AccR.weaken {e : TypeId} {s0 s1 s : St} {x : Slot} {l : List AV} (h : AccR e s1 s x l) (g : Grew s0 s1) : AccR e s0 s x l := by
  refine ⟨g.trans h.grew, ?_⟩
  rcases h.is with hx | hx | ⟨k, hx, h1, h2⟩
  · exact .inl hx
  · exact .inr (.inl hx)
  · exact .inr (.inr ⟨k, hx, Nat.le_trans g.toksLe h1, h2⟩)
theorem Grew.pushTok {s0 s : St} (h : Grew s0 s) (n : Nat) : Grew s0 { s with toks := s.toks ++ [n] } := by
  obtain ⟨ha, b, hb⟩ := h
  exact ⟨ha, b ++ [n], by simp [go_sem, hb]⟩
theorem Grew.setTok {s0 s : St} (h : Grew s0 s) {k : Nat} (hk : s0.toks.length ≤ k) (n : Nat) : Grew s0 { s with toks := s.toks.set k n } := by
  obtain ⟨ha, b, hb⟩ := h
  refine ⟨ha, b.set (k - s0.toks.length) n, ?_⟩
  simp only [hb]
  rw [List.set_append_right _ _ hk]
theorem Grew.addLoc {s0 s : St} (h : Grew s0 s) (o : Obj) : Grew s0 (s.addLoc o) := by
  obtain ⟨⟨a, ha⟩, hb⟩ := h
  exact ⟨⟨a ++ [o], by simp [go_sem, St.addLoc, ha]⟩, hb⟩
theorem okSz_of {sz : Nat} {l : List AV} (h : ∀ v ∈ l, v.cells.length = sz) (h0 : 0 < sz) : okSz sz l = true := by
  unfold okSz
  simp only [Bool.and_eq_true, List.all_eq_true, beq_iff_eq]
  exact ⟨h, by simpa using h0⟩
/-- APPEND, to such a slice -/
theorem AccR.append {e : TypeId} {t : TI} {s0 s : St} {x y : Slot} {l m : List AV} (h : AccR e s0 s x l) (hy : y.list? = some m) (hl : ∀ v ∈ l, v.cells.length = t.size) (hm : ∀ v ∈ m, v.cells.length = t.size) (h0 : 0 < t.size)
    (b1 : (l.length + m.length) * t.bytes ≤ 140737488355328) (b2 : l.length + m.length ≤ 9223372036854775807) : ∃ x' s', appendS e t s x y = some (x', s') ∧ AccR e s0 s' x' (l ++ m) := by
  unfold appendS
  rw [hy]
  cases m with
  | nil =>
    simp only [h.list?]
    exact ⟨x, s, rfl, by simpa using h⟩
  | cons a m =>
    simp only [okSz_of hm h0, cond_true]
    rcases h.is with ⟨rfl, rfl⟩ | rfl | ⟨k, rfl, h1, h2⟩
    · simp only []
      rw [if_pos ⟨by simpa using b1, by simpa using b2⟩]
      exact ⟨_, _, rfl, h.grew.pushTok _, .inr (.inr ⟨s.toks.length, rfl, h.grew.toksLe, by simp⟩)⟩
    · simp only [okSz_of hl h0, cond_true]
      rw [if_pos ⟨b1, b2⟩]
      exact ⟨_, _, rfl, h.grew.pushTok _, .inr (.inr ⟨s.toks.length, rfl, h.grew.toksLe, by simp⟩)⟩
    · simp only [okSz_of hl h0, cond_true]
      have hlt := (List.getElem?_eq_some_iff.1 h2).1
      rw [if_pos ⟨trivial, h2, b1, b2⟩]
      exact ⟨_, _, rfl, h.grew.setTok h1 _, .inr (.inr ⟨k, rfl, h1, by simp [go_sem, hlt]⟩)⟩
/-- what a call gives: a value, the state grown -/
def Ret (r : Res) (s : St) (v : AV) : Prop := ∃ s', r = some (.ret (.val v), s') ∧ Grew s s'
/-- .. a slice made anew -/
def RetA (r : Res) (e : TypeId) (s : St) (l : List AV) : Prop := ∃ x s', r = some (.ret x, s') ∧ AccR e s s' x l
theorem Ret.mk {s s' : St} {v : AV} (h : Grew s s') : Ret (some (.ret (.val v), s')) s v := ⟨s', rfl, h⟩
theorem Ret.same (s : St) (v : AV) : Ret (some (.ret (.val v), s)) s v := ⟨s, rfl, .refl s⟩
theorem RetA.mk {e : TypeId} {s s' : St} {x : Slot} {l : List AV} (h : AccR e s s' x l) : RetA (some (.ret x, s')) e s l := ⟨x, s', rfl, h⟩
theorem Ret.call {r : Res} {s : St} {v : AV} {k : Slot → St → Res} {Q : Res → Prop} (h : Ret r s v) (hk : ∀ s', Grew s s' → Q (k (.val v) s')) : Q (back r k) := by
  obtain ⟨s', rfl, g⟩ := h
  exact hk s' g
theorem Ret.callN {r : Res} {s : St} {v : AV} {k : Slot → St → Res} {Q : Res → Prop} (h : Ret r s v) (hk : ∀ s', Grew s s' → Q (k (.val v) s')) : Q (back (noPan r) k) := by
  obtain ⟨s', rfl, g⟩ := h
  exact hk s' g
theorem RetA.call {r : Res} {e : TypeId} {s : St} {l : List AV} {k : Slot → St → Res} {Q : Res → Prop} (h : RetA r e s l) (hk : ∀ x s', AccR e s s' x l → Q (k x s')) : Q (back r k) := by
  obtain ⟨x, s', rfl, g⟩ := h
  exact hk x s' g
theorem RetA.callN {r : Res} {e : TypeId} {s : St} {l : List AV} {k : Slot → St → Res} {Q : Res → Prop} (h : RetA r e s l) (hk : ∀ x s', AccR e s s' x l → Q (k x s')) : Q (back (noPan r) k) := by
  obtain ⟨x, s', rfl, g⟩ := h
  exact hk x s' g
theorem AccR.appendF {α : Type} {f : α → AV} {e : TypeId} {t : TI} {s0 s : St} {x y : Slot} {A B : List α} (h : AccR e s0 s x (A.map f)) (hy : y.list? = some (B.map f)) (hf : ∀ a, (f a).cells.length = t.size) (h0 : 0 < t.size)
    (b : A.length + B.length < 2^30) (hb : t.bytes ≤ 2^16) : ∃ x' s', appendS e t s x y = some (x', s') ∧ AccR e s0 s' x' ((A ++ B).map f) := by
  have h1 : (A.length + B.length) * t.bytes ≤ 2^30 * 2^16 := Nat.mul_le_mul (Nat.le_of_lt b) hb
  have := AccR.append (m := B.map f) h hy (t := t) (fun v hv => by obtain ⟨a, _, rfl⟩ := List.mem_map.1 hv; exact hf a) (fun v hv => by obtain ⟨a, _, rfl⟩ := List.mem_map.1 hv; exact hf a) h0 (by simp only [List.length_map]; omega) (by simp only [List.length_map]; omega)
  simpa using this
/-- a round over a list: what the loop's head and its element come to -/
theorem step_facts {α : Type} {f : α → AV} {L pre suf : List α} {t : α} {x : Slot} {sz : Nat} (hx : x.list? = some (L.map f)) (h : pre ++ t :: suf = L) (hl : L.length < 2^62) (hs : (f t).cells.length = sz) (h0 : 0 < sz) :
    decide ((pre.length : Int) < (L.length : Int)) = true ∧ ixS sz x (.val (.int .i64 (pre.length : Int))) = some (.val (.cp (f t).cells)) ∧ IntKind.i64.wrap ((pre.length : Int) + 1) = ((pre.length + 1 : Nat) : Int) := by
  have hlt : pre.length < L.length := by rw [← h]; simp
  refine ⟨by simpa using hlt, ixS_get hx (by rw [← h]; simp) hs h0, ?_⟩
  rw [wrap64 (by omega) (by omega)]
  rfl
theorem end_facts {α : Type} {L pre : List α} (h : pre = L) : decide ((pre.length : Int) < (L.length : Int)) = false := by subst h; simp
end Go.Am

namespace Go.Am
open Go
@[go_sem] theorem fieldS_agg {t ft : TI} {off : Nat} {l : List AV} (h : 1 ≤ ft.size) : fieldS t ft off (.val (.agg l)) = (ofCells ft ((l.drop off).take ft.size)).map .val := by
  simp only [fieldS, if_pos (show 0 < ft.size from h)]; cases ofCells ft ((l.drop off).take ft.size) <;> rfl
@[go_sem] theorem optmap_some {α β : Type} (f : α → β) (a : α) : (some a).map f = some (f a) := id rfl
theorem ldV_vp {t : TI} {s : St} {loc off : Nat} {cs : List Slot} (h : s.locs[loc]? = some (.var cs)) : ldV t false s (.val (.vp loc off)) = ofSlots t ((cs.drop off).take t.size) := by simp [ldV, h]
theorem stV_vp {s : St} {loc off : Nat} {cs c : List Slot} (h : s.locs[loc]? = some (.var cs)) (g : off + c.length ≤ cs.length) : stV s (.val (.vp loc off)) c = some { s with locs := s.locs.set loc (.var (cs.take off ++ (c ++ cs.drop (off + c.length)))) } := by
  simp only [stV, h, putAt, if_pos g]
theorem set_at {α : Type} {l : List α} {i : Nat} {a b : α} (h : l[i]? = some a) : (l.set i b)[i]? = some b := by
  have := (List.getElem?_eq_some_iff.1 h).1
  simp [this]
@[go_sem] theorem len_addLoc (s : St) (o : Obj) : (s.addLoc o).locs.length = s.locs.length + 1 := by simp [St.addLoc]
@[go_sem] theorem toks_addLoc (s : St) (o : Obj) : (s.addLoc o).toks = s.toks := id rfl
theorem at_addLoc (s : St) (o : Obj) : (s.addLoc o).locs[s.locs.length]? = some o := by simp [St.addLoc]
theorem stV_new (s : St) (o c : List Slot) (h : c.length = o.length) : stV (s.addLoc (.var o)) (.val (.vp s.locs.length 0)) c = some (s.addLoc (.var c)) := by
  rw [stV_vp (cs := o) (at_addLoc _ _) (by omega)]
  simp [St.addLoc, h]
@[go_sem] theorem stV_new1 (s : St) (o c : Slot) : stV (s.addLoc (.var [o])) (.val (.vp s.locs.length 0)) [c] = some (s.addLoc (.var [c])) := stV_new s [o] [c] rfl
@[go_sem] theorem stV_new2 (s : St) (a : Obj) (o c : Slot) : stV ((s.addLoc a).addLoc (.var [o])) (.val (.vp (s.locs.length + 1) 0)) [c] = some ((s.addLoc a).addLoc (.var [c])) := by
  have := stV_new1 (s.addLoc a) o c
  rwa [len_addLoc] at this
def fnO (f : FuncId) (o : Option (List AV)) : Option Slot := match o with | some l => some (.val (.fn f l)) | none => none
@[go_sem] theorem fnO_some (f : FuncId) (l : List AV) : fnO f (some l) = some (.val (.fn f l)) := id rfl
@[go_sem] theorem fnS_eq (f : FuncId) (xs : List Slot) : fnS f xs = fnO f (avs xs) := by unfold fnS; cases avs xs <;> rfl
theorem isKey_int {t : TI} {k : IntKind} (h : t.k = .int k) (n : Int) : isKey t (.int k n) = true := by simp [isKey, h, TK.has]
theorem isKey_str {t : TI} (h : t.k = .str) (l : List UInt8) : isKey t (.str l) = true := by simp [isKey, h, TK.has]
theorem zeroV_one {t : TI} {z : AV} (hg : t.isGood = true) (ha : t.isAgg = false) (hz : t.zero = [z]) : t.zeroV = some z := by simp [TI.zeroV, hg, ofCells, ha, hz]
theorem zeroV_agg {t : TI} {l : List AV} (hg : t.isGood = true) (ha : t.isAgg = true) (hz : t.zero = l) (hl : l.length = t.size) : t.zeroV = some (.agg l) := by simp [TI.zeroV, hg, ofCells, ha, hz, hl]
/-! ### what turns -/
/-- from s to s' only the variables in A turned, and the tokens in h; h' are tokens of h, or new ones -/
structure Moves (A h h' : List Nat) (s s' : St) : Prop where
  tl : s.toks.length ≤ s'.toks.length
  tk : ∀ k, k < s.toks.length → k ∉ h → s'.toks[k]? = s.toks[k]?
  new : ∀ k ∈ h', k ∈ h ∨ s.toks.length ≤ k
  ll : s.locs.length ≤ s'.locs.length
  lk : ∀ i, i < s.locs.length → i ∉ A → s'.locs[i]? = s.locs[i]?
theorem Moves.refl (A h : List Nat) (s : St) : Moves A h h s s := ⟨Nat.le_refl _, fun _ _ _ => rfl, fun _ h => .inl h, Nat.le_refl _, fun _ _ _ => rfl⟩
theorem Moves.trans {A h h' h'' : List Nat} {s s' s'' : St} (a : Moves A h h' s s') (b : Moves A h' h'' s' s'') : Moves A h h'' s s'' where
  tl := Nat.le_trans a.tl b.tl
  tk := fun k hk hn => by
    have h1 := a.tl
    rw [b.tk k (by omega) (fun hm => (a.new k hm).elim hn (fun h => by omega)), a.tk k hk hn]
  new := fun k hk => (b.new k hk).elim (a.new k) (fun h => .inr (Nat.le_trans a.tl h))
  ll := Nat.le_trans a.ll b.ll
  lk := fun i hi hn => by
    have h1 := a.ll
    rw [b.lk i (by omega) hn, a.lk i hi hn]
theorem Moves.grew {s s' : St} (A h : List Nat) (g : Grew s s') : Moves A h h s s' :=
  ⟨g.toksLe, fun k hk _ => by rw [List.getElem?_eq_getElem hk]; exact g.tok (List.getElem?_eq_getElem hk), fun _ h => .inl h, g.locsLe, fun i hi _ => by rw [List.getElem?_eq_getElem hi]; exact g.loc (List.getElem?_eq_getElem hi)⟩
theorem grew_of_get {α : Type} {l m : List α} (h : l.length ≤ m.length) (g : ∀ i, i < l.length → m[i]? = l[i]?) : ∃ a, m = l ++ a := by
  refine ⟨m.drop l.length, List.ext_getElem? fun i => ?_⟩
  by_cases hi : i < l.length
  · rw [List.getElem?_append_left hi, g i hi]
  · rw [List.getElem?_append_right (by omega), List.getElem?_drop]; congr 1; omega
theorem Moves.toGrew {s s' : St} (m : Moves [] [] [] s s') : Grew s s' :=
  ⟨grew_of_get m.ll fun i hi => m.lk i hi (by simp), grew_of_get m.tl fun i hi => m.tk i hi (by simp)⟩
theorem Moves.wider {A A' h h' : List Nat} {s s' : St} (m : Moves A h h' s s') (hA : ∀ i ∈ A, i ∈ A') : Moves A' h h' s s' :=
  ⟨m.tl, m.tk, m.new, m.ll, fun i hi hn => m.lk i hi fun h => hn (hA i h)⟩
theorem Moves.loc {A h h' : List Nat} {s s' : St} (m : Moves A h h' s s') {i : Nat} {o : Obj} (hi : s.locs[i]? = some o) (hn : i ∉ A) : s'.locs[i]? = some o := by
  rw [m.lk i (List.getElem?_eq_some_iff.1 hi).1 hn]; exact hi
theorem Moves.tok {A h h' : List Nat} {s s' : St} (m : Moves A h h' s s') {i n : Nat} (hi : s.toks[i]? = some n) (hn : i ∉ h) : s'.toks[i]? = some n := by
  rw [m.tk i (List.getElem?_eq_some_iff.1 hi).1 hn]; exact hi
theorem Moves.drop {A h h' : List Nat} {s s' : St} (m : Moves A h h' s s') : Moves A h h s s' := ⟨m.tl, m.tk, fun _ h => .inl h, m.ll, m.lk⟩
/-- the tokens that are new in between are no one's -/
theorem Moves.shrink {A h : List Nat} {s s' : St} {h' : List Nat} (m : Moves A h h' s s') {g : List Nat} (hg : ∀ k ∈ g, k ∈ h') : Moves A h g s s' := ⟨m.tl, m.tk, fun k hk => m.new k (hg k hk), m.ll, m.lk⟩
theorem Moves.setLoc {A h h' : List Nat} {s s' : St} (m : Moves A h h' s s') {i : Nat} (hi : i ∈ A ∨ s.locs.length ≤ i) (o : Obj) : Moves A h h' s { s' with locs := s'.locs.set i o } :=
  ⟨m.tl, m.tk, m.new, by simpa using m.ll, fun j hj hn => by
    have : i ≠ j := fun e => by subst e; exact hi.elim hn (fun h => by omega)
    rw [List.getElem?_set_ne this]; exact m.lk j hj hn⟩
theorem Moves.addLoc {A h h' : List Nat} {s s' : St} (m : Moves A h h' s s') (o : Obj) : Moves A h h' s (s'.addLoc o) :=
  m.trans (Moves.grew _ _ ((Grew.refl s').addLoc o))
/-- seen from an earlier state: what is new since then is its own -/
theorem Moves.since {A B h g g' : List Nat} {s0 s s' : St} (m : Moves A h h s0 s) (c : Moves B g g' s s') (hB : ∀ i ∈ B, i ∈ A ∨ s0.locs.length ≤ i) (hg : ∀ k ∈ g, k ∈ h ∨ s0.toks.length ≤ k) : Moves A h h s0 s' where
  tl := Nat.le_trans m.tl c.tl
  tk := fun k hk hn => by
    have := m.tl
    rw [c.tk k (by omega) (fun hm => (hg k hm).elim hn (fun h => by omega)), m.tk k hk hn]
  new := fun _ h => .inl h
  ll := Nat.le_trans m.ll c.ll
  lk := fun i hi hn => by
    have := m.ll
    rw [c.lk i (by omega) (fun hm => (hB i hm).elim hn (fun h => by omega)), m.lk i hi hn]
/-! ### slices that are gathered: nil as long as they are empty -/
structure AccH (e : TypeId) (base : Nat) (h : List Nat) (s : St) (x : Slot) (l : List AV) : Prop where
  is : (x = .val .nils ∧ l = []) ∨ (x = .full l ∧ l ≠ []) ∨ ∃ k, x = .own k e l ∧ k ∉ h ∧ base ≤ k ∧ s.toks[k]? = some l.length ∧ l ≠ []
theorem AccH.nil (e : TypeId) (base : Nat) (h : List Nat) (s : St) : AccH e base h s (.val .nils) [] := ⟨.inl ⟨rfl, rfl⟩⟩
theorem AccH.list? {e : TypeId} {base : Nat} {h : List Nat} {s : St} {x : Slot} {l : List AV} (a : AccH e base h s x l) : x.list? = some l := by
  rcases a.is with ⟨rfl, rfl⟩ | ⟨rfl, _⟩ | ⟨k, rfl, _⟩ <;> rfl
theorem encS_true {l : List AV} (h : l ≠ []) : encS true l = .sl l := by cases l with | nil => exact absurd rfl h | cons a l => rfl
theorem encS_any {l : List AV} (h : l ≠ []) (a b : Bool) : encS a l = encS b l := by cases l with | nil => exact absurd rfl h | cons x l => simp only [encS_cons]
theorem AccH.av {e : TypeId} {base : Nat} {h : List Nat} {s : St} {x : Slot} {l : List AV} (a : AccH e base h s x l) : x.av = some (encS true l) := by
  rcases a.is with ⟨rfl, rfl⟩ | ⟨rfl, hl⟩ | ⟨k, rfl, _, _, _, hl⟩
  · rfl
  · rw [encS_true hl]; rfl
  · rw [encS_true hl]; rfl
theorem AccH.cellOk {e : TypeId} {base : Nat} {h : List Nat} {s : St} {x : Slot} {l : List AV} (a : AccH e base h s x l) : x.cellOk = true := by
  rcases a.is with ⟨rfl, rfl⟩ | ⟨rfl, _⟩ | ⟨k, rfl, _⟩ <;> rfl
theorem AccH.move {e : TypeId} {base : Nat} {A h h' : List Nat} {s s' : St} {x : Slot} {l : List AV} (a : AccH e base h s x l) (m : Moves A h h' s s') : AccH e base h' s' x l := by
  rcases a.is with hx | hx | ⟨k, hx, h1, h2, h3, h4⟩
  · exact ⟨.inl hx⟩
  · exact ⟨.inr (.inl hx)⟩
  · exact ⟨.inr (.inr ⟨k, hx, fun hk => (m.new k hk).elim h1 (fun h => by have := (List.getElem?_eq_some_iff.1 h3).1; omega), h2, m.tok h3 h1, h4⟩)⟩
/-- APPEND -/
theorem AccH.append {e : TypeId} {t : TI} {A h0 h : List Nat} {s0 s : St} {x y : Slot} {l m : List AV} (a : AccH e s0.toks.length h s x l) (M : Moves A h0 h s0 s) (hh : ∀ k ∈ h, k < s.toks.length) (hy : y.list? = some m) (hl : ∀ v ∈ l, v.cells.length = t.size) (hm : ∀ v ∈ m, v.cells.length = t.size) (h0' : 0 < t.size)
    (b1 : (l.length + m.length) * t.bytes ≤ 140737488355328) (b2 : l.length + m.length ≤ 9223372036854775807) :
    ∃ x' s', appendS e t s x y = some (x', s') ∧ AccH e s0.toks.length h s' x' (l ++ m) ∧ Moves A h0 h s0 s' ∧ s'.locs = s.locs ∧ (∀ k ∈ h, s'.toks[k]? = s.toks[k]?) ∧ (∀ k ∈ h, k < s'.toks.length) := by
  unfold appendS
  rw [hy]
  have push : ∀ n : Nat, Moves A h0 h s0 { s with toks := s.toks ++ [n] } ∧ (∀ k ∈ h, (s.toks ++ [n])[k]? = s.toks[k]?) ∧ ∀ k ∈ h, k < (s.toks ++ [n]).length := fun n =>
    ⟨M.trans (Moves.grew _ _ ((Grew.refl s).pushTok n)), fun k hk => List.getElem?_append_left (hh k hk), fun k hk => by have := hh k hk; simp; omega⟩
  cases m with
  | nil =>
    simp only [a.list?]
    exact ⟨x, s, rfl, by simpa using a, M, rfl, fun _ _ => rfl, hh⟩
  | cons q m =>
    simp only [okSz_of hm h0', cond_true]
    rcases a.is with ⟨rfl, rfl⟩ | ⟨rfl, hn⟩ | ⟨k, rfl, h1, h2, h3, h4⟩
    · simp only []
      rw [if_pos ⟨by simpa using b1, by simpa using b2⟩]
      obtain ⟨p1, p2, p3⟩ := push (q :: m).length
      exact ⟨_, _, rfl, ⟨.inr (.inr ⟨s.toks.length, rfl, fun hk => by have := hh _ hk; omega, M.tl, by simp, by simp⟩)⟩, p1, rfl, p2, p3⟩
    · simp only [okSz_of hl h0', cond_true]
      rw [if_pos ⟨b1, b2⟩]
      obtain ⟨p1, p2, p3⟩ := push (l.length + (q :: m).length)
      exact ⟨_, _, rfl, ⟨.inr (.inr ⟨s.toks.length, rfl, fun hk => by have := hh _ hk; omega, M.tl, by simp, by simp⟩)⟩, p1, rfl, p2, p3⟩
    · simp only [okSz_of hl h0', cond_true]
      have hlt := (List.getElem?_eq_some_iff.1 h3).1
      rw [if_pos ⟨trivial, h3, b1, b2⟩]
      refine ⟨_, _, rfl, ⟨.inr (.inr ⟨k, rfl, h1, h2, by simp [hlt], by simp⟩)⟩, ?_, rfl, fun j hj => ?_, fun j hj => by have := hh j hj; simpa using this⟩
      · refine ⟨by simpa using M.tl, fun j hj hn => ?_, M.new, M.ll, M.lk⟩
        rw [List.getElem?_set_ne (by omega)]; exact M.tk j hj hn
      · rw [List.getElem?_set_ne (fun e => h1 (by rw [e]; exact hj))]
theorem AccH.appendF {α : Type} {f : α → AV} {e : TypeId} {t : TI} {A0 h0 h : List Nat} {s0 s : St} {x y : Slot} {A B : List α} (a : AccH e s0.toks.length h s x (A.map f)) (M : Moves A0 h0 h s0 s) (hh : ∀ k ∈ h, k < s.toks.length) (hy : y.list? = some (B.map f)) (hf : ∀ a, (f a).cells.length = t.size) (h0' : 0 < t.size)
    (b : A.length + B.length < 2^30) (hb : t.bytes ≤ 2^16) : ∃ x' s', appendS e t s x y = some (x', s') ∧ AccH e s0.toks.length h s' x' ((A ++ B).map f) ∧ Moves A0 h0 h s0 s' ∧ s'.locs = s.locs ∧ (∀ k ∈ h, s'.toks[k]? = s.toks[k]?) ∧ (∀ k ∈ h, k < s'.toks.length) := by
  have h1 : (A.length + B.length) * t.bytes ≤ 2^30 * 2^16 := Nat.mul_le_mul (Nat.le_of_lt b) hb
  have := AccH.append (m := B.map f) a M hh hy (t := t) (fun v hv => by obtain ⟨a, _, rfl⟩ := List.mem_map.1 hv; exact hf a) (fun v hv => by obtain ⟨a, _, rfl⟩ := List.mem_map.1 hv; exact hf a) h0' (by simp only [List.length_map]; omega) (by simp only [List.length_map]; omega)
  simpa using this
/-! ### a slice that a variable holds -/
def HeldIs (e : TypeId) (s : St) (x : Slot) (l : List AV) (h : List Nat) : Prop :=
  (x = .val .nils ∧ l = [] ∧ h = []) ∨ (x = .full l ∧ l ≠ [] ∧ h = []) ∨ ∃ k, x = .own k e l ∧ h = [k] ∧ s.toks[k]? = some l.length ∧ l ≠ []
theorem HeldIs.list? {e : TypeId} {s : St} {x : Slot} {l : List AV} {h : List Nat} (a : HeldIs e s x l h) : x.list? = some l := by
  rcases a with ⟨rfl, rfl, _⟩ | ⟨rfl, _⟩ | ⟨k, rfl, _⟩ <;> rfl
theorem HeldIs.av {e : TypeId} {s : St} {x : Slot} {l : List AV} {h : List Nat} (a : HeldIs e s x l h) : x.av = some (encS true l) := by
  rcases a with ⟨rfl, rfl, _⟩ | ⟨rfl, hl, _⟩ | ⟨k, rfl, _, _, hl⟩
  · rfl
  · rw [encS_true hl]; rfl
  · rw [encS_true hl]; rfl
theorem HeldIs.cellOk {e : TypeId} {s : St} {x : Slot} {l : List AV} {h : List Nat} (a : HeldIs e s x l h) : x.cellOk = true := by
  rcases a with ⟨rfl, rfl, _⟩ | ⟨rfl, _⟩ | ⟨k, rfl, _⟩ <;> rfl
theorem HeldIs.held {e : TypeId} {s : St} {x : Slot} {l : List AV} {h : List Nat} (a : HeldIs e s x l h) : ∀ k ∈ h, k < s.toks.length := by
  rcases a with ⟨_, _, rfl⟩ | ⟨_, _, rfl⟩ | ⟨k, _, rfl, ht, _⟩ <;> intro k' hk
  · cases hk
  · cases hk
  · simp only [List.mem_singleton] at hk; subst hk; exact (List.getElem?_eq_some_iff.1 ht).1
theorem HeldIs.stab {e : TypeId} {s s' : St} {x : Slot} {l : List AV} {h : List Nat} (a : HeldIs e s x l h) (ht : ∀ k ∈ h, s'.toks[k]? = s.toks[k]?) : HeldIs e s' x l h := by
  rcases a with a | a | ⟨k, rfl, rfl, hk, hl⟩
  · exact .inl a
  · exact .inr (.inl a)
  · exact .inr (.inr ⟨k, rfl, rfl, by rw [ht k (by simp)]; exact hk, hl⟩)
theorem HeldIs.append {e : TypeId} {t : TI} {s : St} {x y : Slot} {l m : List AV} {h : List Nat} (a : HeldIs e s x l h) (hy : y.list? = some m) (hl : ∀ v ∈ l, v.cells.length = t.size) (hm : ∀ v ∈ m, v.cells.length = t.size) (h0 : 0 < t.size)
    (b1 : (l.length + m.length) * t.bytes ≤ 140737488355328) (b2 : l.length + m.length ≤ 9223372036854775807) :
    ∃ x' s' h', appendS e t s x y = some (x', s') ∧ HeldIs e s' x' (l ++ m) h' ∧ s'.locs = s.locs ∧ Moves [] h h' s s' := by
  unfold appendS
  rw [hy]
  cases m with
  | nil =>
    simp only [a.list?]
    exact ⟨x, s, h, rfl, by simpa using a, rfl, .refl _ _ _⟩
  | cons q m =>
    simp only [okSz_of hm h0, cond_true]
    have push : ∀ n : Nat, Moves [] h [s.toks.length] s { s with toks := s.toks ++ [n] } := fun n =>
      ⟨by simp, fun k hk _ => List.getElem?_append_left hk, fun k hk => .inr (by simp at hk; omega), Nat.le_refl _, fun _ _ _ => rfl⟩
    rcases a with ⟨rfl, rfl, rfl⟩ | ⟨rfl, hn, rfl⟩ | ⟨k, rfl, rfl, h3, h4⟩
    · simp only []
      rw [if_pos ⟨by simpa using b1, by simpa using b2⟩]
      exact ⟨_, _, _, rfl, .inr (.inr ⟨s.toks.length, rfl, rfl, by simp, by simp⟩), rfl, push _⟩
    · simp only [okSz_of hl h0, cond_true]
      rw [if_pos ⟨b1, b2⟩]
      exact ⟨_, _, _, rfl, .inr (.inr ⟨s.toks.length, rfl, rfl, by simp, by simp⟩), rfl, push _⟩
    · simp only [okSz_of hl h0, cond_true]
      have hlt := (List.getElem?_eq_some_iff.1 h3).1
      rw [if_pos ⟨trivial, h3, b1, b2⟩]
      refine ⟨_, _, [k], rfl, .inr (.inr ⟨k, rfl, rfl, by simp [hlt], by simp⟩), rfl, ⟨by simp, fun j hj hn => ?_, fun _ h => .inl h, Nat.le_refl _, fun _ _ _ => rfl⟩⟩
      simp only [List.mem_singleton] at hn
      rw [List.getElem?_set_ne (Ne.symm hn)]
theorem HeldIs.appendF {α : Type} {f : α → AV} {e : TypeId} {t : TI} {s : St} {x y : Slot} {A B : List α} {h : List Nat} (a : HeldIs e s x (A.map f) h) (hy : y.list? = some (B.map f)) (hf : ∀ a, (f a).cells.length = t.size) (h0 : 0 < t.size)
    (b : A.length + B.length < 2^30) (hb : t.bytes ≤ 2^16) : ∃ x' s' h', appendS e t s x y = some (x', s') ∧ HeldIs e s' x' ((A ++ B).map f) h' ∧ s'.locs = s.locs ∧ Moves [] h h' s s' := by
  have h1 : (A.length + B.length) * t.bytes ≤ 2^30 * 2^16 := Nat.mul_le_mul (Nat.le_of_lt b) hb
  have := HeldIs.append (m := B.map f) a hy (t := t) (fun v hv => by obtain ⟨a, _, rfl⟩ := List.mem_map.1 hv; exact hf a) (fun v hv => by obtain ⟨a, _, rfl⟩ := List.mem_map.1 hv; exact hf a) h0 (by simp only [List.length_map]; omega) (by simp only [List.length_map]; omega)
  simpa using this
/-! ### maps as functions -/
section
variable {K V : Type} [DecidableEq K]
def find3 (k : K) : List (K × V × Nat) → Nat → Option (Nat × V × Nat)
  | [], _ => none
  | (k', v, b) :: r, i => if k = k' then some (i, v, b) else find3 k r (i + 1)
def upd (g : K → Option V) (k : K) (v : V) : K → Option V := fun k' => if k' = k then some v else g k'
theorem upd_same (g : K → Option V) (k : K) (v : V) : upd g k v k = some v := by simp [upd]
theorem upd_ne (g : K → Option V) {k k' : K} (v : V) (h : k' ≠ k) : upd g k v k' = g k' := by simp [upd, h]
structure MapIs (ek : K → AV) (ev : V → AV) (g : K → Option V) (es : List (AV × AV × Nat)) (c : Nat) (D : List (K × V × Nat)) : Prop where
  eq : es = D.map fun p => (ek p.1, ev p.2.1, p.2.2)
  find : ∀ k, g k = (find3 k D 0).map (·.2.1)
  born : ∀ p ∈ D, p.2.2 < c
  nodup : (D.map (·.2.2)).Nodup
variable {ek : K → AV} {ev : V → AV} {g : K → Option V} {es : List (AV × AV × Nat)} {c : Nat} {D : List (K × V × Nat)}
def KeyEnc (ek : K → AV) : Prop := ∀ a b, (ek a).keyEq (ek b) = some (decide (a = b))
theorem keyInt : KeyEnc fun n : Int => AV.int .i64 n := fun a b => by simp [AV.keyEq]; rfl
theorem keyStr : KeyEnc fun n : List UInt8 => AV.str n := fun a b => by simp [AV.keyEq, beqd]
theorem MapIs.nil : MapIs ek ev (fun _ => none) [] 0 ([] : List (K × V × Nat)) := ⟨rfl, fun _ => rfl, by simp, by simp⟩
theorem findE_3 (hk : KeyEnc ek) (k : K) : ∀ (D : List (K × V × Nat)) (i : Nat), findE (ek k) (D.map fun p => (ek p.1, ev p.2.1, p.2.2)) i = some ((find3 k D i).map fun q => (q.1, ev q.2.1, q.2.2))
  | [], _ => rfl
  | (k', v, b) :: D, i => by
    simp only [List.map_cons, findE, hk k k', find3]
    by_cases h : k = k'
    · simp [h]
    · simp only [h, decide_false, if_false]; exact findE_3 hk k D (i + 1)
theorem find3_set {k : K} {v v0 : V} {b : Nat} : ∀ {D : List (K × V × Nat)} {i j : Nat}, find3 k D i = some (j, v0, b) → i ≤ j ∧ D[j - i]? = some (k, v0, b) ∧ ∀ k', find3 k' (D.set (j - i) (k, v, b)) i = if k' = k then some (j, v, b) else find3 k' D i
  | [], _, _, h => by cases h
  | (k0, v1, b1) :: D, i, j, h => by
    simp only [find3] at h
    by_cases hk : k = k0
    · simp only [hk, if_true] at h
      cases h
      refine ⟨Nat.le_refl _, by simp [hk], fun k' => ?_⟩
      simp only [Nat.sub_self, List.set_cons_zero, find3, hk]
      by_cases h2 : k' = k0 <;> simp [h2]
    · simp only [hk, if_false] at h
      obtain ⟨h1, h2, h3⟩ := find3_set (v := v) h
      refine ⟨by omega, by rw [show j - i = (j - (i + 1)) + 1 by omega]; simpa using h2, fun k' => ?_⟩
      rw [show j - i = (j - (i + 1)) + 1 by omega]
      simp only [List.set_cons_succ, find3, h3]
      by_cases e : k' = k0
      · have : k' ≠ k := fun e' => hk (by rw [← e', e])
        simp [e, this]
        intro e'; exact absurd e'.symm hk
      · simp [e]
theorem find3_push {k : K} {v : V} {b : Nat} : ∀ {D : List (K × V × Nat)} {i : Nat}, find3 k D i = none → ∀ k', find3 k' (D ++ [(k, v, b)]) i = if k' = k then some (i + D.length, v, b) else find3 k' D i
  | [], i, _, k' => by simp [find3]
  | (k0, v1, b1) :: D, i, h, k' => by
    simp only [find3] at h
    by_cases hk : k = k0
    · simp [hk] at h
    · simp only [hk, if_false] at h
      simp only [List.cons_append, find3, find3_push h, List.length_cons]
      by_cases e : k' = k0
      · have : k' ≠ k := fun e' => hk (by rw [← e', e])
        simp [e]
        intro e'; exact absurd e'.symm hk
      · simp only [e, if_false]; congr 2; simp; omega
theorem MapIs.update (M : MapIs ek ev g es c D) (hk : KeyEnc ek) (k : K) (v : V) :
    (∃ j v0 b, findE (ek k) es 0 = some (some (j, ev v0, b)) ∧ g k = some v0 ∧ b < c ∧ ∃ D', MapIs ek ev (upd g k v) (es.set j (ek k, ev v, b)) c D') ∨
    (findE (ek k) es 0 = some none ∧ g k = none ∧ ∃ D', MapIs ek ev (upd g k v) (es ++ [(ek k, ev v, c)]) (c + 1) D') := by
  obtain ⟨rfl, hf, hb, hn⟩ := M
  rw [findE_3 hk]
  cases h : find3 k D 0 with
  | none =>
    refine .inr ⟨rfl, by rw [hf, h]; rfl, D ++ [(k, v, c)], by simp, fun k' => ?_, fun p hp => ?_, ?_⟩
    · rw [find3_push h]
      by_cases e : k' = k
      · simp [e, upd]
      · simp [e, upd, hf]
    · rcases List.mem_append.1 hp with hp | hp
      · have := hb p hp; omega
      · simp at hp; subst hp; simp
    · rw [List.map_append]
      refine List.nodup_append.2 ⟨hn, by simp, fun a ha b' hb' => ?_⟩
      simp only [List.map_cons, List.map_nil, List.mem_singleton] at hb'
      obtain ⟨p, hp, rfl⟩ := List.mem_map.1 ha
      have := hb p hp; omega
  | some q =>
    obtain ⟨j, v0, b⟩ := q
    obtain ⟨-, h2, h3⟩ := find3_set (v := v) h
    simp only [Nat.sub_zero] at h2 h3
    refine .inl ⟨j, v0, b, rfl, by rw [hf, h]; rfl, hb _ (List.mem_of_getElem? h2), D.set j (k, v, b), by simp [List.map_set], fun k' => ?_, fun p hp => ?_, ?_⟩
    · rw [h3]
      by_cases e : k' = k
      · simp [e, upd]
      · simp [e, upd, hf]
    · rcases List.mem_or_eq_of_mem_set hp with hp | rfl
      · exact hb p hp
      · have := hb _ (List.mem_of_getElem? h2); exact this
    · have : (D.set j (k, v, b)).map (·.2.2) = D.map (·.2.2) := by
        rw [List.map_set]
        refine List.ext_getElem? fun i => ?_
        rw [List.getElem?_set]
        by_cases e : j = i
        · subst e
          obtain ⟨hlt, hD⟩ := List.getElem?_eq_some_iff.1 h2
          simp [hlt, hD]
        · simp [e]
      rw [this]; exact hn
theorem find3_nth {k : K} {v0 : V} {b : Nat} {D : List (K × V × Nat)} {j : Nat} (h : find3 k D 0 = some (j, v0, b)) : D[j]? = some (k, v0, b) := by
  have := (find3_set (v := v0) h).2.1
  simpa using this
omit [DecidableEq K] in
theorem setBorn_3 {y : AV} : ∀ {D : List (K × V × Nat)} {j : Nat} {k : K} {v : V} {b : Nat}, D[j]? = some (k, v, b) → (D.map (·.2.2)).Nodup → setBorn (b : Int) y (D.map fun p => (ek p.1, ev p.2.1, p.2.2)) = some ((D.map fun p => (ek p.1, ev p.2.1, p.2.2)).set j (ek k, y, b))
  | [], j, k, v, b, h, _ => by simp at h
  | (k0, v0, b0) :: D, 0, k, v, b, h, _ => by
    simp at h
    obtain ⟨rfl, rfl, rfl⟩ := h
    simp [setBorn]
  | (k0, v0, b0) :: D, j + 1, k, v, b, h, hn => by
    simp only [List.getElem?_cons_succ] at h
    simp only [List.map_cons, List.nodup_cons] at hn
    have hne : b0 ≠ b := fun e => hn.1 (List.mem_map.2 ⟨_, List.mem_of_getElem? h, e.symm⟩)
    have hb : ((b0 : Int) == (b : Int)) = false := by simp; omega
    simp only [List.map_cons, setBorn, hb, cond_false, setBorn_3 h hn.2, List.set_cons_succ]
theorem lookupS_map (M : MapIs ek ev g es c D) (hk : KeyEnc ek) {kt et : TI} (k : K) (hkt : isKey kt (ek k) = true) {s : St} {loc : Nat} (hl : s.locs[loc]? = some (.map es c)) {z : AV} (hz : et.zeroV = some z) (ok : Bool) :
    lookupS kt et s (.val (.mp loc)) (.val (ek k)) ok = some (.val (match g k with | some v => (bif ok then .tup [ev v, .bool true] else ev v) | none => (bif ok then .tup [z, .bool false] else z))) := by
  obtain ⟨rfl, hf, hb, hn⟩ := M
  simp only [lookupS, av_val, hkt, if_true, hl, findE_3 hk, hf]
  cases h : find3 k D 0 with
  | none => simp [hz]
  | some q => simp
theorem updateS_map (M : MapIs ek ev g es c D) (hk : KeyEnc ek) {kt et : TI} (k : K) (hkt : isKey kt (ek k) = true) {s : St} {loc : Nat} (hl : s.locs[loc]? = some (.map es c)) {x : Slot} {v : V} (hx : x.av = some (ev v)) (hs : (ev v).cells.length = et.size) :
    ∃ es' c' D', updateS kt et s (.val (.mp loc)) (.val (ek k)) x = some (.no, { s with locs := s.locs.set loc (.map es' c') }) ∧ MapIs ek ev (upd g k v) es' c' D' := by
  rcases M.update hk k v with ⟨j, v0, b, h1, h2, h3, D', h4⟩ | ⟨h1, h2, D', h4⟩
  · exact ⟨_, _, D', by simp only [updateS, av_val, hx, hkt, hs, and_self, if_true, hl, h1], h4⟩
  · exact ⟨_, _, D', by simp only [updateS, av_val, hx, hkt, hs, and_self, if_true, hl, h1], h4⟩
/-- 'm[k] op= ..' -/
theorem entryS_map (M : MapIs ek ev g es c D) (hk : KeyEnc ek) {kt et : TI} (k : K) (hkt : isKey kt (ek k) = true) {s : St} {loc : Nat} (hl : s.locs[loc]? = some (.map es c)) {z0 : V} (hz : et.zeroV = some (ev z0)) :
    ∃ es1 c1 b, entryS kt et s (.val (.mp loc)) (.val (ek k)) = some (.val (.tup [ev ((g k).getD z0), .int .i64 (b : Nat)]), { s with locs := s.locs.set loc (.map es1 c1) }) ∧
      ∀ (s2 : St) (x : Slot) (v : V), s2.locs[loc]? = some (.map es1 c1) → x.av = some (ev v) → ∃ es' D', entrySt s2 (.val (.mp loc)) (.val (.int .i64 (b : Nat))) x = some (.no, { s2 with locs := s2.locs.set loc (.map es' c1) }) ∧ MapIs ek ev (upd g k v) es' c1 D' := by
  obtain ⟨rfl, hf, hb, hn⟩ := M
  have hborn : ∀ {D1 : List (K × V × Nat)} {j b c1 : Nat} {v1 : V} (v : V), D1[j]? = some (k, v1, b) → find3 k D1 0 = some (j, v1, b) → (D1.map (·.2.2)).Nodup → (∀ p ∈ D1, p.2.2 < c1) → (∀ k', k' ≠ k → (find3 k' D1 0).map (·.2.1) = g k') →
      ∀ (s2 : St) (x : Slot), s2.locs[loc]? = some (.map (D1.map fun p => (ek p.1, ev p.2.1, p.2.2)) c1) → x.av = some (ev v) → ∃ es' D', entrySt s2 (.val (.mp loc)) (.val (.int .i64 (b : Nat))) x = some (.no, { s2 with locs := s2.locs.set loc (.map es' c1) }) ∧ MapIs ek ev (upd g k v) es' c1 D' := by
    intro D1 j b c1 v1 v hj hf1 hn1 hb1 hother s2 x hl2 hx
    refine ⟨(D1.map fun p => (ek p.1, ev p.2.1, p.2.2)).set j (ek k, ev v, b), D1.set j (k, v, b), by simp only [entrySt, hx, hl2, setBorn_3 hj hn1], by simp [List.map_set], fun k' => ?_, fun p hp => ?_, ?_⟩
    · rw [show D1.set j (k, v, b) = D1.set (j - 0) (k, v, b) from rfl, (find3_set (v := v) hf1).2.2]
      by_cases e : k' = k
      · simp [e, upd]
      · simp [e, upd, hother k' e]
    · rcases List.mem_or_eq_of_mem_set hp with hp | rfl
      · exact hb1 p hp
      · have := hb1 _ (List.mem_of_getElem? hj); exact this
    · have : (D1.set j (k, v, b)).map (·.2.2) = D1.map (·.2.2) := by
        rw [List.map_set]
        refine List.ext_getElem? fun i => ?_
        rw [List.getElem?_set]
        by_cases e : j = i
        · subst e
          obtain ⟨hlt, hD⟩ := List.getElem?_eq_some_iff.1 hj
          simp [hlt, hD]
        · simp [e]
      rw [this]; exact hn1
  cases h : find3 k D 0 with
  | none =>
    refine ⟨_, c + 1, c, by simp only [entryS, av_val, hkt, if_true, hl, findE_3 hk, h, Option.map_none, hz, hf, Option.getD_none]; rfl, fun s2 x v hl2 hx => ?_⟩
    have hp := find3_push (v := z0) (b := c) h
    refine hborn (D1 := D ++ [(k, z0, c)]) (j := D.length) (v1 := z0) v (by simp) (by rw [hp]; simp) ?_ (fun p hp => ?_) (fun k' hk' => by rw [hp, if_neg hk', hf]) s2 x (by rw [hl2]; simp) hx
    · rw [List.map_append]
      refine List.nodup_append.2 ⟨hn, by simp, fun a ha b' hb' => ?_⟩
      simp only [List.map_cons, List.map_nil, List.mem_singleton] at hb'
      obtain ⟨p, hp, rfl⟩ := List.mem_map.1 ha
      have := hb p hp; omega
    · rcases List.mem_append.1 hp with hp | hp
      · have := hb p hp; omega
      · simp at hp; subst hp; simp
  | some q =>
    obtain ⟨j, v0, b⟩ := q
    have hj := find3_nth h
    refine ⟨_, c, b, by simp only [entryS, av_val, hkt, if_true, hl, findE_3 hk, h, Option.map_some, hf, Option.getD_some]; rfl, fun s2 x v hl2 hx => ?_⟩
    have hself : (D.map fun p => (ek p.1, ev p.2.1, p.2.2)).set j (ek k, ev v0, b) = D.map fun p => (ek p.1, ev p.2.1, p.2.2) := by
      refine List.ext_getElem? fun i => ?_
      rw [List.getElem?_set]
      by_cases e : j = i
      · subst e
        obtain ⟨hlt, hD⟩ := List.getElem?_eq_some_iff.1 hj
        simp [hlt, hD]
      · simp [e]
    rw [hself] at hl2
    exact hborn (D1 := D) v hj h hn hb (fun k' _ => (hf k').symm) s2 x hl2 hx
end
end Go.Am

namespace Go.Am
open Go
abbrev Str := List UInt8
/-! ### types -/
inductive Ty where
  | mk (kind n : Int) (name : Str) (args : List Ty) (nl : Bool)
  deriving Inhabited
namespace Ty
def kind : Ty → Int | mk k _ _ _ _ => k
def n : Ty → Int | mk _ n _ _ _ => n
def name : Ty → Str | mk _ _ s _ _ => s
def args : Ty → List Ty | mk _ _ _ l _ => l
def nl : Ty → Bool | mk _ _ _ _ b => b
mutual
def cells : Ty → List AV
  | mk k n s l b => [.int .i64 k, .int .i64 n, .str s, encS b (encs l)]
def encs : List Ty → List AV
  | [] => []
  | t :: l => .agg t.cells :: encs l
end
abbrev enc (t : Ty) : AV := .agg t.cells
theorem encs_map : ∀ l : List Ty, encs l = l.map enc
  | [] => rfl
  | t :: l => by rw [encs, encs_map l]; rfl
theorem cells_eq (t : Ty) : t.cells = [.int .i64 t.kind, .int .i64 t.n, .str t.name, encS t.nl (t.args.map enc)] := by
  cases t; rw [cells, encs_map]; rfl
@[go_sem] theorem cells_mk (k n : Int) (s : Str) (l : List Ty) (b : Bool) : (mk k n s l b).cells = [.int .i64 k, .int .i64 n, .str s, encS b (l.map enc)] := cells_eq _
@[go_sem] theorem cells_len (t : Ty) : t.cells.length = 4 := by rw [cells_eq]; rfl
mutual
def size : Ty → Nat
  | mk _ _ _ l _ => sizes l + 1
def sizes : List Ty → Nat
  | [] => 0
  | t :: l => t.size + sizes l
end
def zero : Ty := mk 0 0 [] [] true
end Ty
/-! ### patterns -/
inductive Pat where
  | mk (kind at_ : Int) (name : Str) (n : Int) (kids : List Pat) (kb : Bool)
  deriving Inhabited
namespace Pat
def kind : Pat → Int | mk k _ _ _ _ _ => k
def at_ : Pat → Int | mk _ a _ _ _ _ => a
def name : Pat → Str | mk _ _ s _ _ _ => s
def n : Pat → Int | mk _ _ _ n _ _ => n
def kids : Pat → List Pat | mk _ _ _ _ l _ => l
def kb : Pat → Bool | mk _ _ _ _ _ b => b
mutual
def cells : Pat → List AV
  | mk k a s n l b => [.int .i64 k, .int .i64 a, .str s, .int .i64 n, encS b (encs l)]
def encs : List Pat → List AV
  | [] => []
  | t :: l => .agg t.cells :: encs l
end
abbrev enc (t : Pat) : AV := .agg t.cells
theorem encs_map : ∀ l : List Pat, encs l = l.map enc
  | [] => rfl
  | t :: l => by rw [encs, encs_map l]; rfl
theorem cells_eq (t : Pat) : t.cells = [.int .i64 t.kind, .int .i64 t.at_, .str t.name, .int .i64 t.n, encS t.kb (t.kids.map enc)] := by
  cases t; rw [cells, encs_map]; rfl
@[go_sem] theorem cells_mk (k a : Int) (s : Str) (n : Int) (l : List Pat) (b : Bool) : (mk k a s n l b).cells = [.int .i64 k, .int .i64 a, .str s, .int .i64 n, encS b (l.map enc)] := cells_eq _
@[go_sem] theorem cells_len (t : Pat) : t.cells.length = 5 := by rw [cells_eq]; rfl
mutual
def size : Pat → Nat
  | mk _ _ _ _ l _ => sizes l + 1
def sizes : List Pat → Nat
  | [] => 0
  | t :: l => t.size + sizes l
end
def zero : Pat := mk 0 0 [] 0 [] true
end Pat
/-! ### constructors -/
structure Con where
  name : Str
  at_ : Int
  has : Bool
  arg : Ty
  deriving Inhabited
namespace Con
def cells (c : Con) : List AV := .str c.name :: .int .i64 c.at_ :: .bool c.has :: c.arg.cells
abbrev enc (c : Con) : AV := .agg c.cells
@[go_sem] theorem cells_len (c : Con) : c.cells.length = 7 := by simp [go_sem, cells]
def size (c : Con) : Nat := c.arg.size + 1
def sizes : List Con → Nat
  | [] => 0
  | c :: l => c.size + sizes l
def zero : Con := ⟨[], 0, false, .zero⟩
end Con
/-! ### expressions, declarations -/
mutual
inductive Exp where
  | mk (kind at_ : Int) (name : Str) (n : Int) (kids : List Exp) (kb : Bool) (cases : List Case) (cb : Bool) (decs : List Dec) (db : Bool)
inductive Case where
  | mk (pat : Pat) (exp : Exp)
inductive Dec where
  | mk (kind at_ : Int) (name : Str) (params : Int) (cons : List Con) (nb : Bool) (case : List Case) (cb : Bool) (funs : List Fun) (fb : Bool)
inductive Fun where
  | mk (name : Str) (at_ : Int) (case : Case)
end
namespace Exp
def kind : Exp → Int | mk k _ _ _ _ _ _ _ _ _ => k
def at_ : Exp → Int | mk _ a _ _ _ _ _ _ _ _ => a
def name : Exp → Str | mk _ _ s _ _ _ _ _ _ _ => s
def n : Exp → Int | mk _ _ _ n _ _ _ _ _ _ => n
def kids : Exp → List Exp | mk _ _ _ _ l _ _ _ _ _ => l
def kb : Exp → Bool | mk _ _ _ _ _ b _ _ _ _ => b
def cases : Exp → List Case | mk _ _ _ _ _ _ c _ _ _ => c
def cb : Exp → Bool | mk _ _ _ _ _ _ _ b _ _ => b
def decs : Exp → List Dec | mk _ _ _ _ _ _ _ _ d _ => d
def db : Exp → Bool | mk _ _ _ _ _ _ _ _ _ b => b
end Exp
namespace Case
def pat : Case → Pat | mk p _ => p
def exp : Case → Exp | mk _ e => e
end Case
namespace Dec
def kind : Dec → Int | mk k _ _ _ _ _ _ _ _ _ => k
def at_ : Dec → Int | mk _ a _ _ _ _ _ _ _ _ => a
def name : Dec → Str | mk _ _ s _ _ _ _ _ _ _ => s
def params : Dec → Int | mk _ _ _ p _ _ _ _ _ _ => p
def cons : Dec → List Con | mk _ _ _ _ l _ _ _ _ _ => l
def nb : Dec → Bool | mk _ _ _ _ _ b _ _ _ _ => b
def case : Dec → List Case | mk _ _ _ _ _ _ c _ _ _ => c
def cb : Dec → Bool | mk _ _ _ _ _ _ _ b _ _ => b
def funs : Dec → List Fun | mk _ _ _ _ _ _ _ _ f _ => f
def fb : Dec → Bool | mk _ _ _ _ _ _ _ _ _ b => b
end Dec
namespace Fun
def name : Fun → Str | mk s _ _ => s
def at_ : Fun → Int | mk _ a _ => a
def case : Fun → Case | mk _ _ c => c
end Fun
mutual
def Exp.cells : Exp → List AV
  | .mk k a s n l kb c cb d db => [.int .i64 k, .int .i64 a, .str s, .int .i64 n, encS kb (Exp.encs l), encS cb (Case.encs c), encS db (Dec.encs d)]
def Exp.encs : List Exp → List AV
  | [] => []
  | t :: l => .agg t.cells :: Exp.encs l
def Case.cells : Case → List AV
  | .mk p e => p.cells ++ e.cells
def Case.encs : List Case → List AV
  | [] => []
  | t :: l => .agg t.cells :: Case.encs l
def Dec.cells : Dec → List AV
  | .mk k a s p l nb c cb f fb => [.int .i64 k, .int .i64 a, .str s, .int .i64 p, encS nb (l.map Con.enc), encS cb (Case.encs c), encS fb (Fun.encs f)]
def Dec.encs : List Dec → List AV
  | [] => []
  | t :: l => .agg t.cells :: Dec.encs l
def Fun.cells : Fun → List AV
  | .mk s a c => .str s :: .int .i64 a :: c.cells
def Fun.encs : List Fun → List AV
  | [] => []
  | t :: l => .agg t.cells :: Fun.encs l
end
abbrev Exp.enc (t : Exp) : AV := .agg t.cells
abbrev Case.enc (t : Case) : AV := .agg t.cells
abbrev Dec.enc (t : Dec) : AV := .agg t.cells
abbrev Fun.enc (t : Fun) : AV := .agg t.cells
theorem Exp.encs_map : ∀ l : List Exp, Exp.encs l = l.map Exp.enc
  | [] => by rw [Exp.encs]; rfl
  | t :: l => by rw [Exp.encs, Exp.encs_map l]; rfl
theorem Case.encs_map : ∀ l : List Case, Case.encs l = l.map Case.enc
  | [] => by rw [Case.encs]; rfl
  | t :: l => by rw [Case.encs, Case.encs_map l]; rfl
theorem Dec.encs_map : ∀ l : List Dec, Dec.encs l = l.map Dec.enc
  | [] => by rw [Dec.encs]; rfl
  | t :: l => by rw [Dec.encs, Dec.encs_map l]; rfl
theorem Fun.encs_map : ∀ l : List Fun, Fun.encs l = l.map Fun.enc
  | [] => by rw [Fun.encs]; rfl
  | t :: l => by rw [Fun.encs, Fun.encs_map l]; rfl
@[go_sem] theorem Exp.cells_mk (k a : Int) (s : Str) (n : Int) (l : List Exp) (kb : Bool) (c : List Case) (cb : Bool) (d : List Dec) (db : Bool) : (Exp.mk k a s n l kb c cb d db).cells = [.int .i64 k, .int .i64 a, .str s, .int .i64 n, encS kb (l.map Exp.enc), encS cb (c.map Case.enc), encS db (d.map Dec.enc)] := by
  rw [Exp.cells, Exp.encs_map, Case.encs_map, Dec.encs_map]
@[go_sem] theorem Case.cells_mk (p : Pat) (e : Exp) : (Case.mk p e).cells = p.cells ++ e.cells := by rw [Case.cells]
@[go_sem] theorem Dec.cells_mk (k a : Int) (s : Str) (p : Int) (l : List Con) (nb : Bool) (c : List Case) (cb : Bool) (f : List Fun) (fb : Bool) : (Dec.mk k a s p l nb c cb f fb).cells = [.int .i64 k, .int .i64 a, .str s, .int .i64 p, encS nb (l.map Con.enc), encS cb (c.map Case.enc), encS fb (f.map Fun.enc)] := by
  rw [Dec.cells, Case.encs_map, Fun.encs_map]
@[go_sem] theorem Fun.cells_mk (s : Str) (a : Int) (c : Case) : (Fun.mk s a c).cells = .str s :: .int .i64 a :: c.cells := by rw [Fun.cells]
theorem Exp.cells_eq (t : Exp) : t.cells = [.int .i64 t.kind, .int .i64 t.at_, .str t.name, .int .i64 t.n, encS t.kb (t.kids.map Exp.enc), encS t.cb (t.cases.map Case.enc), encS t.db (t.decs.map Dec.enc)] := by
  cases t; rw [Exp.cells_mk]; rfl
theorem Dec.cells_eq (t : Dec) : t.cells = [.int .i64 t.kind, .int .i64 t.at_, .str t.name, .int .i64 t.params, encS t.nb (t.cons.map Con.enc), encS t.cb (t.case.map Case.enc), encS t.fb (t.funs.map Fun.enc)] := by
  cases t; rw [Dec.cells_mk]; rfl
theorem Case.cells_eq (t : Case) : t.cells = t.pat.cells ++ t.exp.cells := by cases t; rw [Case.cells_mk]; rfl
theorem Fun.cells_eq (t : Fun) : t.cells = .str t.name :: .int .i64 t.at_ :: t.case.cells := by cases t; rw [Fun.cells_mk]; rfl
@[go_sem] theorem Exp.cells_len (t : Exp) : t.cells.length = 7 := by rw [Exp.cells_eq]; rfl
@[go_sem] theorem Dec.cells_len (t : Dec) : t.cells.length = 7 := by rw [Dec.cells_eq]; rfl
@[go_sem] theorem Case.cells_len (t : Case) : t.cells.length = 12 := by rw [Case.cells_eq]; simp [go_sem]
@[go_sem] theorem Fun.cells_len (t : Fun) : t.cells.length = 14 := by rw [Fun.cells_eq]; simp [go_sem]
mutual
def Exp.size : Exp → Nat
  | .mk _ _ _ _ l _ c _ d _ => Exp.sizes l + Case.sizes c + Dec.sizes d + 1
def Exp.sizes : List Exp → Nat
  | [] => 0
  | t :: l => t.size + Exp.sizes l
def Case.size : Case → Nat
  | .mk p e => p.size + e.size + 1
def Case.sizes : List Case → Nat
  | [] => 0
  | t :: l => t.size + Case.sizes l
def Dec.size : Dec → Nat
  | .mk _ _ _ _ l _ c _ f _ => Con.sizes l + Case.sizes c + Fun.sizes f + 1
def Dec.sizes : List Dec → Nat
  | [] => 0
  | t :: l => t.size + Dec.sizes l
def Fun.size : Fun → Nat
  | .mk _ _ c => c.size + 1
def Fun.sizes : List Fun → Nat
  | [] => 0
  | t :: l => t.size + Fun.sizes l
end
def Exp.zero : Exp := .mk 0 0 [] 0 [] true [] true [] true
def Case.zero : Case := .mk .zero .zero
def Dec.zero : Dec := .mk 0 0 [] 0 [] true [] true [] true
def Fun.zero : Fun := .mk [] 0 .zero
theorem Ty.len_sizes : ∀ l : List Ty, l.length ≤ Ty.sizes l
  | [] => Nat.le_refl _
  | .mk _ _ _ _ _ :: l => by have := Ty.len_sizes l; simp only [Ty.sizes, Ty.size, List.length_cons]; omega
theorem Pat.len_sizes : ∀ l : List Pat, l.length ≤ Pat.sizes l
  | [] => Nat.le_refl _
  | .mk _ _ _ _ _ _ :: l => by have := Pat.len_sizes l; simp only [Pat.sizes, Pat.size, List.length_cons]; omega
theorem Con.len_sizes : ∀ l : List Con, l.length ≤ Con.sizes l
  | [] => Nat.le_refl _
  | c :: l => by have := Con.len_sizes l; simp only [Con.sizes, Con.size, List.length_cons]; omega
theorem Exp.len_sizes : ∀ l : List Exp, l.length ≤ Exp.sizes l
  | [] => Nat.zero_le _
  | .mk _ _ _ _ _ _ _ _ _ _ :: l => by have := Exp.len_sizes l; simp only [Exp.sizes, Exp.size, List.length_cons]; omega
theorem Case.len_sizes : ∀ l : List Case, l.length ≤ Case.sizes l
  | [] => Nat.zero_le _
  | .mk _ _ :: l => by have := Case.len_sizes l; simp only [Case.sizes, Case.size, List.length_cons]; omega
theorem Dec.len_sizes : ∀ l : List Dec, l.length ≤ Dec.sizes l
  | [] => Nat.zero_le _
  | .mk _ _ _ _ _ _ _ _ _ _ :: l => by have := Dec.len_sizes l; simp only [Dec.sizes, Dec.size, List.length_cons]; omega
theorem Fun.len_sizes : ∀ l : List Fun, l.length ≤ Fun.sizes l
  | [] => Nat.zero_le _
  | .mk _ _ _ :: l => by have := Fun.len_sizes l; simp only [Fun.sizes, Fun.size, List.length_cons]; omega
theorem Ty.mem_sizes : ∀ {l : List Ty} {t : Ty}, t ∈ l → t.size ≤ Ty.sizes l
  | x :: l, t, h => by
    simp only [Ty.sizes]
    rcases List.mem_cons.1 h with rfl | h
    · omega
    · have := Ty.mem_sizes h; omega
theorem Pat.mem_sizes : ∀ {l : List Pat} {t : Pat}, t ∈ l → t.size ≤ Pat.sizes l
  | x :: l, t, h => by
    simp only [Pat.sizes]
    rcases List.mem_cons.1 h with rfl | h
    · omega
    · have := Pat.mem_sizes h; omega
theorem Con.mem_sizes : ∀ {l : List Con} {t : Con}, t ∈ l → t.size ≤ Con.sizes l
  | x :: l, t, h => by
    simp only [Con.sizes]
    rcases List.mem_cons.1 h with rfl | h
    · omega
    · have := Con.mem_sizes h; omega
theorem Exp.mem_sizes : ∀ {l : List Exp} {t : Exp}, t ∈ l → t.size ≤ Exp.sizes l
  | x :: l, t, h => by
    simp only [Exp.sizes]
    rcases List.mem_cons.1 h with rfl | h
    · omega
    · have := Exp.mem_sizes h; omega
theorem Case.mem_sizes : ∀ {l : List Case} {t : Case}, t ∈ l → t.size ≤ Case.sizes l
  | x :: l, t, h => by
    simp only [Case.sizes]
    rcases List.mem_cons.1 h with rfl | h
    · omega
    · have := Case.mem_sizes h; omega
theorem Dec.mem_sizes : ∀ {l : List Dec} {t : Dec}, t ∈ l → t.size ≤ Dec.sizes l
  | x :: l, t, h => by
    simp only [Dec.sizes]
    rcases List.mem_cons.1 h with rfl | h
    · omega
    · have := Dec.mem_sizes h; omega
theorem Fun.mem_sizes : ∀ {l : List Fun} {t : Fun}, t ∈ l → t.size ≤ Fun.sizes l
  | x :: l, t, h => by
    simp only [Fun.sizes]
    rcases List.mem_cons.1 h with rfl | h
    · omega
    · have := Fun.mem_sizes h; omega
end Go.Am

namespace Go.Proofs.Ytfkihppbbeonkaa
open Go Go.Am
set_option linter.unusedVariables false
noncomputable def tis : List TI := [
  {},
  { k := .func, size := 1, bytes := 8, zero := [.nilf] },
  { k := .int .i64, size := 1, bytes := 8, zero := [.int .i64 0] },
  { k := .int .i64, size := 1, bytes := 8, zero := [.int .i64 0] },
  { k := .bool, size := 1, bytes := 1, zero := [.bool false] },
  { k := .int .u8, size := 1, bytes := 1, zero := [.int .u8 0] },
  { k := .int .u8, size := 1, bytes := 1, zero := [.int .u8 0] },
  { k := .struct [(0, 2), (1, 3), (2, 4), (3, 6)], size := 4, bytes := 24, zero := [.int .i64 0, .int .i64 0, .bool false, .int .u8 0] },
  { k := .struct [(0, 2), (1, 3), (2, 4), (3, 6)], size := 4, bytes := 24, zero := [.int .i64 0, .int .i64 0, .bool false, .int .u8 0] },
  { k := .str, size := 1, bytes := 16, zero := [.str []] },
  { k := .str, size := 1, bytes := 16, zero := [.str []] },
  { k := .str, size := 1, bytes := 16, zero := [.str []] },
  { k := .int .u64, size := 1, bytes := 8, zero := [.int .u64 0] },
  { k := .struct [(0, 9), (1, 12)], size := 2, bytes := 24, zero := [.str [], .int .u64 0] },
  { k := .struct [(0, 9), (1, 12)], size := 2, bytes := 24, zero := [.str [], .int .u64 0] },
  { k := .ptr, size := 1, bytes := 8, zero := [.nilp] },
  { k := .ptr, size := 1, bytes := 8, zero := [.nilp] },
  { k := .ptr, size := 1, bytes := 8, zero := [.nilp] },
  { k := .struct [(0, 17)], size := 1, bytes := 8, zero := [.nilp] },
  { k := .struct [(0, 17)], size := 1, bytes := 8, zero := [.nilp] },
  { k := .iface, size := 1, bytes := 16, zero := [.nili] },
  { k := .int .i32, size := 1, bytes := 4, zero := [.int .i32 0] },
  { k := .int .i64, size := 1, bytes := 8, zero := [.int .i64 0] },
  { k := .slice 25, size := 1, bytes := 24, zero := [.nils] },
  { k := .struct [(0, 22), (1, 3), (2, 9), (3, 23)], size := 4, bytes := 56, zero := [.int .i64 0, .int .i64 0, .str [], .nils] },
  { k := .struct [(0, 22), (1, 3), (2, 9), (3, 23)], size := 4, bytes := 56, zero := [.int .i64 0, .int .i64 0, .str [], .nils] },
  { k := .func, size := 1, bytes := 8, zero := [.nilf] },
  { k := .func, size := 1, bytes := 8, zero := [.nilf] },
  { k := .func, size := 1, bytes := 8, zero := [.nilf] },
  { k := .func, size := 1, bytes := 8, zero := [.nilf] },
  { k := .func, size := 1, bytes := 8, zero := [.nilf] },
  { k := .func, size := 1, bytes := 8, zero := [.nilf] },
  { k := .func, size := 1, bytes := 8, zero := [.nilf] },
  { k := .func, size := 1, bytes := 8, zero := [.nilf] },
  { k := .func, size := 1, bytes := 8, zero := [.nilf] },
  { k := .slice 3, size := 1, bytes := 24, zero := [.nils] },
  {},
  { k := .func, size := 1, bytes := 8, zero := [.nilf] },
  { k := .func, size := 1, bytes := 8, zero := [.nilf] },
  { k := .func, size := 1, bytes := 8, zero := [.nilf] },
  { k := .func, size := 1, bytes := 8, zero := [.nilf] },
  { k := .func, size := 1, bytes := 8, zero := [.nilf] },
  { k := .func, size := 1, bytes := 8, zero := [.nilf] },
  { k := .func, size := 1, bytes := 8, zero := [.nilf] },
  { k := .slice 70, size := 1, bytes := 24, zero := [.nils] },
  { k := .func, size := 1, bytes := 8, zero := [.nilf] },
  { k := .func, size := 1, bytes := 8, zero := [.nilf] },
  { k := .func, size := 1, bytes := 8, zero := [.nilf] },
  { k := .int .i64, size := 1, bytes := 8, zero := [.int .i64 0] },
  { k := .slice 68, size := 1, bytes := 24, zero := [.nils] },
  { k := .slice 64, size := 1, bytes := 24, zero := [.nils] },
  { k := .slice 66, size := 1, bytes := 24, zero := [.nils] },
  { k := .struct [(0, 48), (1, 3), (2, 9), (3, 3), (4, 49), (5, 50), (6, 51)], size := 7, bytes := 112, zero := [.int .i64 0, .int .i64 0, .str [], .int .i64 0, .nils, .nils, .nils] },
  { k := .struct [(0, 48), (1, 3), (2, 9), (3, 3), (4, 49), (5, 50), (6, 51)], size := 7, bytes := 112, zero := [.int .i64 0, .int .i64 0, .str [], .int .i64 0, .nils, .nils, .nils] },
  { k := .int .i64, size := 1, bytes := 8, zero := [.int .i64 0] },
  { k := .slice 58, size := 1, bytes := 24, zero := [.nils] },
  { k := .slice 53, size := 1, bytes := 24, zero := [.nils] },
  { k := .struct [(0, 54), (1, 3), (2, 9), (3, 3), (4, 55), (5, 50), (6, 56)], size := 7, bytes := 112, zero := [.int .i64 0, .int .i64 0, .str [], .int .i64 0, .nils, .nils, .nils] },
  { k := .struct [(0, 54), (1, 3), (2, 9), (3, 3), (4, 55), (5, 50), (6, 56)], size := 7, bytes := 112, zero := [.int .i64 0, .int .i64 0, .str [], .int .i64 0, .nils, .nils, .nils] },
  { k := .int .i64, size := 1, bytes := 8, zero := [.int .i64 0] },
  { k := .slice 62, size := 1, bytes := 24, zero := [.nils] },
  { k := .struct [(0, 59), (1, 3), (2, 9), (3, 3), (4, 60)], size := 5, bytes := 64, zero := [.int .i64 0, .int .i64 0, .str [], .int .i64 0, .nils] },
  { k := .struct [(0, 59), (1, 3), (2, 9), (3, 3), (4, 60)], size := 5, bytes := 64, zero := [.int .i64 0, .int .i64 0, .str [], .int .i64 0, .nils] },
  { k := .struct [(0, 62), (5, 58)], size := 12, bytes := 176, zero := [.int .i64 0, .int .i64 0, .str [], .int .i64 0, .nils, .int .i64 0, .int .i64 0, .str [], .int .i64 0, .nils, .nils, .nils] },
  { k := .struct [(0, 62), (5, 58)], size := 12, bytes := 176, zero := [.int .i64 0, .int .i64 0, .str [], .int .i64 0, .nils, .int .i64 0, .int .i64 0, .str [], .int .i64 0, .nils, .nils, .nils] },
  { k := .struct [(0, 9), (1, 3), (2, 64)], size := 14, bytes := 200, zero := [.str [], .int .i64 0, .int .i64 0, .int .i64 0, .str [], .int .i64 0, .nils, .int .i64 0, .int .i64 0, .str [], .int .i64 0, .nils, .nils, .nils] },
  { k := .struct [(0, 9), (1, 3), (2, 64)], size := 14, bytes := 200, zero := [.str [], .int .i64 0, .int .i64 0, .int .i64 0, .str [], .int .i64 0, .nils, .int .i64 0, .int .i64 0, .str [], .int .i64 0, .nils, .nils, .nils] },
  { k := .struct [(0, 9), (1, 3), (2, 4), (3, 25)], size := 7, bytes := 88, zero := [.str [], .int .i64 0, .bool false, .int .i64 0, .int .i64 0, .str [], .nils] },
  { k := .struct [(0, 9), (1, 3), (2, 4), (3, 25)], size := 7, bytes := 88, zero := [.str [], .int .i64 0, .bool false, .int .i64 0, .int .i64 0, .str [], .nils] },
  { k := .struct [(0, 3), (1, 4), (2, 3), (3, 53), (10, 58), (17, 62), (22, 25), (26, 66), (40, 68)], size := 47, bytes := 656, zero := [.int .i64 0, .bool false, .int .i64 0, .int .i64 0, .int .i64 0, .str [], .int .i64 0, .nils, .nils, .nils, .int .i64 0, .int .i64 0, .str [], .int .i64 0, .nils, .nils, .nils, .int .i64 0, .int .i64 0, .str [], .int .i64 0, .nils, .int .i64 0, .int .i64 0, .str [], .nils, .str [], .int .i64 0, .int .i64 0, .int .i64 0, .str [], .int .i64 0, .nils, .int .i64 0, .int .i64 0, .str [], .int .i64 0, .nils, .nils, .nils, .str [], .int .i64 0, .bool false, .int .i64 0, .int .i64 0, .str [], .nils] },
  { k := .struct [(0, 3), (1, 4), (2, 3), (3, 53), (10, 58), (17, 62), (22, 25), (26, 66), (40, 68)], size := 47, bytes := 656, zero := [.int .i64 0, .bool false, .int .i64 0, .int .i64 0, .int .i64 0, .str [], .int .i64 0, .nils, .nils, .nils, .int .i64 0, .int .i64 0, .str [], .int .i64 0, .nils, .nils, .nils, .int .i64 0, .int .i64 0, .str [], .int .i64 0, .nils, .int .i64 0, .int .i64 0, .str [], .nils, .str [], .int .i64 0, .int .i64 0, .int .i64 0, .str [], .int .i64 0, .nils, .int .i64 0, .int .i64 0, .str [], .int .i64 0, .nils, .nils, .nils, .str [], .int .i64 0, .bool false, .int .i64 0, .int .i64 0, .str [], .nils] },
  { k := .map 3 3, size := 1, bytes := 8, zero := [.nilm] },
  { k := .func, size := 1, bytes := 8, zero := [.nilf] },
  {},
  { k := .func, size := 1, bytes := 8, zero := [.nilf] },
  { k := .func, size := 1, bytes := 8, zero := [.nilf] },
  { k := .func, size := 1, bytes := 8, zero := [.nilf] },
  {},
  { k := .func, size := 1, bytes := 8, zero := [.nilf] },
  { k := .func, size := 1, bytes := 8, zero := [.nilf] },
  { k := .func, size := 1, bytes := 8, zero := [.nilf] },
  {},
  { k := .func, size := 1, bytes := 8, zero := [.nilf] },
  { k := .int .i64, size := 1, bytes := 8, zero := [.int .i64 0] },
  { k := .struct [(0, 83), (1, 3), (2, 9)], size := 3, bytes := 32, zero := [.int .i64 0, .int .i64 0, .str []] },
  { k := .struct [(0, 83), (1, 3), (2, 9)], size := 3, bytes := 32, zero := [.int .i64 0, .int .i64 0, .str []] },
  { k := .func, size := 1, bytes := 8, zero := [.nilf] },
  { k := .func, size := 1, bytes := 8, zero := [.nilf] },
  { k := .func, size := 1, bytes := 8, zero := [.nilf] },
  { k := .slice 9, size := 1, bytes := 24, zero := [.nils] },
  { k := .func, size := 1, bytes := 8, zero := [.nilf] },
  { k := .func, size := 1, bytes := 8, zero := [.nilf] },
  { k := .func, size := 1, bytes := 8, zero := [.nilf] },
  { k := .func, size := 1, bytes := 8, zero := [.nilf] },
  { k := .func, size := 1, bytes := 8, zero := [.nilf] },
  { k := .func, size := 1, bytes := 8, zero := [.nilf] },
  { k := .func, size := 1, bytes := 8, zero := [.nilf] },
  { k := .func, size := 1, bytes := 8, zero := [.nilf] },
  { k := .func, size := 1, bytes := 8, zero := [.nilf] },
  { k := .func, size := 1, bytes := 8, zero := [.nilf] },
  { k := .ptr, size := 1, bytes := 8, zero := [.nilp] },
  { k := .ptr, size := 1, bytes := 8, zero := [.nilp] },
  { k := .ptr, size := 1, bytes := 8, zero := [.nilp] },
  { k := .ptr, size := 1, bytes := 8, zero := [.nilp] },
  { k := .ptr, size := 1, bytes := 8, zero := [.nilp] },
  { k := .ptr, size := 1, bytes := 8, zero := [.nilp] },
  { k := .struct [(0, 100), (1, 4), (2, 101), (3, 102), (4, 103), (5, 104), (6, 105), (7, 3)], size := 8, bytes := 64, zero := [.nilp, .bool false, .nilp, .nilp, .nilp, .nilp, .nilp, .int .i64 0] },
  { k := .struct [(0, 100), (1, 4), (2, 101), (3, 102), (4, 103), (5, 104), (6, 105), (7, 3)], size := 8, bytes := 64, zero := [.nilp, .bool false, .nilp, .nilp, .nilp, .nilp, .nilp, .int .i64 0] },
  { k := .func, size := 1, bytes := 8, zero := [.nilf] },
  { k := .func, size := 1, bytes := 8, zero := [.nilf] },
  { k := .struct [(0, 109)], size := 1, bytes := 8, zero := [.nilf] },
  { k := .struct [(0, 109)], size := 1, bytes := 8, zero := [.nilf] },
  { k := .func, size := 1, bytes := 8, zero := [.nilf] },
  { k := .func, size := 1, bytes := 8, zero := [.nilf] },
  { k := .func, size := 1, bytes := 8, zero := [.nilf] },
  { k := .func, size := 1, bytes := 8, zero := [.nilf] },
  { k := .func, size := 1, bytes := 8, zero := [.nilf] },
  { k := .func, size := 1, bytes := 8, zero := [.nilf] },
  { k := .func, size := 1, bytes := 8, zero := [.nilf] },
  { k := .struct [(0, 4), (1, 4), (2, 4), (3, 4), (4, 3), (5, 3)], size := 6, bytes := 24, zero := [.bool false, .bool false, .bool false, .bool false, .int .i64 0, .int .i64 0] },
  { k := .struct [(0, 4), (1, 4), (2, 4), (3, 4), (4, 3), (5, 3)], size := 6, bytes := 24, zero := [.bool false, .bool false, .bool false, .bool false, .int .i64 0, .int .i64 0] },
  {},
  { k := .func, size := 1, bytes := 8, zero := [.nilf] },
  { k := .func, size := 1, bytes := 8, zero := [.nilf] },
  { k := .func, size := 1, bytes := 8, zero := [.nilf] },
  { k := .func, size := 1, bytes := 8, zero := [.nilf] },
  { k := .func, size := 1, bytes := 8, zero := [.nilf] },
  { k := .int .u64, size := 1, bytes := 8, zero := [.int .u64 0] },
  { k := .int .u32, size := 1, bytes := 4, zero := [.int .u32 0] },
  {},
  { k := .func, size := 1, bytes := 8, zero := [.nilf] },
  { k := .func, size := 1, bytes := 8, zero := [.nilf] },
  { k := .struct [(0, 17), (1, 17), (2, 17), (3, 9)], size := 4, bytes := 40, zero := [.nilp, .nilp, .nilp, .str []] },
  { k := .struct [(0, 17), (1, 17), (2, 17), (3, 9)], size := 4, bytes := 40, zero := [.nilp, .nilp, .nilp, .str []] },
  { k := .array 0 16, size := 0, bytes := 0, zero := [] },
  { k := .struct [(0, 134)], size := 0, bytes := 0, zero := [] },
  { k := .struct [(0, 134)], size := 0, bytes := 0, zero := [] },
  { k := .int .u8, size := 1, bytes := 1, zero := [.int .u8 0] },
  { k := .int .u8, size := 1, bytes := 1, zero := [.int .u8 0] },
  { k := .func, size := 1, bytes := 8, zero := [.nilf] },
  { k := .ptr, size := 1, bytes := 8, zero := [.nilp] },
  { k := .int .i32, size := 1, bytes := 4, zero := [.int .i32 0] },
  { k := .int .i32, size := 1, bytes := 4, zero := [.int .i32 0] },
  { k := .struct [(0, 12), (1, 12), (2, 128), (3, 137), (4, 5), (5, 5), (6, 138), (7, 139), (8, 140), (9, 141), (10, 142)], size := 11, bytes := 48, zero := [.int .u64 0, .int .u64 0, .int .u32 0, .int .u8 0, .int .u8 0, .int .u8 0, .int .u8 0, .nilf, .nilp, .int .i32 0, .int .i32 0] },
  { k := .struct [(0, 12), (1, 12), (2, 128), (3, 137), (4, 5), (5, 5), (6, 138), (7, 139), (8, 140), (9, 141), (10, 142)], size := 11, bytes := 48, zero := [.int .u64 0, .int .u64 0, .int .u32 0, .int .u8 0, .int .u8 0, .int .u8 0, .int .u8 0, .nilf, .nilp, .int .i32 0, .int .i32 0] },
  { k := .func, size := 1, bytes := 8, zero := [.nilf] },
  {}]
noncomputable def modes : List (Nat × Nat × AMode) := [(8, 3, .loc), (8, 4, .loc), (21, 4, .loc), (21, 5, .loc), (26, 3, .con), (49, 1, .con), (53, 4, .loc), (54, 1, .con), (59, 3, .con), (59, 5, .loc)]
noncomputable def keeps : List (Nat × Nat × List Nat) := [(6, 6, [1, 2, 3, 7, 8, 9]), (6, 10, [1, 2, 3, 7, 8, 10]), (6, 17, [1, 2, 3, 8, 11, 12]), (7, 9, [2, 3, 5, 6, 7, 8, 9, 10, 11, 12]), (7, 15, [2, 3, 5, 6, 7, 8, 10, 13]), (10, 4, [3, 7, 8, 9]), (15, 4, [4, 5, 10, 11, 12]), (18, 4, [1, 4, 5, 6]), (19, 4, [3, 4]), (20, 3, [0, 3]), (23, 5, [0, 1, 5]), (25, 5, [3, 4, 5]), (27, 8, [1, 2, 4, 5, 6]), (28, 6, [5, 6, 7]), (28, 12, [5, 6, 7, 8, 9, 10]), (33, 4, [1, 2, 5, 6]), (34, 5, [1, 2, 15, 16, 17]), (35, 5, [2, 3, 5]), (36, 5, [2, 3, 9, 10, 11]), (37, 4, [1, 2, 3, 4]), (39, 6, [1, 4, 5, 23, 24, 25]), (41, 6, [1, 2, 4, 5, 6]), (42, 3, [0, 1, 5]), (46, 3, [0, 1, 7, 8]), (50, 5, [0, 5]), (51, 3, [0, 1, 5]), (53, 7, [4]), (56, 4, [3, 7, 8, 9]), (59, 4, [3, 5]), (62, 5, [1, 2, 20, 21]), (71, 3, [0, 3])]
noncomputable def cuts : List (Nat × Nat × List Nat) := [(4, 4, [0, 1]), (4, 16, [0, 1, 5]), (44, 7, [5, 6]), (48, 7, [4, 5]), (60, 17, [1, 2, 3, 4]), (64, 14, [1, 3, 5, 7, 8]), (68, 16, [1, 3, 4, 5, 6]), (69, 18, [1, 3, 4, 5, 56, 61]), (69, 24, [3, 4, 5])]
noncomputable def rankl : List (Nat × Nat × List Nat) := [(14, 2, [0, 1, 2, 3, 4, 5, 6, 7, 10, 8, 9, 11]), (21, 4, [0, 2, 1, 3]), (28, 7, [0, 1, 2, 3, 4, 8, 9, 10, 11, 12, 5, 6, 7, 13]), (60, 3, [0, 1, 2, 3, 4, 6, 7, 8, 9, 10, 5, 11]), (60, 5, [0, 1, 3, 4, 5, 6, 7, 2, 8]), (60, 11, [0, 1, 2, 3, 4, 6, 7, 8, 9, 10, 5, 11]), (60, 13, [0, 1, 2, 3, 4, 6, 7, 8, 9, 10, 5, 11]), (60, 15, [0, 1, 2, 3, 4, 6, 7, 8, 9, 10, 5, 11]), (64, 2, [0, 1, 2, 3, 4, 5, 6, 7, 8, 9, 10, 23, 11, 12, 13, 14, 15, 16, 25, 26, 27, 28, 29, 30, 17, 18, 19, 20, 21, 32, 22, 24, 31, 33])]
noncomputable def drawl : List (Nat × Nat × Bool × List (Option Nat)) := [(3, 1, false, [some 2, none, some 2, none, none, none, some 2, none, some 2, none, none, none, none, some 2, some 3, none, some 2, some 3, none, none, none, none, some 2, some 2, none, none, none, none, none, none]), (4, 8, false, [none, none, none, none, none, none, none, none, none, some 5]), (4, 9, true, [none, none, none, none, none, none, none, none, none, none, none, none, none, none, none, none]), (4, 12, false, [none, none, none, none, none, none, none, none, none, none, none, none, some 5]), (4, 14, false, [none, none, none, none, none, none, none, none, none, none, none, none, none, none, none, some 5]), (4, 15, false, [some 5, none, none, none, none, none, none, none, none]), (5, 5, false, [some 2, none, some 2, none, none, none, some 2, none, none, some 2, none, none, none, none, none, some 5, some 7, none, none, none, none, none, none, none, none, none, none, none]), (6, 12, false, [some 3, none, some 3, none, none, none, some 3, none, none, some 3, none, none, none]), (6, 20, false, [some 3, none, none, none, none, some 3, none, none, none, none, none, none, none]), (7, 11, false, [some 9, some 5, none, none, none, none, none, none, none, none, none, none, some 5, none, none, some 2, none, none, none, none, none, some 2, none, none, none, none]), (7, 18, false, [some 5, some 7, none, some 2, some 3, none, none]), (14, 2, false, [some 2, some 1, some 2, none, none, none, none, none, none, none, some 3, none]), (14, 3, false, [some 3, some 1, none, some 1, none, none, none, none, none, none, none, none, none, none, none, none, none, none, none, none, none, none, none, none, none, none, none, none, none, none, none, none, none, none, none, none, none, none, none, none, none]), (15, 5, false, [none, some 5, some 7, none, none, none, none, some 5]), (18, 5, false, [none, some 5, none, none, none, none, none, none, none, none, some 5]), (21, 4, false, [some 6, none, some 2, none]), (23, 6, false, [none, none, none, none, none, none, none, none, none]), (27, 9, false, [none, some 5, none, some 2, none, none, none, none, none, none, none, none, some 5]), (28, 1, false, [some 2, none, some 3, none, none, none]), (28, 7, false, [none, none, none, none, none, none, none, none, none, none, none, none, some 8, some 9]), (28, 13, false, [none, none, none, none, none, none, none, none, none, none, none, none, none, none, none, some 8, none, none, none, none, none, none, none, none, some 9, none, none, none]), (35, 6, false, [none, some 2, none, none, none, none, some 3, none, none, none, none, none]), (36, 6, false, [none, some 3, some 5, none, none, none, none, some 3]), (37, 5, false, [none, some 3, none, some 1, none, none, none, none, none, none, none, some 3]), (39, 7, false, [none, some 5, some 7, none, none, none, none, none, some 5]), (41, 7, false, [none, some 5, none, some 2, none, none, none, none, none, none, none, none, some 5]), (60, 3, true, [none, some 1, none, none, none, none, some 1, none, none, none, none, none]), (60, 5, true, [some 1, none, none, some 1, none, none, none, none, none]), (60, 11, true, [none, some 1, none, none, none, none, some 1, none, none, none, none, none]), (60, 13, true, [none, some 1, none, none, none, none, some 1, none, none, none, none, none]), (60, 15, true, [none, some 1, none, none, none, none, some 1, none, none, none, none, none]), (62, 1, false, [none, some 2, none, none, none, none, none, none, none, none]), (62, 6, false, [some 2, none, none, none, none, none, none, none, none]), (64, 2, false, [none, none, none, none, none, none, none, none, none, none, none, none, none, none, none, none, none, none, none, none, none, none, none, none, none, none, none, none, none, none, none, none, none, none])]
noncomputable def codes : List (Nat × Func) := [(3, Go.Proofs.Try.f3), (4, Go.Proofs.Try.f4), (5, Go.Proofs.Try.f5), (6, Go.Proofs.Try.f6), (7, Go.Proofs.Try.f7), (8, Go.Proofs.Try.f8), (9, Go.Proofs.Try.f9), (10, Go.Proofs.Try.f10), (11, Go.Proofs.Try.f11), (12, Go.Proofs.Try.f12), (13, Go.Proofs.Try.f13), (14, Go.Proofs.Try.f14), (15, Go.Proofs.Try.f15), (16, Go.Proofs.Try.f16), (17, Go.Proofs.Try.f17), (18, Go.Proofs.Try.f18), (19, Go.Proofs.Try.f19), (20, Go.Proofs.Try.f20), (21, Go.Proofs.Try.f21), (22, Go.Proofs.Try.f22), (23, Go.Proofs.Try.f23), (24, Go.Proofs.Try.f24), (25, Go.Proofs.Try.f25), (26, Go.Proofs.Try.f26), (27, Go.Proofs.Try.f27), (28, Go.Proofs.Try.f28), (29, Go.Proofs.Try.f29), (30, Go.Proofs.Try.f30), (31, Go.Proofs.Try.f31), (32, Go.Proofs.Try.f32), (33, Go.Proofs.Try.f33), (34, Go.Proofs.Try.f34), (35, Go.Proofs.Try.f35), (36, Go.Proofs.Try.f36), (37, Go.Proofs.Try.f37), (38, Go.Proofs.Try.f38), (39, Go.Proofs.Try.f39), (40, Go.Proofs.Try.f40), (41, Go.Proofs.Try.f41), (42, Go.Proofs.Try.f42), (43, Go.Proofs.Try.f43), (44, Go.Proofs.Try.f44), (45, Go.Proofs.Try.f45), (46, Go.Proofs.Try.f46), (47, Go.Proofs.Try.f47), (48, Go.Proofs.Try.f48), (49, Go.Proofs.Try.f49), (50, Go.Proofs.Try.f50), (51, Go.Proofs.Try.f51), (52, Go.Proofs.Try.f52), (53, Go.Proofs.Try.f53), (54, Go.Proofs.Try.f54), (55, Go.Proofs.Try.f55), (56, Go.Proofs.Try.f56), (57, Go.Proofs.Try.f57), (58, Go.Proofs.Try.f58), (59, Go.Proofs.Try.f59), (60, Go.Proofs.Try.f60), (61, Go.Proofs.Try.f61), (62, Go.Proofs.Try.f62), (63, Go.Proofs.Try.f63), (64, Go.Proofs.Try.f64), (65, Go.Proofs.Try.f65), (66, Go.Proofs.Try.f66), (67, Go.Proofs.Try.f67), (68, Go.Proofs.Try.f68), (69, Go.Proofs.Try.f69), (70, Go.Proofs.Try.f70), (71, Go.Proofs.Try.f71), (73, Go.Proofs.Try.f73), (74, Go.Proofs.Try.f74), (75, Go.Proofs.Try.f75), (76, Go.Proofs.Try.f76), (77, Go.Proofs.Try.f77)]
noncomputable def exts : List (Nat × (List AV → Option AV)) := [(72, extContains)]
noncomputable def C : Cfg where
  ti t := tis.getD t {}
  mode f d := findMode f d modes
  keep f r := findKeep f r keeps
  cut f r := findCut f r cuts
  draws f r := findDraw f r drawl
  ranks f r := findKeep f r rankl
  glob _ := none
  ints := [0]
  ext f := findExt f exts
  code f := findCode f codes
noncomputable abbrev cw : CallFn := callw C
def K_80c441cf : List UInt8 := [32, 97, 110, 100, 32, 97, 110, 100, 97, 108, 115, 111, 32, 97, 115, 32, 99, 97, 115, 101, 32, 100, 97, 116, 97, 116, 121, 112, 101, 32, 100, 105, 118, 32, 101, 108, 115, 101, 32, 101, 110, 100, 32, 101, 120, 99, 101, 112, 116, 105, 111, 110, 32, 102, 110, 32, 102, 117, 110, 32, 104, 97, 110, 100, 108, 101, 32, 105, 102, 32, 105, 110, 32, 108, 101, 116, 32, 109, 111, 100, 32, 111, 102, 32, 111, 114, 101, 108, 115, 101, 32, 112, 114, 105, 110, 116, 32, 114, 97, 105, 115, 101, 32, 114, 101, 97, 100, 32, 114, 101, 102, 32, 116, 104, 101, 110, 32, 118, 97, 108, 32, 116, 114, 117, 101, 32, 102, 97, 108, 115, 101, 32, 95, 32]
abbrev T_0 : Nat := 0
abbrev T_int : Nat := 3
abbrev T_bool : Nat := 4
abbrev T_uint8 : Nat := 5
abbrev T_string : Nat := 9
abbrev T_TyKind : Nat := 22
abbrev T_S_Ty : Nat := 23
abbrev T_Ty : Nat := 25
abbrev T_26 : Nat := 26
abbrev T_S_int : Nat := 35
abbrev T_S_ref05_Node : Nat := 44
abbrev T_DecKind : Nat := 48
abbrev T_S_Con : Nat := 49
abbrev T_S_Case : Nat := 50
abbrev T_S_Fun : Nat := 51
abbrev T_ExpKind : Nat := 54
abbrev T_S_Exp : Nat := 55
abbrev T_S_Dec : Nat := 56
abbrev T_Exp : Nat := 58
abbrev T_PatKind : Nat := 59
abbrev T_S_Pat : Nat := 60
abbrev T_Pat : Nat := 62
abbrev T_Con : Nat := 68
abbrev T_ref05_Node : Nat := 70
abbrev T_71 : Nat := 71
abbrev T_Errno : Nat := 83
abbrev T_Bad : Nat := 85
abbrev T_S_string : Nat := 89
abbrev T_P_Dec : Nat := 100
abbrev T_P_Fun : Nat := 101
abbrev T_P_Con : Nat := 102
abbrev T_P_Exp : Nat := 103
abbrev T_P_Pat : Nat := 104
abbrev T_P_Ty : Nat := 105
abbrev T_thing : Nat := 107
abbrev T_109 : Nat := 109
abbrev T_walker : Nat := 111
abbrev T_has : Nat := 120
abbrev F_law08_TyRight : Nat := 3
abbrev F_law08_TyMakes : Nat := 4
abbrev F_law08_TyPuts : Nat := 5
abbrev F_law08_TyPutTwice : Nat := 6
abbrev F_law08_TyCanons : Nat := 7
abbrev F_ty_Right : Nat := 8
abbrev F_ref08_Right : Nat := 9
abbrev F_ty_Size : Nat := 10
abbrev F_ref08_Size : Nat := 11
abbrev F_ty_Same : Nat := 12
abbrev F_ref08_Same : Nat := 13
abbrev F_law08_knows : Nat := 14
abbrev F_ty_Of : Nat := 15
abbrev F_ty_Fn : Nat := 16
abbrev F_ref08_Fn : Nat := 17
abbrev F_ref08_Of : Nat := 18
abbrev F_ref08_Formed : Nat := 19
abbrev F_law08_Formed : Nat := 20
abbrev F_ty_Canon : Nat := 21
abbrev F_ref08_Canon : Nat := 22
abbrev F_ref08_SameInts : Nat := 23
abbrev F_ty_Vars : Nat := 24
abbrev F_ref08_Vars : Nat := 25
abbrev F_ty_Put : Nat := 26
abbrev F_ref08_Put : Nat := 27
abbrev F_ref08_Alike : Nat := 28
abbrev F_ty_Right_1 : Nat := 29
abbrev F_ty_good : Nat := 30
abbrev F_slices_ContainsFunc_STy_Ty : Nat := 31
abbrev F_ty_Right_1_1 : Nat := 32
abbrev F_ref05_OfTy : Nat := 33
abbrev F_slices_EqualFunc_STy_STy_Ty_Ty : Nat := 34
abbrev F_ref05_SameTy : Nat := 35
abbrev F_ty_own : Nat := 36
abbrev F_ref05_CopyTy : Nat := 37
abbrev F_ref08_good : Nat := 38
abbrev F_ty_change : Nat := 39
abbrev F_ty_Canon_1 : Nat := 40
abbrev F_ref08_renamed : Nat := 41
abbrev F_ref08_place : Nat := 42
abbrev F_ty_Put_1 : Nat := 43
abbrev F_ty_given : Nat := 44
abbrev F_ty_low : Nat := 45
abbrev F_slices_IndexFunc_STy_Ty : Nat := 46
abbrev F_ref05_Low : Nat := 47
abbrev F_ref05_Args : Nat := 48
abbrev F_tree_RightPat : Nat := 49
abbrev F_ref05_shaped : Nat := 50
abbrev F_ref05_among : Nat := 51
abbrev F_ref05_Words : Nat := 52
abbrev F_tree_right : Nat := 53
abbrev F_tree_pattern : Nat := 54
abbrev F_tree_RightPat_1 : Nat := 55
abbrev F_tree_deepPat : Nat := 56
abbrev F_ref05_letter : Nat := 57
abbrev F_ref05_rest : Nat := 58
abbrev F_tree_count : Nat := 59
abbrev F_tree_thing_wrong : Nat := 60
abbrev F_tree_pattern_1 : Nat := 61
abbrev F_tree_walker_pats : Nat := 62
abbrev F_tree_thing_node : Nat := 63
abbrev F_tree_thing_wrongDec : Nat := 64
abbrev F_tree_low : Nat := 65
abbrev F_tree_wrongCon : Nat := 66
abbrev F_tree_wrongExp : Nat := 67
abbrev F_tree_wrongPat : Nat := 68
abbrev F_tree_wrongTy : Nat := 69
abbrev F_tree_small : Nat := 70
abbrev F_tree_run : Nat := 71
abbrev F_strings_Contains : Nat := 72
abbrev F_tree_capital : Nat := 73
abbrev F_tree_fields : Nat := 74
abbrev F_tree_constructor : Nat := 75
abbrev F_tree_isInt : Nat := 76
abbrev F_tree_great : Nat := 77
@[go_sem] theorem T_int_size : (C.ti T_int).size = 1 := by kernel_rfl
@[go_sem] theorem T_int_k : (C.ti T_int).k = .int .i64 := by kernel_rfl
@[go_sem] theorem T_int_agg : (C.ti T_int).isAgg = false := by kernel_rfl
@[go_sem] theorem T_int_good : (C.ti T_int).isGood = true := by kernel_rfl
@[go_sem] theorem T_int_bytes : (C.ti T_int).bytes = 8 := by kernel_rfl
@[go_sem] theorem T_int_zero : (C.ti T_int).zero = [.int .i64 0] := by kernel_rfl
@[go_sem] theorem T_bool_size : (C.ti T_bool).size = 1 := by kernel_rfl
@[go_sem] theorem T_bool_k : (C.ti T_bool).k = .bool := by kernel_rfl
@[go_sem] theorem T_bool_agg : (C.ti T_bool).isAgg = false := by kernel_rfl
@[go_sem] theorem T_bool_good : (C.ti T_bool).isGood = true := by kernel_rfl
@[go_sem] theorem T_bool_bytes : (C.ti T_bool).bytes = 1 := by kernel_rfl
@[go_sem] theorem T_bool_zero : (C.ti T_bool).zero = [.bool false] := by kernel_rfl
@[go_sem] theorem T_uint8_size : (C.ti T_uint8).size = 1 := by kernel_rfl
@[go_sem] theorem T_uint8_k : (C.ti T_uint8).k = .int .u8 := by kernel_rfl
@[go_sem] theorem T_uint8_agg : (C.ti T_uint8).isAgg = false := by kernel_rfl
@[go_sem] theorem T_uint8_good : (C.ti T_uint8).isGood = true := by kernel_rfl
@[go_sem] theorem T_uint8_bytes : (C.ti T_uint8).bytes = 1 := by kernel_rfl
@[go_sem] theorem T_uint8_zero : (C.ti T_uint8).zero = [.int .u8 0] := by kernel_rfl
@[go_sem] theorem T_string_size : (C.ti T_string).size = 1 := by kernel_rfl
@[go_sem] theorem T_string_k : (C.ti T_string).k = .str := by kernel_rfl
@[go_sem] theorem T_string_agg : (C.ti T_string).isAgg = false := by kernel_rfl
@[go_sem] theorem T_string_good : (C.ti T_string).isGood = true := by kernel_rfl
@[go_sem] theorem T_string_bytes : (C.ti T_string).bytes = 16 := by kernel_rfl
@[go_sem] theorem T_string_zero : (C.ti T_string).zero = [.str []] := by kernel_rfl
@[go_sem] theorem T_TyKind_size : (C.ti T_TyKind).size = 1 := by kernel_rfl
@[go_sem] theorem T_TyKind_k : (C.ti T_TyKind).k = .int .i64 := by kernel_rfl
@[go_sem] theorem T_TyKind_agg : (C.ti T_TyKind).isAgg = false := by kernel_rfl
@[go_sem] theorem T_TyKind_good : (C.ti T_TyKind).isGood = true := by kernel_rfl
@[go_sem] theorem T_TyKind_bytes : (C.ti T_TyKind).bytes = 8 := by kernel_rfl
@[go_sem] theorem T_TyKind_zero : (C.ti T_TyKind).zero = [.int .i64 0] := by kernel_rfl
@[go_sem] theorem T_S_Ty_size : (C.ti T_S_Ty).size = 1 := by kernel_rfl
@[go_sem] theorem T_S_Ty_k : (C.ti T_S_Ty).k = .slice 25 := by kernel_rfl
@[go_sem] theorem T_S_Ty_agg : (C.ti T_S_Ty).isAgg = false := by kernel_rfl
@[go_sem] theorem T_S_Ty_good : (C.ti T_S_Ty).isGood = true := by kernel_rfl
@[go_sem] theorem T_S_Ty_bytes : (C.ti T_S_Ty).bytes = 24 := by kernel_rfl
@[go_sem] theorem T_S_Ty_zero : (C.ti T_S_Ty).zero = [.nils] := by kernel_rfl
@[go_sem] theorem T_Ty_size : (C.ti T_Ty).size = 4 := by kernel_rfl
@[go_sem] theorem T_Ty_k : (C.ti T_Ty).k = .struct [(0, 22), (1, 3), (2, 9), (3, 23)] := by kernel_rfl
@[go_sem] theorem T_Ty_agg : (C.ti T_Ty).isAgg = true := by kernel_rfl
@[go_sem] theorem T_Ty_good : (C.ti T_Ty).isGood = true := by kernel_rfl
@[go_sem] theorem T_Ty_bytes : (C.ti T_Ty).bytes = 56 := by kernel_rfl
@[go_sem] theorem T_Ty_zero : (C.ti T_Ty).zero = [.int .i64 0, .int .i64 0, .str [], .nils] := by kernel_rfl
@[go_sem] theorem T_26_size : (C.ti T_26).size = 1 := by kernel_rfl
@[go_sem] theorem T_26_k : (C.ti T_26).k = .func := by kernel_rfl
@[go_sem] theorem T_26_agg : (C.ti T_26).isAgg = false := by kernel_rfl
@[go_sem] theorem T_26_good : (C.ti T_26).isGood = true := by kernel_rfl
@[go_sem] theorem T_26_bytes : (C.ti T_26).bytes = 8 := by kernel_rfl
@[go_sem] theorem T_26_zero : (C.ti T_26).zero = [.nilf] := by kernel_rfl
@[go_sem] theorem T_S_int_size : (C.ti T_S_int).size = 1 := by kernel_rfl
@[go_sem] theorem T_S_int_k : (C.ti T_S_int).k = .slice 3 := by kernel_rfl
@[go_sem] theorem T_S_int_agg : (C.ti T_S_int).isAgg = false := by kernel_rfl
@[go_sem] theorem T_S_int_good : (C.ti T_S_int).isGood = true := by kernel_rfl
@[go_sem] theorem T_S_int_bytes : (C.ti T_S_int).bytes = 24 := by kernel_rfl
@[go_sem] theorem T_S_int_zero : (C.ti T_S_int).zero = [.nils] := by kernel_rfl
@[go_sem] theorem T_S_ref05_Node_size : (C.ti T_S_ref05_Node).size = 1 := by kernel_rfl
@[go_sem] theorem T_S_ref05_Node_k : (C.ti T_S_ref05_Node).k = .slice 70 := by kernel_rfl
@[go_sem] theorem T_S_ref05_Node_agg : (C.ti T_S_ref05_Node).isAgg = false := by kernel_rfl
@[go_sem] theorem T_S_ref05_Node_good : (C.ti T_S_ref05_Node).isGood = true := by kernel_rfl
@[go_sem] theorem T_S_ref05_Node_bytes : (C.ti T_S_ref05_Node).bytes = 24 := by kernel_rfl
@[go_sem] theorem T_S_ref05_Node_zero : (C.ti T_S_ref05_Node).zero = [.nils] := by kernel_rfl
@[go_sem] theorem T_DecKind_size : (C.ti T_DecKind).size = 1 := by kernel_rfl
@[go_sem] theorem T_DecKind_k : (C.ti T_DecKind).k = .int .i64 := by kernel_rfl
@[go_sem] theorem T_DecKind_agg : (C.ti T_DecKind).isAgg = false := by kernel_rfl
@[go_sem] theorem T_DecKind_good : (C.ti T_DecKind).isGood = true := by kernel_rfl
@[go_sem] theorem T_DecKind_bytes : (C.ti T_DecKind).bytes = 8 := by kernel_rfl
@[go_sem] theorem T_DecKind_zero : (C.ti T_DecKind).zero = [.int .i64 0] := by kernel_rfl
@[go_sem] theorem T_S_Con_size : (C.ti T_S_Con).size = 1 := by kernel_rfl
@[go_sem] theorem T_S_Con_k : (C.ti T_S_Con).k = .slice 68 := by kernel_rfl
@[go_sem] theorem T_S_Con_agg : (C.ti T_S_Con).isAgg = false := by kernel_rfl
@[go_sem] theorem T_S_Con_good : (C.ti T_S_Con).isGood = true := by kernel_rfl
@[go_sem] theorem T_S_Con_bytes : (C.ti T_S_Con).bytes = 24 := by kernel_rfl
@[go_sem] theorem T_S_Con_zero : (C.ti T_S_Con).zero = [.nils] := by kernel_rfl
@[go_sem] theorem T_S_Case_size : (C.ti T_S_Case).size = 1 := by kernel_rfl
@[go_sem] theorem T_S_Case_k : (C.ti T_S_Case).k = .slice 64 := by kernel_rfl
@[go_sem] theorem T_S_Case_agg : (C.ti T_S_Case).isAgg = false := by kernel_rfl
@[go_sem] theorem T_S_Case_good : (C.ti T_S_Case).isGood = true := by kernel_rfl
@[go_sem] theorem T_S_Case_bytes : (C.ti T_S_Case).bytes = 24 := by kernel_rfl
@[go_sem] theorem T_S_Case_zero : (C.ti T_S_Case).zero = [.nils] := by kernel_rfl
@[go_sem] theorem T_S_Fun_size : (C.ti T_S_Fun).size = 1 := by kernel_rfl
@[go_sem] theorem T_S_Fun_k : (C.ti T_S_Fun).k = .slice 66 := by kernel_rfl
@[go_sem] theorem T_S_Fun_agg : (C.ti T_S_Fun).isAgg = false := by kernel_rfl
@[go_sem] theorem T_S_Fun_good : (C.ti T_S_Fun).isGood = true := by kernel_rfl
@[go_sem] theorem T_S_Fun_bytes : (C.ti T_S_Fun).bytes = 24 := by kernel_rfl
@[go_sem] theorem T_S_Fun_zero : (C.ti T_S_Fun).zero = [.nils] := by kernel_rfl
@[go_sem] theorem T_ExpKind_size : (C.ti T_ExpKind).size = 1 := by kernel_rfl
@[go_sem] theorem T_ExpKind_k : (C.ti T_ExpKind).k = .int .i64 := by kernel_rfl
@[go_sem] theorem T_ExpKind_agg : (C.ti T_ExpKind).isAgg = false := by kernel_rfl
@[go_sem] theorem T_ExpKind_good : (C.ti T_ExpKind).isGood = true := by kernel_rfl
@[go_sem] theorem T_ExpKind_bytes : (C.ti T_ExpKind).bytes = 8 := by kernel_rfl
@[go_sem] theorem T_ExpKind_zero : (C.ti T_ExpKind).zero = [.int .i64 0] := by kernel_rfl
@[go_sem] theorem T_S_Exp_size : (C.ti T_S_Exp).size = 1 := by kernel_rfl
@[go_sem] theorem T_S_Exp_k : (C.ti T_S_Exp).k = .slice 58 := by kernel_rfl
@[go_sem] theorem T_S_Exp_agg : (C.ti T_S_Exp).isAgg = false := by kernel_rfl
@[go_sem] theorem T_S_Exp_good : (C.ti T_S_Exp).isGood = true := by kernel_rfl
@[go_sem] theorem T_S_Exp_bytes : (C.ti T_S_Exp).bytes = 24 := by kernel_rfl
@[go_sem] theorem T_S_Exp_zero : (C.ti T_S_Exp).zero = [.nils] := by kernel_rfl
@[go_sem] theorem T_S_Dec_size : (C.ti T_S_Dec).size = 1 := by kernel_rfl
@[go_sem] theorem T_S_Dec_k : (C.ti T_S_Dec).k = .slice 53 := by kernel_rfl
@[go_sem] theorem T_S_Dec_agg : (C.ti T_S_Dec).isAgg = false := by kernel_rfl
@[go_sem] theorem T_S_Dec_good : (C.ti T_S_Dec).isGood = true := by kernel_rfl
@[go_sem] theorem T_S_Dec_bytes : (C.ti T_S_Dec).bytes = 24 := by kernel_rfl
@[go_sem] theorem T_S_Dec_zero : (C.ti T_S_Dec).zero = [.nils] := by kernel_rfl
@[go_sem] theorem T_Exp_size : (C.ti T_Exp).size = 7 := by kernel_rfl
@[go_sem] theorem T_Exp_k : (C.ti T_Exp).k = .struct [(0, 54), (1, 3), (2, 9), (3, 3), (4, 55), (5, 50), (6, 56)] := by kernel_rfl
@[go_sem] theorem T_Exp_agg : (C.ti T_Exp).isAgg = true := by kernel_rfl
@[go_sem] theorem T_Exp_good : (C.ti T_Exp).isGood = true := by kernel_rfl
@[go_sem] theorem T_Exp_bytes : (C.ti T_Exp).bytes = 112 := by kernel_rfl
@[go_sem] theorem T_Exp_zero : (C.ti T_Exp).zero = [.int .i64 0, .int .i64 0, .str [], .int .i64 0, .nils, .nils, .nils] := by kernel_rfl
@[go_sem] theorem T_PatKind_size : (C.ti T_PatKind).size = 1 := by kernel_rfl
@[go_sem] theorem T_PatKind_k : (C.ti T_PatKind).k = .int .i64 := by kernel_rfl
@[go_sem] theorem T_PatKind_agg : (C.ti T_PatKind).isAgg = false := by kernel_rfl
@[go_sem] theorem T_PatKind_good : (C.ti T_PatKind).isGood = true := by kernel_rfl
@[go_sem] theorem T_PatKind_bytes : (C.ti T_PatKind).bytes = 8 := by kernel_rfl
@[go_sem] theorem T_PatKind_zero : (C.ti T_PatKind).zero = [.int .i64 0] := by kernel_rfl
@[go_sem] theorem T_S_Pat_size : (C.ti T_S_Pat).size = 1 := by kernel_rfl
@[go_sem] theorem T_S_Pat_k : (C.ti T_S_Pat).k = .slice 62 := by kernel_rfl
@[go_sem] theorem T_S_Pat_agg : (C.ti T_S_Pat).isAgg = false := by kernel_rfl
@[go_sem] theorem T_S_Pat_good : (C.ti T_S_Pat).isGood = true := by kernel_rfl
@[go_sem] theorem T_S_Pat_bytes : (C.ti T_S_Pat).bytes = 24 := by kernel_rfl
@[go_sem] theorem T_S_Pat_zero : (C.ti T_S_Pat).zero = [.nils] := by kernel_rfl
@[go_sem] theorem T_Pat_size : (C.ti T_Pat).size = 5 := by kernel_rfl
@[go_sem] theorem T_Pat_k : (C.ti T_Pat).k = .struct [(0, 59), (1, 3), (2, 9), (3, 3), (4, 60)] := by kernel_rfl
@[go_sem] theorem T_Pat_agg : (C.ti T_Pat).isAgg = true := by kernel_rfl
@[go_sem] theorem T_Pat_good : (C.ti T_Pat).isGood = true := by kernel_rfl
@[go_sem] theorem T_Pat_bytes : (C.ti T_Pat).bytes = 64 := by kernel_rfl
@[go_sem] theorem T_Pat_zero : (C.ti T_Pat).zero = [.int .i64 0, .int .i64 0, .str [], .int .i64 0, .nils] := by kernel_rfl
@[go_sem] theorem T_Con_size : (C.ti T_Con).size = 7 := by kernel_rfl
@[go_sem] theorem T_Con_k : (C.ti T_Con).k = .struct [(0, 9), (1, 3), (2, 4), (3, 25)] := by kernel_rfl
@[go_sem] theorem T_Con_agg : (C.ti T_Con).isAgg = true := by kernel_rfl
@[go_sem] theorem T_Con_good : (C.ti T_Con).isGood = true := by kernel_rfl
@[go_sem] theorem T_Con_bytes : (C.ti T_Con).bytes = 88 := by kernel_rfl
@[go_sem] theorem T_Con_zero : (C.ti T_Con).zero = [.str [], .int .i64 0, .bool false, .int .i64 0, .int .i64 0, .str [], .nils] := by kernel_rfl
@[go_sem] theorem T_ref05_Node_size : (C.ti T_ref05_Node).size = 47 := by kernel_rfl
@[go_sem] theorem T_ref05_Node_k : (C.ti T_ref05_Node).k = .struct [(0, 3), (1, 4), (2, 3), (3, 53), (10, 58), (17, 62), (22, 25), (26, 66), (40, 68)] := by kernel_rfl
@[go_sem] theorem T_ref05_Node_agg : (C.ti T_ref05_Node).isAgg = true := by kernel_rfl
@[go_sem] theorem T_ref05_Node_good : (C.ti T_ref05_Node).isGood = true := by kernel_rfl
@[go_sem] theorem T_ref05_Node_bytes : (C.ti T_ref05_Node).bytes = 656 := by kernel_rfl
@[go_sem] theorem T_ref05_Node_zero : (C.ti T_ref05_Node).zero = [.int .i64 0, .bool false, .int .i64 0, .int .i64 0, .int .i64 0, .str [], .int .i64 0, .nils, .nils, .nils, .int .i64 0, .int .i64 0, .str [], .int .i64 0, .nils, .nils, .nils, .int .i64 0, .int .i64 0, .str [], .int .i64 0, .nils, .int .i64 0, .int .i64 0, .str [], .nils, .str [], .int .i64 0, .int .i64 0, .int .i64 0, .str [], .int .i64 0, .nils, .int .i64 0, .int .i64 0, .str [], .int .i64 0, .nils, .nils, .nils, .str [], .int .i64 0, .bool false, .int .i64 0, .int .i64 0, .str [], .nils] := by kernel_rfl
@[go_sem] theorem T_71_size : (C.ti T_71).size = 1 := by kernel_rfl
@[go_sem] theorem T_71_k : (C.ti T_71).k = .map 3 3 := by kernel_rfl
@[go_sem] theorem T_71_agg : (C.ti T_71).isAgg = false := by kernel_rfl
@[go_sem] theorem T_71_good : (C.ti T_71).isGood = true := by kernel_rfl
@[go_sem] theorem T_71_bytes : (C.ti T_71).bytes = 8 := by kernel_rfl
@[go_sem] theorem T_71_zero : (C.ti T_71).zero = [.nilm] := by kernel_rfl
@[go_sem] theorem T_Errno_size : (C.ti T_Errno).size = 1 := by kernel_rfl
@[go_sem] theorem T_Errno_k : (C.ti T_Errno).k = .int .i64 := by kernel_rfl
@[go_sem] theorem T_Errno_agg : (C.ti T_Errno).isAgg = false := by kernel_rfl
@[go_sem] theorem T_Errno_good : (C.ti T_Errno).isGood = true := by kernel_rfl
@[go_sem] theorem T_Errno_bytes : (C.ti T_Errno).bytes = 8 := by kernel_rfl
@[go_sem] theorem T_Errno_zero : (C.ti T_Errno).zero = [.int .i64 0] := by kernel_rfl
@[go_sem] theorem T_Bad_size : (C.ti T_Bad).size = 3 := by kernel_rfl
@[go_sem] theorem T_Bad_k : (C.ti T_Bad).k = .struct [(0, 83), (1, 3), (2, 9)] := by kernel_rfl
@[go_sem] theorem T_Bad_agg : (C.ti T_Bad).isAgg = true := by kernel_rfl
@[go_sem] theorem T_Bad_good : (C.ti T_Bad).isGood = true := by kernel_rfl
@[go_sem] theorem T_Bad_bytes : (C.ti T_Bad).bytes = 32 := by kernel_rfl
@[go_sem] theorem T_Bad_zero : (C.ti T_Bad).zero = [.int .i64 0, .int .i64 0, .str []] := by kernel_rfl
@[go_sem] theorem T_S_string_size : (C.ti T_S_string).size = 1 := by kernel_rfl
@[go_sem] theorem T_S_string_k : (C.ti T_S_string).k = .slice 9 := by kernel_rfl
@[go_sem] theorem T_S_string_agg : (C.ti T_S_string).isAgg = false := by kernel_rfl
@[go_sem] theorem T_S_string_good : (C.ti T_S_string).isGood = true := by kernel_rfl
@[go_sem] theorem T_S_string_bytes : (C.ti T_S_string).bytes = 24 := by kernel_rfl
@[go_sem] theorem T_S_string_zero : (C.ti T_S_string).zero = [.nils] := by kernel_rfl
@[go_sem] theorem T_P_Dec_size : (C.ti T_P_Dec).size = 1 := by kernel_rfl
@[go_sem] theorem T_P_Dec_k : (C.ti T_P_Dec).k = .ptr := by kernel_rfl
@[go_sem] theorem T_P_Dec_agg : (C.ti T_P_Dec).isAgg = false := by kernel_rfl
@[go_sem] theorem T_P_Dec_good : (C.ti T_P_Dec).isGood = true := by kernel_rfl
@[go_sem] theorem T_P_Dec_bytes : (C.ti T_P_Dec).bytes = 8 := by kernel_rfl
@[go_sem] theorem T_P_Dec_zero : (C.ti T_P_Dec).zero = [.nilp] := by kernel_rfl
@[go_sem] theorem T_P_Fun_size : (C.ti T_P_Fun).size = 1 := by kernel_rfl
@[go_sem] theorem T_P_Fun_k : (C.ti T_P_Fun).k = .ptr := by kernel_rfl
@[go_sem] theorem T_P_Fun_agg : (C.ti T_P_Fun).isAgg = false := by kernel_rfl
@[go_sem] theorem T_P_Fun_good : (C.ti T_P_Fun).isGood = true := by kernel_rfl
@[go_sem] theorem T_P_Fun_bytes : (C.ti T_P_Fun).bytes = 8 := by kernel_rfl
@[go_sem] theorem T_P_Fun_zero : (C.ti T_P_Fun).zero = [.nilp] := by kernel_rfl
@[go_sem] theorem T_P_Con_size : (C.ti T_P_Con).size = 1 := by kernel_rfl
@[go_sem] theorem T_P_Con_k : (C.ti T_P_Con).k = .ptr := by kernel_rfl
@[go_sem] theorem T_P_Con_agg : (C.ti T_P_Con).isAgg = false := by kernel_rfl
@[go_sem] theorem T_P_Con_good : (C.ti T_P_Con).isGood = true := by kernel_rfl
@[go_sem] theorem T_P_Con_bytes : (C.ti T_P_Con).bytes = 8 := by kernel_rfl
@[go_sem] theorem T_P_Con_zero : (C.ti T_P_Con).zero = [.nilp] := by kernel_rfl
@[go_sem] theorem T_P_Exp_size : (C.ti T_P_Exp).size = 1 := by kernel_rfl
@[go_sem] theorem T_P_Exp_k : (C.ti T_P_Exp).k = .ptr := by kernel_rfl
@[go_sem] theorem T_P_Exp_agg : (C.ti T_P_Exp).isAgg = false := by kernel_rfl
@[go_sem] theorem T_P_Exp_good : (C.ti T_P_Exp).isGood = true := by kernel_rfl
@[go_sem] theorem T_P_Exp_bytes : (C.ti T_P_Exp).bytes = 8 := by kernel_rfl
@[go_sem] theorem T_P_Exp_zero : (C.ti T_P_Exp).zero = [.nilp] := by kernel_rfl
@[go_sem] theorem T_P_Pat_size : (C.ti T_P_Pat).size = 1 := by kernel_rfl
@[go_sem] theorem T_P_Pat_k : (C.ti T_P_Pat).k = .ptr := by kernel_rfl
@[go_sem] theorem T_P_Pat_agg : (C.ti T_P_Pat).isAgg = false := by kernel_rfl
@[go_sem] theorem T_P_Pat_good : (C.ti T_P_Pat).isGood = true := by kernel_rfl
@[go_sem] theorem T_P_Pat_bytes : (C.ti T_P_Pat).bytes = 8 := by kernel_rfl
@[go_sem] theorem T_P_Pat_zero : (C.ti T_P_Pat).zero = [.nilp] := by kernel_rfl
@[go_sem] theorem T_P_Ty_size : (C.ti T_P_Ty).size = 1 := by kernel_rfl
@[go_sem] theorem T_P_Ty_k : (C.ti T_P_Ty).k = .ptr := by kernel_rfl
@[go_sem] theorem T_P_Ty_agg : (C.ti T_P_Ty).isAgg = false := by kernel_rfl
@[go_sem] theorem T_P_Ty_good : (C.ti T_P_Ty).isGood = true := by kernel_rfl
@[go_sem] theorem T_P_Ty_bytes : (C.ti T_P_Ty).bytes = 8 := by kernel_rfl
@[go_sem] theorem T_P_Ty_zero : (C.ti T_P_Ty).zero = [.nilp] := by kernel_rfl
@[go_sem] theorem T_thing_size : (C.ti T_thing).size = 8 := by kernel_rfl
@[go_sem] theorem T_thing_k : (C.ti T_thing).k = .struct [(0, 100), (1, 4), (2, 101), (3, 102), (4, 103), (5, 104), (6, 105), (7, 3)] := by kernel_rfl
@[go_sem] theorem T_thing_agg : (C.ti T_thing).isAgg = true := by kernel_rfl
@[go_sem] theorem T_thing_good : (C.ti T_thing).isGood = true := by kernel_rfl
@[go_sem] theorem T_thing_bytes : (C.ti T_thing).bytes = 64 := by kernel_rfl
@[go_sem] theorem T_thing_zero : (C.ti T_thing).zero = [.nilp, .bool false, .nilp, .nilp, .nilp, .nilp, .nilp, .int .i64 0] := by kernel_rfl
@[go_sem] theorem T_109_size : (C.ti T_109).size = 1 := by kernel_rfl
@[go_sem] theorem T_109_k : (C.ti T_109).k = .func := by kernel_rfl
@[go_sem] theorem T_109_agg : (C.ti T_109).isAgg = false := by kernel_rfl
@[go_sem] theorem T_109_good : (C.ti T_109).isGood = true := by kernel_rfl
@[go_sem] theorem T_109_bytes : (C.ti T_109).bytes = 8 := by kernel_rfl
@[go_sem] theorem T_109_zero : (C.ti T_109).zero = [.nilf] := by kernel_rfl
@[go_sem] theorem T_walker_size : (C.ti T_walker).size = 1 := by kernel_rfl
@[go_sem] theorem T_walker_k : (C.ti T_walker).k = .struct [(0, 109)] := by kernel_rfl
@[go_sem] theorem T_walker_agg : (C.ti T_walker).isAgg = true := by kernel_rfl
@[go_sem] theorem T_walker_good : (C.ti T_walker).isGood = true := by kernel_rfl
@[go_sem] theorem T_walker_bytes : (C.ti T_walker).bytes = 8 := by kernel_rfl
@[go_sem] theorem T_walker_zero : (C.ti T_walker).zero = [.nilf] := by kernel_rfl
@[go_sem] theorem T_has_size : (C.ti T_has).size = 6 := by kernel_rfl
@[go_sem] theorem T_has_k : (C.ti T_has).k = .struct [(0, 4), (1, 4), (2, 4), (3, 4), (4, 3), (5, 3)] := by kernel_rfl
@[go_sem] theorem T_has_agg : (C.ti T_has).isAgg = true := by kernel_rfl
@[go_sem] theorem T_has_good : (C.ti T_has).isGood = true := by kernel_rfl
@[go_sem] theorem T_has_bytes : (C.ti T_has).bytes = 24 := by kernel_rfl
@[go_sem] theorem T_has_zero : (C.ti T_has).zero = [.bool false, .bool false, .bool false, .bool false, .int .i64 0, .int .i64 0] := by kernel_rfl
end Go.Proofs.Ytfkihppbbeonkaa

namespace Go.Proofs.Ytfkihppbbeonkaa
open Go Go.Am
set_option linter.unusedVariables false
theorem ok_3 : okFn C 3 Go.Proofs.Try.f3 = true := by kernel_rfl
theorem ok_4 : okFn C 4 Go.Proofs.Try.f4 = true := by kernel_rfl
theorem ok_5 : okFn C 5 Go.Proofs.Try.f5 = true := by kernel_rfl
theorem ok_6 : okFn C 6 Go.Proofs.Try.f6 = true := by kernel_rfl
theorem ok_7 : okFn C 7 Go.Proofs.Try.f7 = true := by kernel_rfl
theorem ok_8 : okFn C 8 Go.Proofs.Try.f8 = true := by kernel_rfl
theorem ok_9 : okFn C 9 Go.Proofs.Try.f9 = true := by kernel_rfl
theorem ok_10 : okFn C 10 Go.Proofs.Try.f10 = true := by kernel_rfl
theorem ok_11 : okFn C 11 Go.Proofs.Try.f11 = true := by kernel_rfl
theorem ok_12 : okFn C 12 Go.Proofs.Try.f12 = true := by kernel_rfl
theorem ok_13 : okFn C 13 Go.Proofs.Try.f13 = true := by kernel_rfl
theorem ok_14 : okFn C 14 Go.Proofs.Try.f14 = true := by kernel_rfl
theorem ok_15 : okFn C 15 Go.Proofs.Try.f15 = true := by kernel_rfl
theorem ok_16 : okFn C 16 Go.Proofs.Try.f16 = true := by kernel_rfl
theorem ok_17 : okFn C 17 Go.Proofs.Try.f17 = true := by kernel_rfl
theorem ok_18 : okFn C 18 Go.Proofs.Try.f18 = true := by kernel_rfl
theorem ok_19 : okFn C 19 Go.Proofs.Try.f19 = true := by kernel_rfl
theorem ok_20 : okFn C 20 Go.Proofs.Try.f20 = true := by kernel_rfl
theorem ok_21 : okFn C 21 Go.Proofs.Try.f21 = true := by kernel_rfl
theorem ok_22 : okFn C 22 Go.Proofs.Try.f22 = true := by kernel_rfl
theorem ok_23 : okFn C 23 Go.Proofs.Try.f23 = true := by kernel_rfl
theorem ok_24 : okFn C 24 Go.Proofs.Try.f24 = true := by kernel_rfl
theorem ok_25 : okFn C 25 Go.Proofs.Try.f25 = true := by kernel_rfl
theorem ok_26 : okFn C 26 Go.Proofs.Try.f26 = true := by kernel_rfl
theorem ok_27 : okFn C 27 Go.Proofs.Try.f27 = true := by kernel_rfl
theorem ok_28 : okFn C 28 Go.Proofs.Try.f28 = true := by kernel_rfl
theorem ok_29 : okFn C 29 Go.Proofs.Try.f29 = true := by kernel_rfl
theorem ok_30 : okFn C 30 Go.Proofs.Try.f30 = true := by kernel_rfl
theorem ok_31 : okFn C 31 Go.Proofs.Try.f31 = true := by kernel_rfl
theorem ok_32 : okFn C 32 Go.Proofs.Try.f32 = true := by kernel_rfl
theorem ok_33 : okFn C 33 Go.Proofs.Try.f33 = true := by kernel_rfl
theorem ok_34 : okFn C 34 Go.Proofs.Try.f34 = true := by kernel_rfl
theorem ok_35 : okFn C 35 Go.Proofs.Try.f35 = true := by kernel_rfl
theorem ok_36 : okFn C 36 Go.Proofs.Try.f36 = true := by kernel_rfl
theorem ok_37 : okFn C 37 Go.Proofs.Try.f37 = true := by kernel_rfl
theorem ok_38 : okFn C 38 Go.Proofs.Try.f38 = true := by kernel_rfl
theorem ok_39 : okFn C 39 Go.Proofs.Try.f39 = true := by kernel_rfl
theorem ok_40 : okFn C 40 Go.Proofs.Try.f40 = true := by kernel_rfl
theorem ok_41 : okFn C 41 Go.Proofs.Try.f41 = true := by kernel_rfl
theorem ok_42 : okFn C 42 Go.Proofs.Try.f42 = true := by kernel_rfl
theorem ok_43 : okFn C 43 Go.Proofs.Try.f43 = true := by kernel_rfl
theorem ok_44 : okFn C 44 Go.Proofs.Try.f44 = true := by kernel_rfl
theorem ok_45 : okFn C 45 Go.Proofs.Try.f45 = true := by kernel_rfl
theorem ok_46 : okFn C 46 Go.Proofs.Try.f46 = true := by kernel_rfl
theorem ok_47 : okFn C 47 Go.Proofs.Try.f47 = true := by kernel_rfl
theorem ok_48 : okFn C 48 Go.Proofs.Try.f48 = true := by kernel_rfl
theorem ok_49 : okFn C 49 Go.Proofs.Try.f49 = true := by kernel_rfl
theorem ok_50 : okFn C 50 Go.Proofs.Try.f50 = true := by kernel_rfl
theorem ok_51 : okFn C 51 Go.Proofs.Try.f51 = true := by kernel_rfl
theorem ok_52 : okFn C 52 Go.Proofs.Try.f52 = true := by kernel_rfl
theorem ok_53 : okFn C 53 Go.Proofs.Try.f53 = true := by kernel_rfl
theorem ok_54 : okFn C 54 Go.Proofs.Try.f54 = true := by kernel_rfl
theorem ok_55 : okFn C 55 Go.Proofs.Try.f55 = true := by kernel_rfl
theorem ok_56 : okFn C 56 Go.Proofs.Try.f56 = true := by kernel_rfl
theorem ok_57 : okFn C 57 Go.Proofs.Try.f57 = true := by kernel_rfl
theorem ok_58 : okFn C 58 Go.Proofs.Try.f58 = true := by kernel_rfl
theorem ok_59 : okFn C 59 Go.Proofs.Try.f59 = true := by kernel_rfl
theorem ok_60 : okFn C 60 Go.Proofs.Try.f60 = true := by kernel_rfl
theorem ok_61 : okFn C 61 Go.Proofs.Try.f61 = true := by kernel_rfl
theorem ok_62 : okFn C 62 Go.Proofs.Try.f62 = true := by kernel_rfl
theorem ok_63 : okFn C 63 Go.Proofs.Try.f63 = true := by kernel_rfl
theorem ok_64 : okFn C 64 Go.Proofs.Try.f64 = true := by kernel_rfl
theorem ok_65 : okFn C 65 Go.Proofs.Try.f65 = true := by kernel_rfl
theorem ok_66 : okFn C 66 Go.Proofs.Try.f66 = true := by kernel_rfl
theorem ok_67 : okFn C 67 Go.Proofs.Try.f67 = true := by kernel_rfl
theorem ok_68 : okFn C 68 Go.Proofs.Try.f68 = true := by kernel_rfl
theorem ok_69 : okFn C 69 Go.Proofs.Try.f69 = true := by kernel_rfl
theorem ok_70 : okFn C 70 Go.Proofs.Try.f70 = true := by kernel_rfl
theorem ok_71 : okFn C 71 Go.Proofs.Try.f71 = true := by kernel_rfl
theorem ok_73 : okFn C 73 Go.Proofs.Try.f73 = true := by kernel_rfl
theorem ok_74 : okFn C 74 Go.Proofs.Try.f74 = true := by kernel_rfl
theorem ok_75 : okFn C 75 Go.Proofs.Try.f75 = true := by kernel_rfl
theorem ok_76 : okFn C 76 Go.Proofs.Try.f76 = true := by kernel_rfl
theorem ok_77 : okFn C 77 Go.Proofs.Try.f77 = true := by kernel_rfl
theorem codes_all : AllP (FnOK Go.Proofs.Try.prog C) codes := ⟨⟨Go.Proofs.Try.func3, ok_3⟩, ⟨Go.Proofs.Try.func4, ok_4⟩, ⟨Go.Proofs.Try.func5, ok_5⟩, ⟨Go.Proofs.Try.func6, ok_6⟩, ⟨Go.Proofs.Try.func7, ok_7⟩, ⟨Go.Proofs.Try.func8, ok_8⟩, ⟨Go.Proofs.Try.func9, ok_9⟩, ⟨Go.Proofs.Try.func10, ok_10⟩, ⟨Go.Proofs.Try.func11, ok_11⟩, ⟨Go.Proofs.Try.func12, ok_12⟩, ⟨Go.Proofs.Try.func13, ok_13⟩, ⟨Go.Proofs.Try.func14, ok_14⟩, ⟨Go.Proofs.Try.func15, ok_15⟩, ⟨Go.Proofs.Try.func16, ok_16⟩, ⟨Go.Proofs.Try.func17, ok_17⟩, ⟨Go.Proofs.Try.func18, ok_18⟩, ⟨Go.Proofs.Try.func19, ok_19⟩, ⟨Go.Proofs.Try.func20, ok_20⟩, ⟨Go.Proofs.Try.func21, ok_21⟩, ⟨Go.Proofs.Try.func22, ok_22⟩, ⟨Go.Proofs.Try.func23, ok_23⟩, ⟨Go.Proofs.Try.func24, ok_24⟩, ⟨Go.Proofs.Try.func25, ok_25⟩, ⟨Go.Proofs.Try.func26, ok_26⟩, ⟨Go.Proofs.Try.func27, ok_27⟩, ⟨Go.Proofs.Try.func28, ok_28⟩, ⟨Go.Proofs.Try.func29, ok_29⟩, ⟨Go.Proofs.Try.func30, ok_30⟩, ⟨Go.Proofs.Try.func31, ok_31⟩, ⟨Go.Proofs.Try.func32, ok_32⟩, ⟨Go.Proofs.Try.func33, ok_33⟩, ⟨Go.Proofs.Try.func34, ok_34⟩, ⟨Go.Proofs.Try.func35, ok_35⟩, ⟨Go.Proofs.Try.func36, ok_36⟩, ⟨Go.Proofs.Try.func37, ok_37⟩, ⟨Go.Proofs.Try.func38, ok_38⟩, ⟨Go.Proofs.Try.func39, ok_39⟩, ⟨Go.Proofs.Try.func40, ok_40⟩, ⟨Go.Proofs.Try.func41, ok_41⟩, ⟨Go.Proofs.Try.func42, ok_42⟩, ⟨Go.Proofs.Try.func43, ok_43⟩, ⟨Go.Proofs.Try.func44, ok_44⟩, ⟨Go.Proofs.Try.func45, ok_45⟩, ⟨Go.Proofs.Try.func46, ok_46⟩, ⟨Go.Proofs.Try.func47, ok_47⟩, ⟨Go.Proofs.Try.func48, ok_48⟩, ⟨Go.Proofs.Try.func49, ok_49⟩, ⟨Go.Proofs.Try.func50, ok_50⟩, ⟨Go.Proofs.Try.func51, ok_51⟩, ⟨Go.Proofs.Try.func52, ok_52⟩, ⟨Go.Proofs.Try.func53, ok_53⟩, ⟨Go.Proofs.Try.func54, ok_54⟩, ⟨Go.Proofs.Try.func55, ok_55⟩, ⟨Go.Proofs.Try.func56, ok_56⟩, ⟨Go.Proofs.Try.func57, ok_57⟩, ⟨Go.Proofs.Try.func58, ok_58⟩, ⟨Go.Proofs.Try.func59, ok_59⟩, ⟨Go.Proofs.Try.func60, ok_60⟩, ⟨Go.Proofs.Try.func61, ok_61⟩, ⟨Go.Proofs.Try.func62, ok_62⟩, ⟨Go.Proofs.Try.func63, ok_63⟩, ⟨Go.Proofs.Try.func64, ok_64⟩, ⟨Go.Proofs.Try.func65, ok_65⟩, ⟨Go.Proofs.Try.func66, ok_66⟩, ⟨Go.Proofs.Try.func67, ok_67⟩, ⟨Go.Proofs.Try.func68, ok_68⟩, ⟨Go.Proofs.Try.func69, ok_69⟩, ⟨Go.Proofs.Try.func70, ok_70⟩, ⟨Go.Proofs.Try.func71, ok_71⟩, ⟨Go.Proofs.Try.func73, ok_73⟩, ⟨Go.Proofs.Try.func74, ok_74⟩, ⟨Go.Proofs.Try.func75, ok_75⟩, ⟨Go.Proofs.Try.func76, ok_76⟩, ⟨Go.Proofs.Try.func77, ok_77⟩, trivial⟩
theorem types_all : allTo (tyB Go.Proofs.Try.prog C.ti) tis.length = true := by kernel_rfl
end Go.Proofs.Ytfkihppbbeonkaa
