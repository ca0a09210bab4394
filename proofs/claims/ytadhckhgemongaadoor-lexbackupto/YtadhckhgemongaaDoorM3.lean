/- A part of the proof: A25, A26, A28, T1, G1, K, G2, PTree, RDec, RBase0, RBase2, PLex, SLex0, RBaseL, SLex1. -/
import Derived.Test.YtadhckhgemongaaDoorM2
import Derived.Shelf.Strings.Search3
import Derived.Lib.Join
import Derived.Lib.Bytealg
import Derived.KernelRfl
import Derived.Test.YtadhckhgemongaaDoorProg
import Derived.Test.YtadhckhgemongaaDoorRows
import Derived.Test.YtadhckhgemongaaDoorShelf
import Derived.ChangeSame
import Derived.ReadAgain
import Derived.ChangeOld
import Derived.Deep.DeepHandedRow
import Derived.WalkKit
import Derived.ProofKit
import Derived.OpenShut
import Derived.Test.YtadhckhgemongaaDoorTie
import Derived.MakeChecks
import Derived.LaidMore
set_option linter.unusedVariables false
set_option linter.unusedSimpArgs false
namespace Go.Am
open Go
def extContains : List AV → Option AV
  | [.str s, .str t] => if s.length < 4294967281 then some (.bool (Go.Lib.contains s t)) else none
  | _ => none
def extIndexByte : List AV → Option AV
  | [.str s, .int .u8 c] => some (.int .i64 (Go.Lib.indexByte s c.toNat.toUInt8))
  | _ => none
/-- strings that stand in a slice -/
def strL : List AV → Option (List (List UInt8))
  | [] => some []
  | .str s :: r => match strL r with | some l => some (s :: l) | none => none
  | _ => none
def extJoin : List AV → Option AV
  | [x, .str sep] => match (Slot.val x).list? with
    | some l => match strL l with
      | some xs => if xs.length ≤ 140737488355328 ∧ (Go.Lib.join xs sep).length ≤ 140737488355328 then some (.str (Go.Lib.join xs sep)) else none
      | none => none
    | none => none
  | _ => none
end Go.Am

namespace Go.Am
open Go
/-! ### binds -/
@[go_sem] theorem bind1_some (v : Slot) (k : Slot → Res) : bind1 (some v) k = k v := id rfl
@[go_sem] theorem bindL_some (v : List Slot) (k : List Slot → Res) : bindL (some v) k = k v := id rfl
@[go_sem] theorem bindA_some (v : List AV) (k : List AV → Res) : bindA (some v) k = k v := id rfl
@[go_sem] theorem bindB_some (v : Bool) (k : Bool → Res) : bindB (some v) k = k v := id rfl
@[go_sem] theorem bindS_some (v : St) (k : St → Res) : bindS (some v) k = k v := id rfl
@[go_sem] theorem bind2_some (v : Slot) (s : St) (k : Slot → St → Res) : bind2 (some (v, s)) k = k v s := id rfl
@[go_sem] theorem back_ret (v : Slot) (s : St) (k : Slot → St → Res) : back (some (.ret v, s)) k = k v s := id rfl
@[go_sem] theorem noPan_ret (v : Slot) (s : St) : noPan (some (.ret v, s)) = some (.ret v, s) := id rfl
@[congr] theorem bind1_congr {r r' : Option Slot} {k : Slot → Res} (h : r = r') : bind1 r k = bind1 r' k := by rw [h]
@[congr] theorem bindL_congr {r r' : Option (List Slot)} {k : List Slot → Res} (h : r = r') : bindL r k = bindL r' k := by rw [h]
@[congr] theorem bindA_congr {r r' : Option (List AV)} {k : List AV → Res} (h : r = r') : bindA r k = bindA r' k := by rw [h]
@[congr] theorem bindB_congr {r r' : Option Bool} {k : Bool → Res} (h : r = r') : bindB r k = bindB r' k := by rw [h]
@[congr] theorem bindS_congr {r r' : Option St} {k : St → Res} (h : r = r') : bindS r k = bindS r' k := by rw [h]
@[congr] theorem bind2_congr {r r' : Option (Slot × St)} {k : Slot → St → Res} (h : r = r') : bind2 r k = bind2 r' k := by rw [h]
@[congr] theorem back_congr {r r' : Res} {k : Slot → St → Res} (h : r = r') : back r k = back r' k := by rw [h]
/-- a fork -/
def ifR (b : Bool) (x y : Res) : Res := bif b then x else y
@[go_sem] theorem ifR_true (x y : Res) : ifR true x y = x := id rfl
@[go_sem] theorem ifR_false (x y : Res) : ifR false x y = y := id rfl
@[congr] theorem ifR_congr {b b' : Bool} {x y : Res} (h : b = b') : ifR b x y = ifR b' x y := by rw [h]
theorem ifR_pos {b : Bool} (h : b = true) (x y : Res) : ifR b x y = x := by rw [h]; rfl
theorem ifR_neg {b : Bool} (h : b = false) (x y : Res) : ifR b x y = y := by rw [h]; rfl
@[go_sem] theorem ifR_ret (b : Bool) (x y : AV) (s : St) : ifR b (some (.ret (.val x), s)) (some (.ret (.val y), s)) = some (.ret (.val (bif b then x else y)), s) := by cases b <;> rfl
@[go_sem] theorem bif_int (b : Bool) (k : IntKind) (x y : Int) : (bif b then AV.int k x else AV.int k y) = AV.int k (bif b then x else y) := by cases b <;> rfl
@[go_sem] theorem bif_ab (b x y : Bool) : (bif b then AV.bool x else AV.bool y) = AV.bool (bif b then x else y) := by cases b <;> rfl
@[go_sem] theorem bif_str (b : Bool) (x y : List UInt8) : (bif b then AV.str x else AV.str y) = AV.str (bif b then x else y) := by cases b <;> rfl
@[go_sem] theorem condS_bool (b : Bool) (x y : Res) : condS (.val (.bool b)) x y = ifR b x y := id rfl
@[congr] theorem condS_congr {b b' : Slot} {x y : Res} (h : b = b') : condS b x y = condS b' x y := by rw [h]
@[congr] theorem endX_congr {loc loc' : Nat} {s s' : St} {kn kr : St → Res} {ke : Nat → St → Res} (h : loc = loc') (g : s = s') : endX loc s kn kr ke = endX loc' s' kn kr ke := by rw [h, g]
@[congr] theorem rangeC_congr {C : Cfg} {cl : CallFn} {h h' : Slot} {loc loc' : Nat} {s s' : St} {k : St → Res} (e1 : h = h') (e2 : loc = loc') (e3 : s = s') : rangeC C cl h loc s k = rangeC C cl h' loc' s' k := by rw [e1, e2, e3]
/-! ### slots -/
@[go_sem] theorem av_val (v : AV) : (Slot.val v).av = some v := id rfl
@[go_sem] theorem av_own (k : Nat) (e : TypeId) (l : List AV) : (Slot.own k e l).av = some (.sl l) := id rfl
@[go_sem] theorem av_full (l : List AV) : (Slot.full l).av = some (.sl l) := id rfl
@[go_sem] theorem list?_nils : (Slot.val .nils).list? = some [] := id rfl
@[go_sem] theorem list?_sl (l : List AV) : (Slot.val (.sl l)).list? = some l := id rfl
@[go_sem] theorem list?_own (k : Nat) (e : TypeId) (l : List AV) : (Slot.own k e l).list? = some l := id rfl
@[go_sem] theorem list?_full (l : List AV) : (Slot.full l).list? = some l := id rfl
@[go_sem] theorem avs_nil : avs [] = some [] := id rfl
@[go_sem] theorem avs_val (v : AV) (r : List Slot) : avs (.val v :: r) = (avs r).map (v :: ·) := by
  simp only [avs, av_val]; cases avs r <;> rfl
@[go_sem] theorem avs_full (l : List AV) (r : List Slot) : avs (.full l :: r) = (avs r).map (.sl l :: ·) := by
  simp only [avs, av_full]; cases avs r <;> rfl
@[go_sem] theorem avs_own (k : Nat) (e : TypeId) (l : List AV) (r : List Slot) : avs (.own k e l :: r) = (avs r).map (.sl l :: ·) := by
  simp only [avs, av_own]; cases avs r <;> rfl
theorem avs_cons {x : Slot} {v : AV} (h : x.av = some v) (r : List Slot) : avs (x :: r) = (avs r).map (v :: ·) := by
  simp only [avs, h]; cases avs r <;> rfl
@[go_sem] theorem avs_map_val (l : List AV) : avs (l.map .val) = some l := by
  induction l with
  | nil => rfl
  | cons a l ih => simp [go_sem, ih]
/-- a slice's value: nil, or not -/
def encS (nl : Bool) (l : List AV) : AV := bif nl && l.isEmpty then .nils else .sl l
@[go_sem] theorem list?_encS (nl : Bool) (l : List AV) : (Slot.val (encS nl l)).list? = some l := by
  cases nl <;> cases l <;> rfl
@[go_sem] theorem encS_cons (nl : Bool) (a : AV) (l : List AV) : encS nl (a :: l) = .sl (a :: l) := by cases nl <;> rfl
theorem encS_false (l : List AV) : encS false l = .sl l := rfl
@[go_sem] theorem encS_nil : encS true [] = .nils := id rfl
@[go_sem] theorem cellOk_encS (nl : Bool) (l : List AV) : (Slot.val (encS nl l)).cellOk = true := by cases nl <;> cases l <;> rfl
@[go_sem] theorem cells_encS (nl : Bool) (l : List AV) : (encS nl l).cells = [encS nl l] := by cases nl <;> cases l <;> rfl
@[go_sem] theorem isTup_encS (nl : Bool) (l : List AV) : (encS nl l).isTup = false := by cases nl <;> cases l <;> rfl
@[go_sem] theorem cellOk_bool (b : Bool) : (Slot.val (.bool b)).cellOk = true := id rfl
@[go_sem] theorem cellOk_int (k : IntKind) (n : Int) : (Slot.val (.int k n)).cellOk = true := id rfl
@[go_sem] theorem cellOk_str (l : List UInt8) : (Slot.val (.str l)).cellOk = true := id rfl
@[go_sem] theorem cellOk_cp (l : List AV) : (Slot.val (.cp l)).cellOk = true := id rfl
@[go_sem] theorem cellOk_vp (a b : Nat) : (Slot.val (.vp a b)).cellOk = true := id rfl
@[go_sem] theorem cellOk_fn (f : FuncId) (l : List AV) : (Slot.val (.fn f l)).cellOk = true := id rfl
@[go_sem] theorem cellOk_yld (l : Nat) : (Slot.val (.yld l)).cellOk = true := id rfl
@[go_sem] theorem cellOk_nilp : (Slot.val .nilp).cellOk = true := id rfl
@[go_sem] theorem cellOk_nilf : (Slot.val .nilf).cellOk = true := id rfl
@[go_sem] theorem cellOk_nils : (Slot.val .nils).cellOk = true := id rfl
@[go_sem] theorem cellOk_mp (l : Nat) : (Slot.val (.mp l)).cellOk = true := id rfl
@[go_sem] theorem cellOk_own (k : Nat) (e : TypeId) (l : List AV) : (Slot.own k e l).cellOk = true := id rfl
@[go_sem] theorem cellOk_full (l : List AV) : (Slot.full l).cellOk = true := id rfl
@[go_sem] theorem cells_agg (l : List AV) : (AV.agg l).cells = l := id rfl
@[go_sem] theorem cells_bool (b : Bool) : (AV.bool b).cells = [.bool b] := id rfl
@[go_sem] theorem cells_int (k : IntKind) (n : Int) : (AV.int k n).cells = [.int k n] := id rfl
@[go_sem] theorem cells_str (l : List UInt8) : (AV.str l).cells = [.str l] := id rfl
@[go_sem] theorem cells_cp (l : List AV) : (AV.cp l).cells = [.cp l] := id rfl
@[go_sem] theorem cells_sl (l : List AV) : (AV.sl l).cells = [.sl l] := id rfl
@[go_sem] theorem cells_nils : AV.nils.cells = [.nils] := id rfl
@[go_sem] theorem cells_nilp : AV.nilp.cells = [.nilp] := id rfl
@[go_sem] theorem cells_fn (f : FuncId) (l : List AV) : (AV.fn f l).cells = [.fn f l] := id rfl
@[go_sem] theorem cells_yld (l : Nat) : (AV.yld l).cells = [.yld l] := id rfl
@[go_sem] theorem isTup_agg (l : List AV) : (AV.agg l).isTup = false := id rfl
@[go_sem] theorem isTup_bool (b : Bool) : (AV.bool b).isTup = false := id rfl
@[go_sem] theorem isTup_int (k : IntKind) (n : Int) : (AV.int k n).isTup = false := id rfl
@[go_sem] theorem isTup_str (l : List UInt8) : (AV.str l).isTup = false := id rfl
@[go_sem] theorem isTup_cp (l : List AV) : (AV.cp l).isTup = false := id rfl
@[go_sem] theorem isTup_sl (l : List AV) : (AV.sl l).isTup = false := id rfl
@[go_sem] theorem isTup_nils : AV.nils.isTup = false := id rfl
@[go_sem] theorem isTup_nilp : AV.nilp.isTup = false := id rfl
@[go_sem] theorem isTup_fn (f : FuncId) (l : List AV) : (AV.fn f l).isTup = false := id rfl
@[go_sem] theorem isTup_yld (l : Nat) : (AV.yld l).isTup = false := id rfl
/-! ### guards -/
@[go_sem] theorem isB_t (b : Bool) : Slot.isB (.val (.bool b)) true = some b := by cases b <;> rfl
@[go_sem] theorem isB_f (b : Bool) : Slot.isB (.val (.bool b)) false = some (!b) := by cases b <;> rfl
@[go_sem] theorem isB_no (w : Bool) : Slot.isB .no w = some false := id rfl
@[go_sem] theorem gd_true (r : Option Slot) : gd true r = r := id rfl
@[go_sem] theorem gd_false (r : Option Slot) : gd false r = some .no := id rfl
@[go_sem] theorem gdV_true (r : Slot) : gdV true r = r := id rfl
@[go_sem] theorem gdV_false (r : Slot) : gdV false r = .no := id rfl
@[go_sem] theorem gd_some (b : Bool) (v : Slot) : gd b (some v) = some (gdV b v) := by cases b <;> rfl
@[congr] theorem gd_congr {b b' : Bool} {r r' : Option Slot} (h : b = b') (g : b' = true → r = r') : gd b r = gd b' r' := by
  subst h; cases b
  · rfl
  · rw [g rfl]
@[go_sem] theorem gdV_gdV (a b : Bool) (v : Slot) : gdV a (gdV b v) = gdV (a && b) v := by cases a <;> cases b <;> rfl
@[go_sem] theorem isB_gdV_t (a b : Bool) : Slot.isB (gdV a (.val (.bool b))) true = some (a && b) := by cases a <;> cases b <;> rfl
@[go_sem] theorem isB_gdV_f (a b : Bool) : Slot.isB (gdV a (.val (.bool b))) false = some (a && !b) := by cases a <;> cases b <;> rfl
@[go_sem] theorem and_l (a b : Bool) : (a && b && a) = (a && b) := by cases a <;> cases b <;> rfl
@[go_sem] theorem and_r (a b : Bool) : (a && b && b) = (a && b) := by cases a <;> cases b <;> rfl
@[go_sem] theorem and_l2 (a b c : Bool) : (a && b && c && a) = (a && b && c) := by cases a <;> cases b <;> cases c <;> rfl
@[go_sem] theorem and_lr2 (a b c : Bool) : (a && b && c && (a && b)) = (a && b && c) := by cases a <;> cases b <;> cases c <;> rfl
@[go_sem] theorem and_lr (a b : Bool) : (a && (a && b)) = (a && b) := by cases a <;> cases b <;> rfl
section
variable (b c : Bool) (t u : TI) (op : BinOp) (uo : UnOp) (x y z : Slot) (n : Nat) (r : Bool) (s : St)
@[go_sem] theorem gd_bin_l : gd b (binS t op (gdV b x) y) = gd b (binS t op x y) := by cases b <;> rfl
@[go_sem] theorem gd_bin_r : gd b (binS t op x (gdV b y)) = gd b (binS t op x y) := by cases b <;> rfl
@[go_sem] theorem gd_bin_lc : gd b (binS t op (gdV (b && c) x) y) = gd b (binS t op (gdV c x) y) := by cases b <;> rfl
@[go_sem] theorem gd_un : gd b (unS uo (gdV b x)) = gd b (unS uo x) := by cases b <;> rfl
@[go_sem] theorem gd_conv : gd b (convS t u (gdV b x)) = gd b (convS t u x) := by cases b <;> rfl
@[go_sem] theorem gd_len : gd b (lenS t (gdV b x)) = gd b (lenS t x) := by cases b <;> rfl
@[go_sem] theorem gd_map_list (g : List AV → Slot) : gd b (Option.map g (gdV b x).list?) = gd b (Option.map g x.list?) := by cases b <;> rfl
@[go_sem] theorem gd_index_l : gd b (indexS t u (gdV b x) y) = gd b (indexS t u x y) := by cases b <;> rfl
@[go_sem] theorem gd_index_r : gd b (indexS t u x (gdV b y)) = gd b (indexS t u x y) := by cases b <;> rfl
@[go_sem] theorem gd_ix_l : gd b (ixS n (gdV b x) y) = gd b (ixS n x y) := by cases b <;> rfl
@[go_sem] theorem gd_ix_r : gd b (ixS n x (gdV b y)) = gd b (ixS n x y) := by cases b <;> rfl
@[go_sem] theorem gd_ld : gd b (ldV t r s (gdV b x)) = gd b (ldV t r s x) := by cases b <;> rfl
@[go_sem] theorem gd_fa : gd b (faV n (gdV b x)) = gd b (faV n x) := by cases b <;> rfl
@[go_sem] theorem gd_nil : gd b (nilCheckV (gdV b x)) = gd b (nilCheckV x) := by cases b <;> rfl
@[go_sem] theorem gd_field (o : Nat) : gd b (fieldS t u o (gdV b x)) = gd b (fieldS t u o x) := by cases b <;> rfl
@[go_sem] theorem gd_pick_c : gd b (pickS (gdV b x) y z) = gd b (pickS x y z) := by cases b <;> rfl
@[go_sem] theorem gd_pick_l : gd b (pickS x (gdV b y) z) = gd b (pickS x y z) := by cases b <;> rfl
@[go_sem] theorem gd_pick_r : gd b (pickS x y (gdV b z)) = gd b (pickS x y z) := by cases b <;> rfl
@[go_sem] theorem gd_bif (p q : Option Slot) : gd b (bif b then p else q) = gd b p := by cases b <;> rfl
@[go_sem] theorem gdV_bif_not : gdV b (bif c then x else gdV (b && !c) y) = gdV b (bif c then x else y) := by cases b <;> cases c <;> rfl
@[go_sem] theorem gdV_bif_and : gdV b (bif c then gdV (b && c) x else y) = gdV b (bif c then x else y) := by cases b <;> cases c <;> rfl
@[go_sem] theorem bif_ct (d : Bool) : (bif c then Slot.val (.bool true) else .val (.bool d)) = .val (.bool (c || d)) := by cases c <;> rfl
@[go_sem] theorem bif_cf (d : Bool) : (bif c then Slot.val (.bool d) else .val (.bool false)) = .val (.bool (c && d)) := by cases c <;> rfl
end
@[go_sem] theorem pickS_val (c : Bool) (a b : Slot) : pickS (.val (.bool c)) a b = some (bif c then a else b) := id rfl
@[go_sem] theorem bif_gdV_and (c : Bool) (a b : Bool) (v w : Slot) : (bif c then gdV (c && a) v else w) = bif c then gdV a v else w := by cases c <;> rfl
@[go_sem] theorem bif_gdV_self (c : Bool) (v w : Slot) : (bif c then gdV c v else w) = bif c then v else w := by cases c <;> rfl
@[go_sem] theorem bif_gdV_not (c : Bool) (v w : Slot) : (bif c then v else gdV (!c) w) = bif c then v else w := by cases c <;> rfl
theorem bif_boolS (c a b : Bool) : (bif c then Slot.val (.bool a) else .val (.bool b)) = .val (.bool (bif c then a else b)) := by cases c <;> rfl
@[go_sem] theorem chkP_true (w : Bool) (k : Unit → Res) : chkP true w k = k () := id rfl
@[go_sem] theorem chkP_self (w : Bool) (k : Unit → Res) : chkP w w k = k () := by cases w <;> rfl
/-! ### numbers and texts -/
def maxI (a b : Int) : Int := if b > a then b else a
theorem beqd (x y : List UInt8) : (x == y) = decide (x = y) := by rw [Bool.eq_iff_iff]; simp
section
variable (t : TI) (k : IntKind) (a b : Int) (x y : List UInt8)
@[go_sem] theorem binS_lss : binS t .lss (.val (.int k a)) (.val (.int k b)) = some (.val (.bool (decide (a < b)))) := by simp [go_sem, binS]
@[go_sem] theorem binS_leq : binS t .leq (.val (.int k a)) (.val (.int k b)) = some (.val (.bool (decide (a ≤ b)))) := by simp [go_sem, binS]
@[go_sem] theorem binS_gtr : binS t .gtr (.val (.int k a)) (.val (.int k b)) = some (.val (.bool (decide (a > b)))) := by simp [go_sem, binS]
@[go_sem] theorem binS_geq : binS t .geq (.val (.int k a)) (.val (.int k b)) = some (.val (.bool (decide (a ≥ b)))) := by simp [go_sem, binS]
@[go_sem] theorem binS_eql : binS t .eql (.val (.int k a)) (.val (.int k b)) = some (.val (.bool (decide (a = b)))) := by simp [go_sem, binS]; rfl
@[go_sem] theorem binS_neq : binS t .neq (.val (.int k a)) (.val (.int k b)) = some (.val (.bool (!decide (a = b)))) := by simp [go_sem, binS]; rfl
@[go_sem] theorem binS_add : binS t .add (.val (.int k a)) (.val (.int k b)) = some (.val (.int k (k.wrap (a + b)))) := by simp [go_sem, binS]
@[go_sem] theorem binS_sub : binS t .sub (.val (.int k a)) (.val (.int k b)) = some (.val (.int k (k.wrap (a - b)))) := by simp [go_sem, binS]
@[go_sem] theorem binS_seql : binS t .eql (.val (.str x)) (.val (.str y)) = some (.val (.bool (decide (x = y)))) := by simp only [binS, av_val, beqd]
@[go_sem] theorem binS_sneq : binS t .neq (.val (.str x)) (.val (.str y)) = some (.val (.bool (!decide (x = y)))) := by simp only [binS, av_val, beqd]
@[go_sem] theorem binS_rem (h : b ≠ 0) : binS t .rem (.val (.int k a)) (.val (.int k b)) = some (.val (.int k (a.tmod b))) := by simp [go_sem, binS, h]
@[go_sem] theorem binS_quo (h : b ≠ 0) : binS t .quo (.val (.int k a)) (.val (.int k b)) = some (.val (.int k (k.wrap (a.tdiv b)))) := by simp [go_sem, binS, h]
@[go_sem] theorem binS_mul : binS t .mul (.val (.int k a)) (.val (.int k b)) = some (.val (.int k (k.wrap (a * b)))) := by simp [go_sem, binS]
theorem binS_sadd (h : x.length + y.length ≤ 9223372036854775807) : binS t .add (.val (.str x)) (.val (.str y)) = some (.val (.str (x ++ y))) := by simp only [binS, av_val]; rw [if_pos h]
@[go_sem] theorem unS_not (b : Bool) : unS .not (.val (.bool b)) = some (.val (.bool !b)) := id rfl
theorem unS_neg : unS .neg (.val (.int k a)) = some (.val (.int k (k.wrap (0 - a)))) := rfl
@[go_sem] theorem max2_int : max2 (.val (.int k a)) (.val (.int k b)) = some (.val (.int k (maxI a b))) := id rfl
@[go_sem] theorem max3_int (c : Int) : max3 (.val (.int k a)) (.val (.int k b)) (.val (.int k c)) = some (.val (.int k (maxI (maxI a b) c))) := id rfl
@[go_sem] theorem binS_beql (p q : Bool) (h : t.k = .bool) : binS t .eql (.val (.bool p)) (.val (.bool q)) = some (.val (.bool (p == q))) := by simp [go_sem, binS, eqS, h]
@[go_sem] theorem binS_bneq (p q : Bool) (h : t.k = .bool) : binS t .neq (.val (.bool p)) (.val (.bool q)) = some (.val (.bool !(p == q))) := by simp [go_sem, binS, eqS, h]
end
def TKptr : TK → Bool | .ptr => true | _ => false
@[go_sem] theorem TKptr_ptr : TKptr .ptr = true := id rfl
section
variable {t : TI} (l : List AV)
theorem TKptr_eq {k : TK} (h : TKptr k = true) : k = .ptr := by cases k <;> first | rfl | cases h
@[go_sem] theorem neq_cp (h : TKptr t.k = true) : binS t .neq (.val (.cp l)) (.val .nilp) = some (.val (.bool true)) := by simp [go_sem, binS, eqS, TKptr_eq h]
@[go_sem] theorem neq_nilp (h : TKptr t.k = true) : binS t .neq (.val .nilp) (.val .nilp) = some (.val (.bool false)) := by simp [go_sem, binS, eqS, TKptr_eq h]
@[go_sem] theorem eql_cp (h : TKptr t.k = true) : binS t .eql (.val (.cp l)) (.val .nilp) = some (.val (.bool false)) := by simp [go_sem, binS, eqS, TKptr_eq h]
@[go_sem] theorem eql_nilp (h : TKptr t.k = true) : binS t .eql (.val .nilp) (.val .nilp) = some (.val (.bool true)) := by simp [go_sem, binS, eqS, TKptr_eq h]
end
theorem wrap64 {n : Int} (h : -9223372036854775808 ≤ n) (g : n ≤ 9223372036854775807) : IntKind.i64.wrap n = n := by
  unfold IntKind.wrap
  simp [go_sem, IntKind.bits, IntKind.signed]
  omega
theorem indexS_str {t et : TI} (h : t.k = .str) {l : List UInt8} {n : Nat} {b : UInt8} (hv : l[n]? = some b) : indexS t et (.val (.str l)) (.val (.int .i64 (n : Int))) = some (.val (.int .u8 b.toNat)) := by
  unfold indexS
  simp only [h]
  rw [if_pos (by omega)]
  simp [go_sem, hv]
@[go_sem] theorem indexS_zero {t et : TI} (h : t.k = .str) {l : List UInt8} (hl : l ≠ []) : indexS t et (.val (.str l)) (.val (.int .i64 0)) = some (.val (.int .u8 (l.headD 0).toNat)) := by
  cases l with
  | nil => exact absurd rfl hl
  | cons b l => exact indexS_str (n := 0) h rfl
/-! ### structs, slices -/
@[go_sem] theorem lenS_str {t : TI} (h : t.k = .str) (l : List UInt8) : lenS t (.val (.str l)) = some (.val (.int .i64 l.length)) := by simp [go_sem, lenS, h]
def TKslice : TK → Bool | .slice _ => true | _ => false
@[go_sem] theorem TKslice_sl (e : TypeId) : TKslice (.slice e) = true := id rfl
@[go_sem] theorem lenS_slice {t : TI} (h : TKslice t.k = true) (x : Slot) : lenS t x = x.list?.map fun l => .val (.int .i64 l.length) := by
  unfold lenS
  cases hk : t.k <;> rw [hk] at h <;> first | cases h | skip
  simp only []; cases x.list? <;> rfl
@[go_sem] theorem boxCells_agg {t : TI} (h : t.isAgg = true) {l : List AV} (g : l.length = t.size) : boxCells t (.val (.agg l)) = some (l.map .val) := by unfold boxCells; rw [h]; simp only [cond_true]; rw [if_pos g]
theorem isGood_of {t : TI} (h : t.k ≠ .bad) : t.isGood = true := by unfold TI.isGood; split <;> simp_all
@[go_sem] theorem boxCells_one {t : TI} (h : t.isAgg = false) (g : t.isGood = true) {x : Slot} (hx : x.cellOk = true) : boxCells t x = some [x] := by unfold boxCells; rw [h, hx, g]; rfl
def aggO (t : TI) (o : Option (List AV)) : Option Slot := match o with | some l => if l.length = t.size then some (.val (.agg l)) else none | none => none
@[go_sem] theorem aggO_some {t : TI} {l : List AV} (h : l.length = t.size) : aggO t (some l) = some (.val (.agg l)) := by simp only [aggO]; rw [if_pos h]
@[go_sem] theorem ofSlots_agg {t : TI} (h : t.isAgg = true) (cs : List Slot) : ofSlots t cs = aggO t (avs cs) := by unfold ofSlots; rw [h]; rfl
@[go_sem] theorem ofSlots_one {t : TI} (h : t.isAgg = false) (x : Slot) : ofSlots t [x] = some x := by simp [go_sem, ofSlots, h]
@[go_sem] theorem ofCells_agg {t : TI} (h : t.isAgg = true) {cs : List AV} (g : cs.length = t.size) : ofCells t cs = some (.agg cs) := by unfold ofCells; rw [h]; simp only [cond_true]; rw [if_pos g]
@[go_sem] theorem ofCells_one {t : TI} (h : t.isAgg = false) (x : AV) : ofCells t [x] = some x := by simp [go_sem, ofCells, h]
@[go_sem] theorem ldV_cp (t : TI) (r : Bool) (s : St) (l : List AV) : ldV t r s (.val (.cp l)) = (ofCells t (l.take t.size)).map .val := by
  simp only [ldV]; cases ofCells t (l.take t.size) <;> rfl
theorem map_mid {α β : Type} {f : α → β} (pre : List α) (x : α) (suf : List α) : ((pre ++ x :: suf).map f)[pre.length]? = some (f x) := by simp
attribute [go_sem] List.take_of_length_le List.map_cons List.map_nil List.length_cons List.length_nil List.length_map List.length_append List.cons_append List.nil_append List.append_assoc List.append_nil List.take_succ_cons List.take_zero List.drop_succ_cons List.drop_zero List.take_nil List.drop_nil List.map_append List.map_map Option.map_some Option.map_none Bool.and_self Bool.and_true Bool.true_and Bool.and_false Bool.false_and Bool.or_false Bool.or_true Bool.true_or Bool.false_or Bool.not_true Bool.not_false cond_true cond_false if_true if_false reduceCtorEq decide_true decide_false
theorem ofSlots_map {t : TI} (h : t.isAgg = true) {l : List AV} (g : l.length = t.size) : ofSlots t (l.map .val) = some (.val (.agg l)) := by
  unfold ofSlots; rw [h]; simp [go_sem, g]
@[go_sem] theorem putAt_map {z l : List AV} (h : z.length = l.length) : putAt (z.map .val) 0 (l.map .val) = some (l.map .val) := by
  unfold putAt; simp [go_sem, h]
@[go_sem] theorem drop_app {α : Type} {n : Nat} {l m : List α} (h : l.length ≤ n) : (l ++ m).drop n = m.drop (n - l.length) := by
  rw [List.drop_append, List.drop_of_length_le h]; rfl
@[go_sem] theorem take_app {α : Type} {n : Nat} {l m : List α} (h : n ≤ l.length) : (l ++ m).take n = l.take n := by
  rw [List.take_append]; simp [go_sem, Nat.sub_eq_zero_of_le h]
@[go_sem] theorem putAt_ok {l c : List Slot} {off : Nat} (h : off + c.length ≤ l.length) : putAt l off c = some (l.take off ++ (c ++ l.drop (off + c.length))) := by unfold putAt; rw [if_pos h]
theorem putAt_all {l c : List Slot} (h : l.length = c.length) : putAt l 0 c = some c := by
  unfold putAt
  rw [if_pos (by omega)]
  simp [go_sem, h]
theorem ixS_get {sz : Nat} {x : Slot} {k : IntKind} {n : Nat} {l : List AV} {v : AV} (h : x.list? = some l) (hv : l[n]? = some v) (hs : v.cells.length = sz) (h0 : 0 < sz) : ixS sz x (.val (.int k (n : Int))) = some (.val (.cp v.cells)) := by
  have hlt := (List.getElem?_eq_some_iff.1 hv).1
  unfold ixS
  rw [h]
  simp only []
  rw [if_pos ⟨by omega, by omega⟩]
  simp [go_sem, hv, hs, h0]
@[go_sem] theorem faV_cp (off : Nat) (l : List AV) : faV off (.val (.cp l)) = some (.val (.cp (l.drop off))) := id rfl
@[go_sem] theorem faV_vp (off a o : Nat) : faV off (.val (.vp a o)) = some (.val (.vp a (o + off))) := id rfl
@[go_sem] theorem nilCheck_cp (l : List AV) : nilCheckV (.val (.cp l)) = some (.val (.cp l)) := id rfl
@[go_sem] theorem nilCheck_vp (a b : Nat) : nilCheckV (.val (.vp a b)) = some (.val (.vp a b)) := id rfl
def fullO (o : Option (List AV)) : Option Slot := match o with | some l => some (.full l) | none => none
@[go_sem] theorem fullO_some (l : List AV) : fullO (some l) = some (.full l) := id rfl
@[go_sem] theorem bslF_eq (sz : Nat) (xs : List Slot) : bslF sz xs = fullO (bslS sz xs) := by unfold bslF; cases bslS sz xs <;> rfl
@[go_sem] theorem bslS_nil (sz : Nat) : bslS sz [] = some [] := id rfl
@[go_sem] theorem bslS_val {sz : Nat} {v : AV} (h : v.cells.length = sz) (g : v.isTup = false) (r : List Slot) : bslS sz (.val v :: r) = (bslS sz r).map (v :: ·) := by
  simp only [bslS, av_val]; rw [if_pos ⟨h, g⟩]; cases bslS sz r <;> rfl
theorem bslS_cons {sz : Nat} {x : Slot} {v : AV} (hx : x.av = some v) (h : v.cells.length = sz) (g : v.isTup = false) (r : List Slot) : bslS sz (x :: r) = (bslS sz r).map (v :: ·) := by
  simp only [bslS, hx]; rw [if_pos ⟨h, g⟩]; cases bslS sz r <;> rfl
/-- the parts of a struct -/
@[go_sem] theorem fillS_nil (l : List AV) : fillS l [] = some l := id rfl
@[go_sem] theorem fillS_val {l : List AV} {off sz : Nat} {v : AV} (h : v.cells.length = sz) (g : v.isTup = false) (k : off + v.cells.length ≤ l.length) (r : List (Nat × Nat × Slot)) : fillS l ((off, sz, .val v) :: r) = fillS (l.take off ++ (v.cells ++ l.drop (off + v.cells.length))) r := by
  simp only [fillS, av_val]; rw [if_pos ⟨h, g⟩]; simp only [setAt]; rw [if_pos k]
theorem fillS_cons {l : List AV} {off sz : Nat} {x : Slot} {v : AV} (hx : x.av = some v) (h : v.cells.length = sz) (g : v.isTup = false) (k : off + v.cells.length ≤ l.length) (r : List (Nat × Nat × Slot)) : fillS l ((off, sz, x) :: r) = fillS (l.take off ++ (v.cells ++ l.drop (off + v.cells.length))) r := by
  simp only [fillS, hx]; rw [if_pos ⟨h, g⟩]; simp only [setAt]; rw [if_pos k]
def bldO (o : Option (List AV)) : Option Slot := match o with | some l => some (.val (.agg l)) | none => none
@[go_sem] theorem bldO_some (l : List AV) : bldO (some l) = some (.val (.agg l)) := id rfl
@[go_sem] theorem buildS_eq (z : List AV) (ps : List (Nat × Nat × Slot)) : buildS z ps = bldO (fillS z ps) := by unfold buildS; cases fillS z ps <;> rfl
@[go_sem] theorem avsO_nil : avsO [] = some [] := id rfl
@[go_sem] theorem avsO_val (v : AV) (r : List (Option Slot)) : avsO (some (.val v) :: r) = (avsO r).map (v :: ·) := by
  simp only [avsO, av_val]; cases avsO r <;> rfl
theorem avsO_cons {x : Slot} {v : AV} (h : x.av = some v) (r : List (Option Slot)) : avsO (some x :: r) = (avsO r).map (v :: ·) := by
  simp only [avsO, h]; cases avsO r <;> rfl
def tupO (o : Option (List AV)) : Option Slot := match o with | some l => some (.val (.tup l)) | none => none
@[go_sem] theorem tupO_some (l : List AV) : tupO (some l) = some (.val (.tup l)) := id rfl
@[go_sem] theorem tupS_eq (rs : List (Option Slot)) : tupS rs = tupO (avsO rs) := id rfl
theorem extractS_tup {l : List AV} {i : Nat} {v : AV} (h : l[i]? = some v) : extractS (.val (.tup l)) i = some (.val v) := by simp only [extractS, h]
@[go_sem] theorem ext_tup0 (a : AV) (l : List AV) : extractS (.val (.tup (a :: l))) 0 = some (.val a) := id rfl
@[go_sem] theorem ext_tup1 (a b : AV) (l : List AV) : extractS (.val (.tup (a :: b :: l))) 1 = some (.val b) := id rfl
@[go_sem] theorem ext_tup2 (a b c : AV) (l : List AV) : extractS (.val (.tup (a :: b :: c :: l))) 2 = some (.val c) := id rfl
/-! ### calls -/
theorem cal_fn (cl : CallFn) (f : FuncId) (caps : List AV) (args : List Slot) (s : St) : cal cl true (tgtV (.val (.fn f caps)) args) s = match avs args with | some l => cl (.f f) (l ++ caps) s | none => none := by
  unfold tgtV
  cases avs args <;> rfl
@[go_sem] theorem cal_yld (cl : CallFn) (loc : Nat) (args : List Slot) (s : St) : cal cl true (tgtV (.val (.yld loc)) args) s = match avs args with | some l => cl (.y loc) l s | none => none := by
  unfold tgtV
  cases avs args <;> rfl
/-- a guarded call -/
def gdR (b : Bool) (r : Res) (s : St) : Res := bif b then r else some (.ret .no, s)
@[go_sem] theorem gdR_true (r : Res) (s : St) : gdR true r s = r := id rfl
@[go_sem] theorem gdR_false (r : Res) (s : St) : gdR false r s = some (.ret .no, s) := id rfl
@[go_sem] theorem gdR_some (b : Bool) (v : Slot) (s : St) : gdR b (some (.ret v, s)) s = some (.ret (gdV b v), s) := by cases b <;> rfl
@[congr] theorem gdR_congr {b b' : Bool} {r r' : Res} {s : St} (h : b = b') (g : b' = true → r = r') : gdR b r s = gdR b' r' s := by
  subst h; cases b
  · rfl
  · rw [g rfl]
def argC (cl : CallFn) (f : FuncId) (caps : List AV) (o : Option (List AV)) (s : St) : Res := match o with | some l => cl (.f f) (l ++ caps) s | none => none
@[go_sem] theorem argC_some (cl : CallFn) (f : FuncId) (caps l : List AV) (s : St) : argC cl f caps (some l) s = cl (.f f) (l ++ caps) s := id rfl
@[go_sem] theorem gdR_1 (cl : CallFn) (f : FuncId) (caps : List AV) (b : Bool) (x : Slot) (r : List Slot) (s : St) : gdR b (argC cl f caps (avs (gdV b x :: r)) s) s = gdR b (argC cl f caps (avs (x :: r)) s) s := by cases b <;> rfl
@[go_sem] theorem gdR_2 (cl : CallFn) (f : FuncId) (caps : List AV) (b : Bool) (x : Slot) (r : List Slot) (g : List AV → List AV) (s : St) : gdR b (argC cl f caps ((avs (gdV b x :: r)).map g) s) s = gdR b (argC cl f caps ((avs (x :: r)).map g) s) s := by cases b <;> rfl
@[go_sem] theorem gdR_3 (cl : CallFn) (f : FuncId) (caps : List AV) (b : Bool) (x : Slot) (r : List Slot) (g h : List AV → List AV) (s : St) : gdR b (argC cl f caps (((avs (gdV b x :: r)).map g).map h) s) s = gdR b (argC cl f caps (((avs (x :: r)).map g).map h) s) s := by cases b <;> rfl
@[go_sem] theorem cal_gd (cl : CallFn) (w : Bool) (f : FuncId) (caps : List AV) (args : List Slot) (s : St) : cal cl w (tgtV (.val (.fn f caps)) args) s = gdR w (argC cl f caps (avs args) s) s := by
  cases w
  · rfl
  · rw [cal_fn]; rfl
@[go_sem] theorem cal_false (cl : CallFn) (t : Option (Callee × List AV)) (s : St) : cal cl false t s = some (.ret .no, s) := id rfl
/-! ### states -/
/-- a state that has grown: all that was is as it was -/
def Grew (s s' : St) : Prop := (∃ a, s'.locs = s.locs ++ a) ∧ ∃ b, s'.toks = s.toks ++ b
theorem Grew.refl (s : St) : Grew s s := ⟨⟨[], by simp⟩, ⟨[], by simp⟩⟩
theorem Grew.trans {a b c : St} (h : Grew a b) (k : Grew b c) : Grew a c := by
  obtain ⟨⟨x, hx⟩, ⟨y, hy⟩⟩ := h
  obtain ⟨⟨u, hu⟩, ⟨v, hv⟩⟩ := k
  exact ⟨⟨x ++ u, by rw [hu, hx, List.append_assoc]⟩, ⟨y ++ v, by rw [hv, hy, List.append_assoc]⟩⟩
theorem Grew.tok {s s' : St} (h : Grew s s') {k n : Nat} (hk : s.toks[k]? = some n) : s'.toks[k]? = some n := by
  obtain ⟨_, b, hb⟩ := h
  rw [hb, List.getElem?_append_left (List.getElem?_eq_some_iff.1 hk).1]
  exact hk
theorem Grew.toksLe {s s' : St} (h : Grew s s') : s.toks.length ≤ s'.toks.length := by
  obtain ⟨_, b, hb⟩ := h
  rw [hb]; simp
theorem Grew.loc {s s' : St} (h : Grew s s') {k : Nat} {o : Obj} (hk : s.locs[k]? = some o) : s'.locs[k]? = some o := by
  obtain ⟨⟨a, ha⟩, _⟩ := h
  rw [ha, List.getElem?_append_left (List.getElem?_eq_some_iff.1 hk).1]
  exact hk
theorem Grew.locsLe {s s' : St} (h : Grew s s') : s.locs.length ≤ s'.locs.length := by
  obtain ⟨⟨a, ha⟩, _⟩ := h
  rw [ha]; simp
/-- a slice that has been made since s0, and may be appended to in place -/
structure AccR (e : TypeId) (s0 s : St) (x : Slot) (l : List AV) : Prop where
  grew : Grew s0 s
  is : (x = .val .nils ∧ l = []) ∨ x = .full l ∨ ∃ k, x = .own k e l ∧ s0.toks.length ≤ k ∧ s.toks[k]? = some l.length
theorem AccR.list? {e : TypeId} {s0 s : St} {x : Slot} {l : List AV} (h : AccR e s0 s x l) : x.list? = some l := by
  rcases h.is with ⟨rfl, rfl⟩ | rfl | ⟨k, rfl, _⟩ <;> rfl
theorem AccR.av {e : TypeId} {s0 s : St} {x : Slot} {l : List AV} (h : AccR e s0 s x l) : ∃ nl, x.av = some (encS nl l) := by
  rcases h.is with ⟨rfl, rfl⟩ | rfl | ⟨k, rfl, _⟩
  · exact ⟨true, rfl⟩
  · exact ⟨false, rfl⟩
  · exact ⟨false, rfl⟩
theorem AccR.cellOk {e : TypeId} {s0 s : St} {x : Slot} {l : List AV} (h : AccR e s0 s x l) : x.cellOk = true := by
  rcases h.is with ⟨rfl, rfl⟩ | rfl | ⟨k, rfl, _⟩ <;> rfl
theorem AccR.move {e : TypeId} {s0 s s' : St} {x : Slot} {l : List AV} (h : AccR e s0 s x l) (g : Grew s s') : AccR e s0 s' x l := by
  refine ⟨h.grew.trans g, ?_⟩
  rcases h.is with hx | hx | ⟨k, hx, h1, h2⟩
  · exact .inl hx
  · exact .inr (.inl hx)
  · exact .inr (.inr ⟨k, hx, h1, g.tok h2⟩)
theorem AccR.nil (e : TypeId) (s : St) : AccR e s s (.val .nils) [] := ⟨.refl s, .inl ⟨rfl, rfl⟩⟩
theorem AccR.full (e : TypeId) (s : St) (l : List AV) : AccR e s s (.full l) l := ⟨.refl s, .inr (.inl rfl)⟩
/-- seen from an earlier state -/
theorem AccR.weaken {e : TypeId} {s0 s1 s : St} {x : Slot} {l : List AV} (h : AccR e s1 s x l) (g : Grew s0 s1) : AccR e s0 s x l := by
  refine ⟨g.trans h.grew, ?_⟩
  rcases h.is with hx | hx | ⟨k, hx, h1, h2⟩
  · exact .inl hx
  · exact .inr (.inl hx)
  · exact .inr (.inr ⟨k, hx, Nat.le_trans g.toksLe h1, h2⟩)
theorem Grew.pushTok {s0 s : St} (h : Grew s0 s) (n : Nat) : Grew s0 { s with toks := s.toks ++ [n] } := by
  obtain ⟨ha, b, hb⟩ := h
  exact ⟨ha, b ++ [n], by simp [go_sem, hb]⟩
theorem Grew.setTok {s0 s : St} (h : Grew s0 s) {k : Nat} (hk : s0.toks.length ≤ k) (n : Nat) : Grew s0 { s with toks := s.toks.set k n } := by
  obtain ⟨ha, b, hb⟩ := h
  refine ⟨ha, b.set (k - s0.toks.length) n, ?_⟩
  simp only [hb]
  rw [List.set_append_right _ _ hk]
theorem Grew.addLoc {s0 s : St} (h : Grew s0 s) (o : Obj) : Grew s0 (s.addLoc o) := by
  obtain ⟨⟨a, ha⟩, hb⟩ := h
  exact ⟨⟨a ++ [o], by simp [go_sem, St.addLoc, ha]⟩, hb⟩
theorem okSz_of {sz : Nat} {l : List AV} (h : ∀ v ∈ l, v.cells.length = sz) (h0 : 0 < sz) : okSz sz l = true := by
  unfold okSz
  simp only [Bool.and_eq_true, List.all_eq_true, beq_iff_eq]
  exact ⟨h, by simpa using h0⟩
/-- APPEND, to such a slice -/
theorem AccR.append {e : TypeId} {t : TI} {s0 s : St} {x y : Slot} {l m : List AV} (h : AccR e s0 s x l) (hy : y.list? = some m) (hl : ∀ v ∈ l, v.cells.length = t.size) (hm : ∀ v ∈ m, v.cells.length = t.size) (h0 : 0 < t.size)
    (b1 : (l.length + m.length) * t.bytes ≤ 140737488355328) (b2 : l.length + m.length ≤ 9223372036854775807) : ∃ x' s', appendS e t s x y = some (x', s') ∧ AccR e s0 s' x' (l ++ m) := by
  unfold appendS
  rw [hy]
  cases m with
  | nil =>
    simp only [h.list?]
    exact ⟨x, s, rfl, by simpa using h⟩
  | cons a m =>
    simp only [okSz_of hm h0, cond_true]
    rcases h.is with ⟨rfl, rfl⟩ | rfl | ⟨k, rfl, h1, h2⟩
    · simp only []
      rw [if_pos ⟨by simpa using b1, by simpa using b2⟩]
      exact ⟨_, _, rfl, h.grew.pushTok _, .inr (.inr ⟨s.toks.length, rfl, h.grew.toksLe, by simp⟩)⟩
    · simp only [okSz_of hl h0, cond_true]
      rw [if_pos ⟨b1, b2⟩]
      exact ⟨_, _, rfl, h.grew.pushTok _, .inr (.inr ⟨s.toks.length, rfl, h.grew.toksLe, by simp⟩)⟩
    · simp only [okSz_of hl h0, cond_true]
      have hlt := (List.getElem?_eq_some_iff.1 h2).1
      rw [if_pos ⟨trivial, h2, b1, b2⟩]
      exact ⟨_, _, rfl, h.grew.setTok h1 _, .inr (.inr ⟨k, rfl, h1, by simp [go_sem, hlt]⟩)⟩
/-- what a call gives: a value, the state grown -/
def Ret (r : Res) (s : St) (v : AV) : Prop := ∃ s', r = some (.ret (.val v), s') ∧ Grew s s'
/-- .. a slice made anew -/
def RetA (r : Res) (e : TypeId) (s : St) (l : List AV) : Prop := ∃ x s', r = some (.ret x, s') ∧ AccR e s s' x l
theorem Ret.mk {s s' : St} {v : AV} (h : Grew s s') : Ret (some (.ret (.val v), s')) s v := ⟨s', rfl, h⟩
theorem Ret.same (s : St) (v : AV) : Ret (some (.ret (.val v), s)) s v := ⟨s, rfl, .refl s⟩
theorem RetA.mk {e : TypeId} {s s' : St} {x : Slot} {l : List AV} (h : AccR e s s' x l) : RetA (some (.ret x, s')) e s l := ⟨x, s', rfl, h⟩
theorem Ret.call {r : Res} {s : St} {v : AV} {k : Slot → St → Res} {Q : Res → Prop} (h : Ret r s v) (hk : ∀ s', Grew s s' → Q (k (.val v) s')) : Q (back r k) := by
  obtain ⟨s', rfl, g⟩ := h
  exact hk s' g
theorem Ret.callN {r : Res} {s : St} {v : AV} {k : Slot → St → Res} {Q : Res → Prop} (h : Ret r s v) (hk : ∀ s', Grew s s' → Q (k (.val v) s')) : Q (back (noPan r) k) := by
  obtain ⟨s', rfl, g⟩ := h
  exact hk s' g
theorem RetA.call {r : Res} {e : TypeId} {s : St} {l : List AV} {k : Slot → St → Res} {Q : Res → Prop} (h : RetA r e s l) (hk : ∀ x s', AccR e s s' x l → Q (k x s')) : Q (back r k) := by
  obtain ⟨x, s', rfl, g⟩ := h
  exact hk x s' g
theorem RetA.callN {r : Res} {e : TypeId} {s : St} {l : List AV} {k : Slot → St → Res} {Q : Res → Prop} (h : RetA r e s l) (hk : ∀ x s', AccR e s s' x l → Q (k x s')) : Q (back (noPan r) k) := by
  obtain ⟨x, s', rfl, g⟩ := h
  exact hk x s' g
theorem AccR.appendF {α : Type} {f : α → AV} {e : TypeId} {t : TI} {s0 s : St} {x y : Slot} {A B : List α} (h : AccR e s0 s x (A.map f)) (hy : y.list? = some (B.map f)) (hf : ∀ a, (f a).cells.length = t.size) (h0 : 0 < t.size)
    (b : A.length + B.length < 2^30) (hb : t.bytes ≤ 2^16) : ∃ x' s', appendS e t s x y = some (x', s') ∧ AccR e s0 s' x' ((A ++ B).map f) := by
  have h1 : (A.length + B.length) * t.bytes ≤ 2^30 * 2^16 := Nat.mul_le_mul (Nat.le_of_lt b) hb
  have := AccR.append (m := B.map f) h hy (t := t) (fun v hv => by obtain ⟨a, _, rfl⟩ := List.mem_map.1 hv; exact hf a) (fun v hv => by obtain ⟨a, _, rfl⟩ := List.mem_map.1 hv; exact hf a) h0 (by simp only [List.length_map]; omega) (by simp only [List.length_map]; omega)
  simpa using this
/-- a round over a list: what the loop's head and its element come to -/
theorem step_facts {α : Type} {f : α → AV} {L pre suf : List α} {t : α} {x : Slot} {sz : Nat} (hx : x.list? = some (L.map f)) (h : pre ++ t :: suf = L) (hl : L.length < 2^62) (hs : (f t).cells.length = sz) (h0 : 0 < sz) :
    decide ((pre.length : Int) < (L.length : Int)) = true ∧ ixS sz x (.val (.int .i64 (pre.length : Int))) = some (.val (.cp (f t).cells)) ∧ IntKind.i64.wrap ((pre.length : Int) + 1) = ((pre.length + 1 : Nat) : Int) := by
  have hlt : pre.length < L.length := by rw [← h]; simp
  refine ⟨by simpa using hlt, ixS_get hx (by rw [← h]; simp) hs h0, ?_⟩
  rw [wrap64 (by omega) (by omega)]
  rfl
theorem end_facts {α : Type} {L pre : List α} (h : pre = L) : decide ((pre.length : Int) < (L.length : Int)) = false := by subst h; simp
end Go.Am

namespace Go.Am
open Go
@[go_sem] theorem fieldS_agg {t ft : TI} {off : Nat} {l : List AV} (h : 1 ≤ ft.size) : fieldS t ft off (.val (.agg l)) = (ofCells ft ((l.drop off).take ft.size)).map .val := by
  simp only [fieldS, if_pos (show 0 < ft.size from h)]; cases ofCells ft ((l.drop off).take ft.size) <;> rfl
@[go_sem] theorem optmap_some {α β : Type} (f : α → β) (a : α) : (some a).map f = some (f a) := id rfl
theorem ldV_vp {t : TI} {s : St} {loc off : Nat} {cs : List Slot} (h : s.locs[loc]? = some (.var cs)) : ldV t false s (.val (.vp loc off)) = ofSlots t ((cs.drop off).take t.size) := by simp [ldV, h]
theorem stV_vp {s : St} {loc off : Nat} {cs c : List Slot} (h : s.locs[loc]? = some (.var cs)) (g : off + c.length ≤ cs.length) : stV s (.val (.vp loc off)) c = some { s with locs := s.locs.set loc (.var (cs.take off ++ (c ++ cs.drop (off + c.length)))) } := by
  simp only [stV, h, putAt, if_pos g]
theorem set_at {α : Type} {l : List α} {i : Nat} {a b : α} (h : l[i]? = some a) : (l.set i b)[i]? = some b := by
  have := (List.getElem?_eq_some_iff.1 h).1
  simp [this]
@[go_sem] theorem len_addLoc (s : St) (o : Obj) : (s.addLoc o).locs.length = s.locs.length + 1 := by simp [St.addLoc]
@[go_sem] theorem toks_addLoc (s : St) (o : Obj) : (s.addLoc o).toks = s.toks := id rfl
theorem at_addLoc (s : St) (o : Obj) : (s.addLoc o).locs[s.locs.length]? = some o := by simp [St.addLoc]
theorem stV_new (s : St) (o c : List Slot) (h : c.length = o.length) : stV (s.addLoc (.var o)) (.val (.vp s.locs.length 0)) c = some (s.addLoc (.var c)) := by
  rw [stV_vp (cs := o) (at_addLoc _ _) (by omega)]
  simp [St.addLoc, h]
@[go_sem] theorem stV_new1 (s : St) (o c : Slot) : stV (s.addLoc (.var [o])) (.val (.vp s.locs.length 0)) [c] = some (s.addLoc (.var [c])) := stV_new s [o] [c] rfl
@[go_sem] theorem stV_new2 (s : St) (a : Obj) (o c : Slot) : stV ((s.addLoc a).addLoc (.var [o])) (.val (.vp (s.locs.length + 1) 0)) [c] = some ((s.addLoc a).addLoc (.var [c])) := by
  have := stV_new1 (s.addLoc a) o c
  rwa [len_addLoc] at this
def fnO (f : FuncId) (o : Option (List AV)) : Option Slot := match o with | some l => some (.val (.fn f l)) | none => none
@[go_sem] theorem fnO_some (f : FuncId) (l : List AV) : fnO f (some l) = some (.val (.fn f l)) := id rfl
@[go_sem] theorem fnS_eq (f : FuncId) (xs : List Slot) : fnS f xs = fnO f (avs xs) := by unfold fnS; cases avs xs <;> rfl
theorem isKey_int {t : TI} {k : IntKind} (h : t.k = .int k) (n : Int) : isKey t (.int k n) = true := by simp [isKey, h, TK.has]
theorem isKey_str {t : TI} (h : t.k = .str) (l : List UInt8) : isKey t (.str l) = true := by simp [isKey, h, TK.has]
theorem zeroV_one {t : TI} {z : AV} (hg : t.isGood = true) (ha : t.isAgg = false) (hz : t.zero = [z]) : t.zeroV = some z := by simp [TI.zeroV, hg, ofCells, ha, hz]
theorem zeroV_agg {t : TI} {l : List AV} (hg : t.isGood = true) (ha : t.isAgg = true) (hz : t.zero = l) (hl : l.length = t.size) : t.zeroV = some (.agg l) := by simp [TI.zeroV, hg, ofCells, ha, hz, hl]
/-! ### what turns -/
/-- from s to s' only the variables in A turned, and the tokens in h; h' are tokens of h, or new ones -/
structure Moves (A h h' : List Nat) (s s' : St) : Prop where
  tl : s.toks.length ≤ s'.toks.length
  tk : ∀ k, k < s.toks.length → k ∉ h → s'.toks[k]? = s.toks[k]?
  new : ∀ k ∈ h', k ∈ h ∨ s.toks.length ≤ k
  ll : s.locs.length ≤ s'.locs.length
  lk : ∀ i, i < s.locs.length → i ∉ A → s'.locs[i]? = s.locs[i]?
theorem Moves.refl (A h : List Nat) (s : St) : Moves A h h s s := ⟨Nat.le_refl _, fun _ _ _ => rfl, fun _ h => .inl h, Nat.le_refl _, fun _ _ _ => rfl⟩
theorem Moves.trans {A h h' h'' : List Nat} {s s' s'' : St} (a : Moves A h h' s s') (b : Moves A h' h'' s' s'') : Moves A h h'' s s'' where
  tl := Nat.le_trans a.tl b.tl
  tk := fun k hk hn => by
    have h1 := a.tl
    rw [b.tk k (by omega) (fun hm => (a.new k hm).elim hn (fun h => by omega)), a.tk k hk hn]
  new := fun k hk => (b.new k hk).elim (a.new k) (fun h => .inr (Nat.le_trans a.tl h))
  ll := Nat.le_trans a.ll b.ll
  lk := fun i hi hn => by
    have h1 := a.ll
    rw [b.lk i (by omega) hn, a.lk i hi hn]
theorem Moves.grew {s s' : St} (A h : List Nat) (g : Grew s s') : Moves A h h s s' :=
  ⟨g.toksLe, fun k hk _ => by rw [List.getElem?_eq_getElem hk]; exact g.tok (List.getElem?_eq_getElem hk), fun _ h => .inl h, g.locsLe, fun i hi _ => by rw [List.getElem?_eq_getElem hi]; exact g.loc (List.getElem?_eq_getElem hi)⟩
theorem grew_of_get {α : Type} {l m : List α} (h : l.length ≤ m.length) (g : ∀ i, i < l.length → m[i]? = l[i]?) : ∃ a, m = l ++ a := by
  refine ⟨m.drop l.length, List.ext_getElem? fun i => ?_⟩
  by_cases hi : i < l.length
  · rw [List.getElem?_append_left hi, g i hi]
  · rw [List.getElem?_append_right (by omega), List.getElem?_drop]; congr 1; omega
theorem Moves.toGrew {s s' : St} (m : Moves [] [] [] s s') : Grew s s' :=
  ⟨grew_of_get m.ll fun i hi => m.lk i hi (by simp), grew_of_get m.tl fun i hi => m.tk i hi (by simp)⟩
theorem Moves.wider {A A' h h' : List Nat} {s s' : St} (m : Moves A h h' s s') (hA : ∀ i ∈ A, i ∈ A') : Moves A' h h' s s' :=
  ⟨m.tl, m.tk, m.new, m.ll, fun i hi hn => m.lk i hi fun h => hn (hA i h)⟩
theorem Moves.loc {A h h' : List Nat} {s s' : St} (m : Moves A h h' s s') {i : Nat} {o : Obj} (hi : s.locs[i]? = some o) (hn : i ∉ A) : s'.locs[i]? = some o := by
  rw [m.lk i (List.getElem?_eq_some_iff.1 hi).1 hn]; exact hi
theorem Moves.tok {A h h' : List Nat} {s s' : St} (m : Moves A h h' s s') {i n : Nat} (hi : s.toks[i]? = some n) (hn : i ∉ h) : s'.toks[i]? = some n := by
  rw [m.tk i (List.getElem?_eq_some_iff.1 hi).1 hn]; exact hi
theorem Moves.drop {A h h' : List Nat} {s s' : St} (m : Moves A h h' s s') : Moves A h h s s' := ⟨m.tl, m.tk, fun _ h => .inl h, m.ll, m.lk⟩
/-- the tokens that are new in between are no one's -/
theorem Moves.shrink {A h : List Nat} {s s' : St} {h' : List Nat} (m : Moves A h h' s s') {g : List Nat} (hg : ∀ k ∈ g, k ∈ h') : Moves A h g s s' := ⟨m.tl, m.tk, fun k hk => m.new k (hg k hk), m.ll, m.lk⟩
theorem Moves.setLoc {A h h' : List Nat} {s s' : St} (m : Moves A h h' s s') {i : Nat} (hi : i ∈ A ∨ s.locs.length ≤ i) (o : Obj) : Moves A h h' s { s' with locs := s'.locs.set i o } :=
  ⟨m.tl, m.tk, m.new, by simpa using m.ll, fun j hj hn => by
    have : i ≠ j := fun e => by subst e; exact hi.elim hn (fun h => by omega)
    rw [List.getElem?_set_ne this]; exact m.lk j hj hn⟩
theorem Moves.addLoc {A h h' : List Nat} {s s' : St} (m : Moves A h h' s s') (o : Obj) : Moves A h h' s (s'.addLoc o) :=
  m.trans (Moves.grew _ _ ((Grew.refl s').addLoc o))
/-- seen from an earlier state: what is new since then is its own -/
theorem Moves.since {A B h g g' : List Nat} {s0 s s' : St} (m : Moves A h h s0 s) (c : Moves B g g' s s') (hB : ∀ i ∈ B, i ∈ A ∨ s0.locs.length ≤ i) (hg : ∀ k ∈ g, k ∈ h ∨ s0.toks.length ≤ k) : Moves A h h s0 s' where
  tl := Nat.le_trans m.tl c.tl
  tk := fun k hk hn => by
    have := m.tl
    rw [c.tk k (by omega) (fun hm => (hg k hm).elim hn (fun h => by omega)), m.tk k hk hn]
  new := fun _ h => .inl h
  ll := Nat.le_trans m.ll c.ll
  lk := fun i hi hn => by
    have := m.ll
    rw [c.lk i (by omega) (fun hm => (hB i hm).elim hn (fun h => by omega)), m.lk i hi hn]
/-! ### slices that are gathered: nil as long as they are empty -/
structure AccH (e : TypeId) (base : Nat) (h : List Nat) (s : St) (x : Slot) (l : List AV) : Prop where
  is : (x = .val .nils ∧ l = []) ∨ (x = .full l ∧ l ≠ []) ∨ ∃ k, x = .own k e l ∧ k ∉ h ∧ base ≤ k ∧ s.toks[k]? = some l.length ∧ l ≠ []
theorem AccH.nil (e : TypeId) (base : Nat) (h : List Nat) (s : St) : AccH e base h s (.val .nils) [] := ⟨.inl ⟨rfl, rfl⟩⟩
theorem AccH.list? {e : TypeId} {base : Nat} {h : List Nat} {s : St} {x : Slot} {l : List AV} (a : AccH e base h s x l) : x.list? = some l := by
  rcases a.is with ⟨rfl, rfl⟩ | ⟨rfl, _⟩ | ⟨k, rfl, _⟩ <;> rfl
theorem encS_true {l : List AV} (h : l ≠ []) : encS true l = .sl l := by cases l with | nil => exact absurd rfl h | cons a l => rfl
theorem encS_any {l : List AV} (h : l ≠ []) (a b : Bool) : encS a l = encS b l := by cases l with | nil => exact absurd rfl h | cons x l => simp only [encS_cons]
theorem AccH.av {e : TypeId} {base : Nat} {h : List Nat} {s : St} {x : Slot} {l : List AV} (a : AccH e base h s x l) : x.av = some (encS true l) := by
  rcases a.is with ⟨rfl, rfl⟩ | ⟨rfl, hl⟩ | ⟨k, rfl, _, _, _, hl⟩
  · rfl
  · rw [encS_true hl]; rfl
  · rw [encS_true hl]; rfl
theorem AccH.cellOk {e : TypeId} {base : Nat} {h : List Nat} {s : St} {x : Slot} {l : List AV} (a : AccH e base h s x l) : x.cellOk = true := by
  rcases a.is with ⟨rfl, rfl⟩ | ⟨rfl, _⟩ | ⟨k, rfl, _⟩ <;> rfl
theorem AccH.move {e : TypeId} {base : Nat} {A h h' : List Nat} {s s' : St} {x : Slot} {l : List AV} (a : AccH e base h s x l) (m : Moves A h h' s s') : AccH e base h' s' x l := by
  rcases a.is with hx | hx | ⟨k, hx, h1, h2, h3, h4⟩
  · exact ⟨.inl hx⟩
  · exact ⟨.inr (.inl hx)⟩
  · exact ⟨.inr (.inr ⟨k, hx, fun hk => (m.new k hk).elim h1 (fun h => by have := (List.getElem?_eq_some_iff.1 h3).1; omega), h2, m.tok h3 h1, h4⟩)⟩
/-- APPEND -/
theorem AccH.append {e : TypeId} {t : TI} {A h0 h : List Nat} {s0 s : St} {x y : Slot} {l m : List AV} (a : AccH e s0.toks.length h s x l) (M : Moves A h0 h s0 s) (hh : ∀ k ∈ h, k < s.toks.length) (hy : y.list? = some m) (hl : ∀ v ∈ l, v.cells.length = t.size) (hm : ∀ v ∈ m, v.cells.length = t.size) (h0' : 0 < t.size)
    (b1 : (l.length + m.length) * t.bytes ≤ 140737488355328) (b2 : l.length + m.length ≤ 9223372036854775807) :
    ∃ x' s', appendS e t s x y = some (x', s') ∧ AccH e s0.toks.length h s' x' (l ++ m) ∧ Moves A h0 h s0 s' ∧ s'.locs = s.locs ∧ (∀ k ∈ h, s'.toks[k]? = s.toks[k]?) ∧ (∀ k ∈ h, k < s'.toks.length) := by
  unfold appendS
  rw [hy]
  have push : ∀ n : Nat, Moves A h0 h s0 { s with toks := s.toks ++ [n] } ∧ (∀ k ∈ h, (s.toks ++ [n])[k]? = s.toks[k]?) ∧ ∀ k ∈ h, k < (s.toks ++ [n]).length := fun n =>
    ⟨M.trans (Moves.grew _ _ ((Grew.refl s).pushTok n)), fun k hk => List.getElem?_append_left (hh k hk), fun k hk => by have := hh k hk; simp; omega⟩
  cases m with
  | nil =>
    simp only [a.list?]
    exact ⟨x, s, rfl, by simpa using a, M, rfl, fun _ _ => rfl, hh⟩
  | cons q m =>
    simp only [okSz_of hm h0', cond_true]
    rcases a.is with ⟨rfl, rfl⟩ | ⟨rfl, hn⟩ | ⟨k, rfl, h1, h2, h3, h4⟩
    · simp only []
      rw [if_pos ⟨by simpa using b1, by simpa using b2⟩]
      obtain ⟨p1, p2, p3⟩ := push (q :: m).length
      exact ⟨_, _, rfl, ⟨.inr (.inr ⟨s.toks.length, rfl, fun hk => by have := hh _ hk; omega, M.tl, by simp, by simp⟩)⟩, p1, rfl, p2, p3⟩
    · simp only [okSz_of hl h0', cond_true]
      rw [if_pos ⟨b1, b2⟩]
      obtain ⟨p1, p2, p3⟩ := push (l.length + (q :: m).length)
      exact ⟨_, _, rfl, ⟨.inr (.inr ⟨s.toks.length, rfl, fun hk => by have := hh _ hk; omega, M.tl, by simp, by simp⟩)⟩, p1, rfl, p2, p3⟩
    · simp only [okSz_of hl h0', cond_true]
      have hlt := (List.getElem?_eq_some_iff.1 h3).1
      rw [if_pos ⟨trivial, h3, b1, b2⟩]
      refine ⟨_, _, rfl, ⟨.inr (.inr ⟨k, rfl, h1, h2, by simp [hlt], by simp⟩)⟩, ?_, rfl, fun j hj => ?_, fun j hj => by have := hh j hj; simpa using this⟩
      · refine ⟨by simpa using M.tl, fun j hj hn => ?_, M.new, M.ll, M.lk⟩
        rw [List.getElem?_set_ne (by omega)]; exact M.tk j hj hn
      · rw [List.getElem?_set_ne (fun e => h1 (by rw [e]; exact hj))]
theorem AccH.appendF {α : Type} {f : α → AV} {e : TypeId} {t : TI} {A0 h0 h : List Nat} {s0 s : St} {x y : Slot} {A B : List α} (a : AccH e s0.toks.length h s x (A.map f)) (M : Moves A0 h0 h s0 s) (hh : ∀ k ∈ h, k < s.toks.length) (hy : y.list? = some (B.map f)) (hf : ∀ a, (f a).cells.length = t.size) (h0' : 0 < t.size)
    (b : A.length + B.length < 2^30) (hb : t.bytes ≤ 2^16) : ∃ x' s', appendS e t s x y = some (x', s') ∧ AccH e s0.toks.length h s' x' ((A ++ B).map f) ∧ Moves A0 h0 h s0 s' ∧ s'.locs = s.locs ∧ (∀ k ∈ h, s'.toks[k]? = s.toks[k]?) ∧ (∀ k ∈ h, k < s'.toks.length) := by
  have h1 : (A.length + B.length) * t.bytes ≤ 2^30 * 2^16 := Nat.mul_le_mul (Nat.le_of_lt b) hb
  have := AccH.append (m := B.map f) a M hh hy (t := t) (fun v hv => by obtain ⟨a, _, rfl⟩ := List.mem_map.1 hv; exact hf a) (fun v hv => by obtain ⟨a, _, rfl⟩ := List.mem_map.1 hv; exact hf a) h0' (by simp only [List.length_map]; omega) (by simp only [List.length_map]; omega)
  simpa using this
/-! ### a slice that a variable holds -/
def HeldIs (e : TypeId) (s : St) (x : Slot) (l : List AV) (h : List Nat) : Prop :=
  (x = .val .nils ∧ l = [] ∧ h = []) ∨ (x = .full l ∧ l ≠ [] ∧ h = []) ∨ ∃ k, x = .own k e l ∧ h = [k] ∧ s.toks[k]? = some l.length ∧ l ≠ []
theorem HeldIs.list? {e : TypeId} {s : St} {x : Slot} {l : List AV} {h : List Nat} (a : HeldIs e s x l h) : x.list? = some l := by
  rcases a with ⟨rfl, rfl, _⟩ | ⟨rfl, _⟩ | ⟨k, rfl, _⟩ <;> rfl
theorem HeldIs.av {e : TypeId} {s : St} {x : Slot} {l : List AV} {h : List Nat} (a : HeldIs e s x l h) : x.av = some (encS true l) := by
  rcases a with ⟨rfl, rfl, _⟩ | ⟨rfl, hl, _⟩ | ⟨k, rfl, _, _, hl⟩
  · rfl
  · rw [encS_true hl]; rfl
  · rw [encS_true hl]; rfl
theorem HeldIs.cellOk {e : TypeId} {s : St} {x : Slot} {l : List AV} {h : List Nat} (a : HeldIs e s x l h) : x.cellOk = true := by
  rcases a with ⟨rfl, rfl, _⟩ | ⟨rfl, _⟩ | ⟨k, rfl, _⟩ <;> rfl
theorem HeldIs.held {e : TypeId} {s : St} {x : Slot} {l : List AV} {h : List Nat} (a : HeldIs e s x l h) : ∀ k ∈ h, k < s.toks.length := by
  rcases a with ⟨_, _, rfl⟩ | ⟨_, _, rfl⟩ | ⟨k, _, rfl, ht, _⟩ <;> intro k' hk
  · cases hk
  · cases hk
  · simp only [List.mem_singleton] at hk; subst hk; exact (List.getElem?_eq_some_iff.1 ht).1
theorem HeldIs.stab {e : TypeId} {s s' : St} {x : Slot} {l : List AV} {h : List Nat} (a : HeldIs e s x l h) (ht : ∀ k ∈ h, s'.toks[k]? = s.toks[k]?) : HeldIs e s' x l h := by
  rcases a with a | a | ⟨k, rfl, rfl, hk, hl⟩
  · exact .inl a
  · exact .inr (.inl a)
  · exact .inr (.inr ⟨k, rfl, rfl, by rw [ht k (by simp)]; exact hk, hl⟩)
theorem HeldIs.append {e : TypeId} {t : TI} {s : St} {x y : Slot} {l m : List AV} {h : List Nat} (a : HeldIs e s x l h) (hy : y.list? = some m) (hl : ∀ v ∈ l, v.cells.length = t.size) (hm : ∀ v ∈ m, v.cells.length = t.size) (h0 : 0 < t.size)
    (b1 : (l.length + m.length) * t.bytes ≤ 140737488355328) (b2 : l.length + m.length ≤ 9223372036854775807) :
    ∃ x' s' h', appendS e t s x y = some (x', s') ∧ HeldIs e s' x' (l ++ m) h' ∧ s'.locs = s.locs ∧ Moves [] h h' s s' := by
  unfold appendS
  rw [hy]
  cases m with
  | nil =>
    simp only [a.list?]
    exact ⟨x, s, h, rfl, by simpa using a, rfl, .refl _ _ _⟩
  | cons q m =>
    simp only [okSz_of hm h0, cond_true]
    have push : ∀ n : Nat, Moves [] h [s.toks.length] s { s with toks := s.toks ++ [n] } := fun n =>
      ⟨by simp, fun k hk _ => List.getElem?_append_left hk, fun k hk => .inr (by simp at hk; omega), Nat.le_refl _, fun _ _ _ => rfl⟩
    rcases a with ⟨rfl, rfl, rfl⟩ | ⟨rfl, hn, rfl⟩ | ⟨k, rfl, rfl, h3, h4⟩
    · simp only []
      rw [if_pos ⟨by simpa using b1, by simpa using b2⟩]
      exact ⟨_, _, _, rfl, .inr (.inr ⟨s.toks.length, rfl, rfl, by simp, by simp⟩), rfl, push _⟩
    · simp only [okSz_of hl h0, cond_true]
      rw [if_pos ⟨b1, b2⟩]
      exact ⟨_, _, _, rfl, .inr (.inr ⟨s.toks.length, rfl, rfl, by simp, by simp⟩), rfl, push _⟩
    · simp only [okSz_of hl h0, cond_true]
      have hlt := (List.getElem?_eq_some_iff.1 h3).1
      rw [if_pos ⟨trivial, h3, b1, b2⟩]
      refine ⟨_, _, [k], rfl, .inr (.inr ⟨k, rfl, rfl, by simp [hlt], by simp⟩), rfl, ⟨by simp, fun j hj hn => ?_, fun _ h => .inl h, Nat.le_refl _, fun _ _ _ => rfl⟩⟩
      simp only [List.mem_singleton] at hn
      rw [List.getElem?_set_ne (Ne.symm hn)]
theorem HeldIs.appendF {α : Type} {f : α → AV} {e : TypeId} {t : TI} {s : St} {x y : Slot} {A B : List α} {h : List Nat} (a : HeldIs e s x (A.map f) h) (hy : y.list? = some (B.map f)) (hf : ∀ a, (f a).cells.length = t.size) (h0 : 0 < t.size)
    (b : A.length + B.length < 2^30) (hb : t.bytes ≤ 2^16) : ∃ x' s' h', appendS e t s x y = some (x', s') ∧ HeldIs e s' x' ((A ++ B).map f) h' ∧ s'.locs = s.locs ∧ Moves [] h h' s s' := by
  have h1 : (A.length + B.length) * t.bytes ≤ 2^30 * 2^16 := Nat.mul_le_mul (Nat.le_of_lt b) hb
  have := HeldIs.append (m := B.map f) a hy (t := t) (fun v hv => by obtain ⟨a, _, rfl⟩ := List.mem_map.1 hv; exact hf a) (fun v hv => by obtain ⟨a, _, rfl⟩ := List.mem_map.1 hv; exact hf a) h0 (by simp only [List.length_map]; omega) (by simp only [List.length_map]; omega)
  simpa using this
/-! ### maps as functions -/
section
variable {K V : Type} [DecidableEq K]
def find3 (k : K) : List (K × V × Nat) → Nat → Option (Nat × V × Nat)
  | [], _ => none
  | (k', v, b) :: r, i => if k = k' then some (i, v, b) else find3 k r (i + 1)
def upd (g : K → Option V) (k : K) (v : V) : K → Option V := fun k' => if k' = k then some v else g k'
theorem upd_same (g : K → Option V) (k : K) (v : V) : upd g k v k = some v := by simp [upd]
theorem upd_ne (g : K → Option V) {k k' : K} (v : V) (h : k' ≠ k) : upd g k v k' = g k' := by simp [upd, h]
structure MapIs (ek : K → AV) (ev : V → AV) (g : K → Option V) (es : List (AV × AV × Nat)) (c : Nat) (D : List (K × V × Nat)) : Prop where
  eq : es = D.map fun p => (ek p.1, ev p.2.1, p.2.2)
  find : ∀ k, g k = (find3 k D 0).map (·.2.1)
  born : ∀ p ∈ D, p.2.2 < c
  nodup : (D.map (·.2.2)).Nodup
variable {ek : K → AV} {ev : V → AV} {g : K → Option V} {es : List (AV × AV × Nat)} {c : Nat} {D : List (K × V × Nat)}
def KeyEnc (ek : K → AV) : Prop := ∀ a b, (ek a).keyEq (ek b) = some (decide (a = b))
theorem keyInt : KeyEnc fun n : Int => AV.int .i64 n := fun a b => by simp [AV.keyEq]; rfl
theorem keyStr : KeyEnc fun n : List UInt8 => AV.str n := fun a b => by simp [AV.keyEq, beqd]
theorem MapIs.nil : MapIs ek ev (fun _ => none) [] 0 ([] : List (K × V × Nat)) := ⟨rfl, fun _ => rfl, by simp, by simp⟩
theorem findE_3 (hk : KeyEnc ek) (k : K) : ∀ (D : List (K × V × Nat)) (i : Nat), findE (ek k) (D.map fun p => (ek p.1, ev p.2.1, p.2.2)) i = some ((find3 k D i).map fun q => (q.1, ev q.2.1, q.2.2))
  | [], _ => rfl
  | (k', v, b) :: D, i => by
    simp only [List.map_cons, findE, hk k k', find3]
    by_cases h : k = k'
    · simp [h]
    · simp only [h, decide_false, if_false]; exact findE_3 hk k D (i + 1)
theorem find3_set {k : K} {v v0 : V} {b : Nat} : ∀ {D : List (K × V × Nat)} {i j : Nat}, find3 k D i = some (j, v0, b) → i ≤ j ∧ D[j - i]? = some (k, v0, b) ∧ ∀ k', find3 k' (D.set (j - i) (k, v, b)) i = if k' = k then some (j, v, b) else find3 k' D i
  | [], _, _, h => by cases h
  | (k0, v1, b1) :: D, i, j, h => by
    simp only [find3] at h
    by_cases hk : k = k0
    · simp only [hk, if_true] at h
      cases h
      refine ⟨Nat.le_refl _, by simp [hk], fun k' => ?_⟩
      simp only [Nat.sub_self, List.set_cons_zero, find3, hk]
      by_cases h2 : k' = k0 <;> simp [h2]
    · simp only [hk, if_false] at h
      obtain ⟨h1, h2, h3⟩ := find3_set (v := v) h
      refine ⟨by omega, by rw [show j - i = (j - (i + 1)) + 1 by omega]; simpa using h2, fun k' => ?_⟩
      rw [show j - i = (j - (i + 1)) + 1 by omega]
      simp only [List.set_cons_succ, find3, h3]
      by_cases e : k' = k0
      · have : k' ≠ k := fun e' => hk (by rw [← e', e])
        simp [e, this]
        intro e'; exact absurd e'.symm hk
      · simp [e]
theorem find3_push {k : K} {v : V} {b : Nat} : ∀ {D : List (K × V × Nat)} {i : Nat}, find3 k D i = none → ∀ k', find3 k' (D ++ [(k, v, b)]) i = if k' = k then some (i + D.length, v, b) else find3 k' D i
  | [], i, _, k' => by simp [find3]
  | (k0, v1, b1) :: D, i, h, k' => by
    simp only [find3] at h
    by_cases hk : k = k0
    · simp [hk] at h
    · simp only [hk, if_false] at h
      simp only [List.cons_append, find3, find3_push h, List.length_cons]
      by_cases e : k' = k0
      · have : k' ≠ k := fun e' => hk (by rw [← e', e])
        simp [e]
        intro e'; exact absurd e'.symm hk
      · simp only [e, if_false]; congr 2; simp; omega
theorem MapIs.update (M : MapIs ek ev g es c D) (hk : KeyEnc ek) (k : K) (v : V) :
    (∃ j v0 b, findE (ek k) es 0 = some (some (j, ev v0, b)) ∧ g k = some v0 ∧ b < c ∧ ∃ D', MapIs ek ev (upd g k v) (es.set j (ek k, ev v, b)) c D') ∨
    (findE (ek k) es 0 = some none ∧ g k = none ∧ ∃ D', MapIs ek ev (upd g k v) (es ++ [(ek k, ev v, c)]) (c + 1) D') := by
  obtain ⟨rfl, hf, hb, hn⟩ := M
  rw [findE_3 hk]
  cases h : find3 k D 0 with
  | none =>
    refine .inr ⟨rfl, by rw [hf, h]; rfl, D ++ [(k, v, c)], by simp, fun k' => ?_, fun p hp => ?_, ?_⟩
    · rw [find3_push h]
      by_cases e : k' = k
      · simp [e, upd]
      · simp [e, upd, hf]
    · rcases List.mem_append.1 hp with hp | hp
      · have := hb p hp; omega
      · simp at hp; subst hp; simp
    · rw [List.map_append]
      refine List.nodup_append.2 ⟨hn, by simp, fun a ha b' hb' => ?_⟩
      simp only [List.map_cons, List.map_nil, List.mem_singleton] at hb'
      obtain ⟨p, hp, rfl⟩ := List.mem_map.1 ha
      have := hb p hp; omega
  | some q =>
    obtain ⟨j, v0, b⟩ := q
    obtain ⟨-, h2, h3⟩ := find3_set (v := v) h
    simp only [Nat.sub_zero] at h2 h3
    refine .inl ⟨j, v0, b, rfl, by rw [hf, h]; rfl, hb _ (List.mem_of_getElem? h2), D.set j (k, v, b), by simp [List.map_set], fun k' => ?_, fun p hp => ?_, ?_⟩
    · rw [h3]
      by_cases e : k' = k
      · simp [e, upd]
      · simp [e, upd, hf]
    · rcases List.mem_or_eq_of_mem_set hp with hp | rfl
      · exact hb p hp
      · have := hb _ (List.mem_of_getElem? h2); exact this
    · have : (D.set j (k, v, b)).map (·.2.2) = D.map (·.2.2) := by
        rw [List.map_set]
        refine List.ext_getElem? fun i => ?_
        rw [List.getElem?_set]
        by_cases e : j = i
        · subst e
          obtain ⟨hlt, hD⟩ := List.getElem?_eq_some_iff.1 h2
          simp [hlt, hD]
        · simp [e]
      rw [this]; exact hn
theorem find3_nth {k : K} {v0 : V} {b : Nat} {D : List (K × V × Nat)} {j : Nat} (h : find3 k D 0 = some (j, v0, b)) : D[j]? = some (k, v0, b) := by
  have := (find3_set (v := v0) h).2.1
  simpa using this
omit [DecidableEq K] in
theorem setBorn_3 {y : AV} : ∀ {D : List (K × V × Nat)} {j : Nat} {k : K} {v : V} {b : Nat}, D[j]? = some (k, v, b) → (D.map (·.2.2)).Nodup → setBorn (b : Int) y (D.map fun p => (ek p.1, ev p.2.1, p.2.2)) = some ((D.map fun p => (ek p.1, ev p.2.1, p.2.2)).set j (ek k, y, b))
  | [], j, k, v, b, h, _ => by simp at h
  | (k0, v0, b0) :: D, 0, k, v, b, h, _ => by
    simp at h
    obtain ⟨rfl, rfl, rfl⟩ := h
    simp [setBorn]
  | (k0, v0, b0) :: D, j + 1, k, v, b, h, hn => by
    simp only [List.getElem?_cons_succ] at h
    simp only [List.map_cons, List.nodup_cons] at hn
    have hne : b0 ≠ b := fun e => hn.1 (List.mem_map.2 ⟨_, List.mem_of_getElem? h, e.symm⟩)
    have hb : ((b0 : Int) == (b : Int)) = false := by simp; omega
    simp only [List.map_cons, setBorn, hb, cond_false, setBorn_3 h hn.2, List.set_cons_succ]
theorem lookupS_map (M : MapIs ek ev g es c D) (hk : KeyEnc ek) {kt et : TI} (k : K) (hkt : isKey kt (ek k) = true) {s : St} {loc : Nat} (hl : s.locs[loc]? = some (.map es c)) {z : AV} (hz : et.zeroV = some z) (ok : Bool) :
    lookupS kt et s (.val (.mp loc)) (.val (ek k)) ok = some (.val (match g k with | some v => (bif ok then .tup [ev v, .bool true] else ev v) | none => (bif ok then .tup [z, .bool false] else z))) := by
  obtain ⟨rfl, hf, hb, hn⟩ := M
  simp only [lookupS, av_val, hkt, if_true, hl, findE_3 hk, hf]
  cases h : find3 k D 0 with
  | none => simp [hz]
  | some q => simp
theorem updateS_map (M : MapIs ek ev g es c D) (hk : KeyEnc ek) {kt et : TI} (k : K) (hkt : isKey kt (ek k) = true) {s : St} {loc : Nat} (hl : s.locs[loc]? = some (.map es c)) {x : Slot} {v : V} (hx : x.av = some (ev v)) (hs : (ev v).cells.length = et.size) :
    ∃ es' c' D', updateS kt et s (.val (.mp loc)) (.val (ek k)) x = some (.no, { s with locs := s.locs.set loc (.map es' c') }) ∧ MapIs ek ev (upd g k v) es' c' D' := by
  rcases M.update hk k v with ⟨j, v0, b, h1, h2, h3, D', h4⟩ | ⟨h1, h2, D', h4⟩
  · exact ⟨_, _, D', by simp only [updateS, av_val, hx, hkt, hs, and_self, if_true, hl, h1], h4⟩
  · exact ⟨_, _, D', by simp only [updateS, av_val, hx, hkt, hs, and_self, if_true, hl, h1], h4⟩
/-- 'm[k] op= ..' -/
theorem entryS_map (M : MapIs ek ev g es c D) (hk : KeyEnc ek) {kt et : TI} (k : K) (hkt : isKey kt (ek k) = true) {s : St} {loc : Nat} (hl : s.locs[loc]? = some (.map es c)) {z0 : V} (hz : et.zeroV = some (ev z0)) :
    ∃ es1 c1 b, entryS kt et s (.val (.mp loc)) (.val (ek k)) = some (.val (.tup [ev ((g k).getD z0), .int .i64 (b : Nat)]), { s with locs := s.locs.set loc (.map es1 c1) }) ∧
      ∀ (s2 : St) (x : Slot) (v : V), s2.locs[loc]? = some (.map es1 c1) → x.av = some (ev v) → ∃ es' D', entrySt s2 (.val (.mp loc)) (.val (.int .i64 (b : Nat))) x = some (.no, { s2 with locs := s2.locs.set loc (.map es' c1) }) ∧ MapIs ek ev (upd g k v) es' c1 D' := by
  obtain ⟨rfl, hf, hb, hn⟩ := M
  have hborn : ∀ {D1 : List (K × V × Nat)} {j b c1 : Nat} {v1 : V} (v : V), D1[j]? = some (k, v1, b) → find3 k D1 0 = some (j, v1, b) → (D1.map (·.2.2)).Nodup → (∀ p ∈ D1, p.2.2 < c1) → (∀ k', k' ≠ k → (find3 k' D1 0).map (·.2.1) = g k') →
      ∀ (s2 : St) (x : Slot), s2.locs[loc]? = some (.map (D1.map fun p => (ek p.1, ev p.2.1, p.2.2)) c1) → x.av = some (ev v) → ∃ es' D', entrySt s2 (.val (.mp loc)) (.val (.int .i64 (b : Nat))) x = some (.no, { s2 with locs := s2.locs.set loc (.map es' c1) }) ∧ MapIs ek ev (upd g k v) es' c1 D' := by
    intro D1 j b c1 v1 v hj hf1 hn1 hb1 hother s2 x hl2 hx
    refine ⟨(D1.map fun p => (ek p.1, ev p.2.1, p.2.2)).set j (ek k, ev v, b), D1.set j (k, v, b), by simp only [entrySt, hx, hl2, setBorn_3 hj hn1], by simp [List.map_set], fun k' => ?_, fun p hp => ?_, ?_⟩
    · rw [show D1.set j (k, v, b) = D1.set (j - 0) (k, v, b) from rfl, (find3_set (v := v) hf1).2.2]
      by_cases e : k' = k
      · simp [e, upd]
      · simp [e, upd, hother k' e]
    · rcases List.mem_or_eq_of_mem_set hp with hp | rfl
      · exact hb1 p hp
      · have := hb1 _ (List.mem_of_getElem? hj); exact this
    · have : (D1.set j (k, v, b)).map (·.2.2) = D1.map (·.2.2) := by
        rw [List.map_set]
        refine List.ext_getElem? fun i => ?_
        rw [List.getElem?_set]
        by_cases e : j = i
        · subst e
          obtain ⟨hlt, hD⟩ := List.getElem?_eq_some_iff.1 hj
          simp [hlt, hD]
        · simp [e]
      rw [this]; exact hn1
  cases h : find3 k D 0 with
  | none =>
    refine ⟨_, c + 1, c, by simp only [entryS, av_val, hkt, if_true, hl, findE_3 hk, h, Option.map_none, hz, hf, Option.getD_none]; rfl, fun s2 x v hl2 hx => ?_⟩
    have hp := find3_push (v := z0) (b := c) h
    refine hborn (D1 := D ++ [(k, z0, c)]) (j := D.length) (v1 := z0) v (by simp) (by rw [hp]; simp) ?_ (fun p hp => ?_) (fun k' hk' => by rw [hp, if_neg hk', hf]) s2 x (by rw [hl2]; simp) hx
    · rw [List.map_append]
      refine List.nodup_append.2 ⟨hn, by simp, fun a ha b' hb' => ?_⟩
      simp only [List.map_cons, List.map_nil, List.mem_singleton] at hb'
      obtain ⟨p, hp, rfl⟩ := List.mem_map.1 ha
      have := hb p hp; omega
    · rcases List.mem_append.1 hp with hp | hp
      · have := hb p hp; omega
      · simp at hp; subst hp; simp
  | some q =>
    obtain ⟨j, v0, b⟩ := q
    have hj := find3_nth h
    refine ⟨_, c, b, by simp only [entryS, av_val, hkt, if_true, hl, findE_3 hk, h, Option.map_some, hf, Option.getD_some]; rfl, fun s2 x v hl2 hx => ?_⟩
    have hself : (D.map fun p => (ek p.1, ev p.2.1, p.2.2)).set j (ek k, ev v0, b) = D.map fun p => (ek p.1, ev p.2.1, p.2.2) := by
      refine List.ext_getElem? fun i => ?_
      rw [List.getElem?_set]
      by_cases e : j = i
      · subst e
        obtain ⟨hlt, hD⟩ := List.getElem?_eq_some_iff.1 hj
        simp [hlt, hD]
      · simp [e]
    rw [hself] at hl2
    exact hborn (D1 := D) v hj h hn hb (fun k' _ => (hf k').symm) s2 x hl2 hx
end
end Go.Am

namespace Go.Am
open Go
abbrev Str := List UInt8
/-! ### types -/
inductive Ty where
  | mk (kind n : Int) (name : Str) (args : List Ty) (nl : Bool)
  deriving Inhabited
namespace Ty
def kind : Ty → Int | mk k _ _ _ _ => k
def n : Ty → Int | mk _ n _ _ _ => n
def name : Ty → Str | mk _ _ s _ _ => s
def args : Ty → List Ty | mk _ _ _ l _ => l
def nl : Ty → Bool | mk _ _ _ _ b => b
mutual
def cells : Ty → List AV
  | mk k n s l b => [.int .i64 k, .int .i64 n, .str s, encS b (encs l)]
def encs : List Ty → List AV
  | [] => []
  | t :: l => .agg t.cells :: encs l
end
abbrev enc (t : Ty) : AV := .agg t.cells
theorem encs_map : ∀ l : List Ty, encs l = l.map enc
  | [] => rfl
  | t :: l => by rw [encs, encs_map l]; rfl
theorem cells_eq (t : Ty) : t.cells = [.int .i64 t.kind, .int .i64 t.n, .str t.name, encS t.nl (t.args.map enc)] := by
  cases t; rw [cells, encs_map]; rfl
@[go_sem] theorem cells_mk (k n : Int) (s : Str) (l : List Ty) (b : Bool) : (mk k n s l b).cells = [.int .i64 k, .int .i64 n, .str s, encS b (l.map enc)] := cells_eq _
@[go_sem] theorem cells_len (t : Ty) : t.cells.length = 4 := by rw [cells_eq]; rfl
mutual
def size : Ty → Nat
  | mk _ _ _ l _ => sizes l + 1
def sizes : List Ty → Nat
  | [] => 0
  | t :: l => t.size + sizes l
end
def zero : Ty := mk 0 0 [] [] true
end Ty
/-! ### patterns -/
inductive Pat where
  | mk (kind at_ : Int) (name : Str) (n : Int) (kids : List Pat) (kb : Bool)
  deriving Inhabited
namespace Pat
def kind : Pat → Int | mk k _ _ _ _ _ => k
def at_ : Pat → Int | mk _ a _ _ _ _ => a
def name : Pat → Str | mk _ _ s _ _ _ => s
def n : Pat → Int | mk _ _ _ n _ _ => n
def kids : Pat → List Pat | mk _ _ _ _ l _ => l
def kb : Pat → Bool | mk _ _ _ _ _ b => b
mutual
def cells : Pat → List AV
  | mk k a s n l b => [.int .i64 k, .int .i64 a, .str s, .int .i64 n, encS b (encs l)]
def encs : List Pat → List AV
  | [] => []
  | t :: l => .agg t.cells :: encs l
end
abbrev enc (t : Pat) : AV := .agg t.cells
theorem encs_map : ∀ l : List Pat, encs l = l.map enc
  | [] => rfl
  | t :: l => by rw [encs, encs_map l]; rfl
theorem cells_eq (t : Pat) : t.cells = [.int .i64 t.kind, .int .i64 t.at_, .str t.name, .int .i64 t.n, encS t.kb (t.kids.map enc)] := by
  cases t; rw [cells, encs_map]; rfl
@[go_sem] theorem cells_mk (k a : Int) (s : Str) (n : Int) (l : List Pat) (b : Bool) : (mk k a s n l b).cells = [.int .i64 k, .int .i64 a, .str s, .int .i64 n, encS b (l.map enc)] := cells_eq _
@[go_sem] theorem cells_len (t : Pat) : t.cells.length = 5 := by rw [cells_eq]; rfl
mutual
def size : Pat → Nat
  | mk _ _ _ _ l _ => sizes l + 1
def sizes : List Pat → Nat
  | [] => 0
  | t :: l => t.size + sizes l
end
def zero : Pat := mk 0 0 [] 0 [] true
end Pat
/-! ### constructors -/
structure Con where
  name : Str
  at_ : Int
  has : Bool
  arg : Ty
  deriving Inhabited
namespace Con
def cells (c : Con) : List AV := .str c.name :: .int .i64 c.at_ :: .bool c.has :: c.arg.cells
abbrev enc (c : Con) : AV := .agg c.cells
@[go_sem] theorem cells_len (c : Con) : c.cells.length = 7 := by simp [go_sem, cells]
def size (c : Con) : Nat := c.arg.size + 1
def sizes : List Con → Nat
  | [] => 0
  | c :: l => c.size + sizes l
def zero : Con := ⟨[], 0, false, .zero⟩
end Con
/-! ### expressions, declarations -/
mutual
inductive Exp where
  | mk (kind at_ : Int) (name : Str) (n : Int) (kids : List Exp) (kb : Bool) (cases : List Case) (cb : Bool) (decs : List Dec) (db : Bool)
inductive Case where
  | mk (pat : Pat) (exp : Exp)
inductive Dec where
  | mk (kind at_ : Int) (name : Str) (params : Int) (cons : List Con) (nb : Bool) (case : List Case) (cb : Bool) (funs : List Fun) (fb : Bool)
inductive Fun where
  | mk (name : Str) (at_ : Int) (case : Case)
end
namespace Exp
def kind : Exp → Int | mk k _ _ _ _ _ _ _ _ _ => k
def at_ : Exp → Int | mk _ a _ _ _ _ _ _ _ _ => a
def name : Exp → Str | mk _ _ s _ _ _ _ _ _ _ => s
def n : Exp → Int | mk _ _ _ n _ _ _ _ _ _ => n
def kids : Exp → List Exp | mk _ _ _ _ l _ _ _ _ _ => l
def kb : Exp → Bool | mk _ _ _ _ _ b _ _ _ _ => b
def cases : Exp → List Case | mk _ _ _ _ _ _ c _ _ _ => c
def cb : Exp → Bool | mk _ _ _ _ _ _ _ b _ _ => b
def decs : Exp → List Dec | mk _ _ _ _ _ _ _ _ d _ => d
def db : Exp → Bool | mk _ _ _ _ _ _ _ _ _ b => b
end Exp
namespace Case
def pat : Case → Pat | mk p _ => p
def exp : Case → Exp | mk _ e => e
end Case
namespace Dec
def kind : Dec → Int | mk k _ _ _ _ _ _ _ _ _ => k
def at_ : Dec → Int | mk _ a _ _ _ _ _ _ _ _ => a
def name : Dec → Str | mk _ _ s _ _ _ _ _ _ _ => s
def params : Dec → Int | mk _ _ _ p _ _ _ _ _ _ => p
def cons : Dec → List Con | mk _ _ _ _ l _ _ _ _ _ => l
def nb : Dec → Bool | mk _ _ _ _ _ b _ _ _ _ => b
def case : Dec → List Case | mk _ _ _ _ _ _ c _ _ _ => c
def cb : Dec → Bool | mk _ _ _ _ _ _ _ b _ _ => b
def funs : Dec → List Fun | mk _ _ _ _ _ _ _ _ f _ => f
def fb : Dec → Bool | mk _ _ _ _ _ _ _ _ _ b => b
end Dec
namespace Fun
def name : Fun → Str | mk s _ _ => s
def at_ : Fun → Int | mk _ a _ => a
def case : Fun → Case | mk _ _ c => c
end Fun
mutual
def Exp.cells : Exp → List AV
  | .mk k a s n l kb c cb d db => [.int .i64 k, .int .i64 a, .str s, .int .i64 n, encS kb (Exp.encs l), encS cb (Case.encs c), encS db (Dec.encs d)]
def Exp.encs : List Exp → List AV
  | [] => []
  | t :: l => .agg t.cells :: Exp.encs l
def Case.cells : Case → List AV
  | .mk p e => p.cells ++ e.cells
def Case.encs : List Case → List AV
  | [] => []
  | t :: l => .agg t.cells :: Case.encs l
def Dec.cells : Dec → List AV
  | .mk k a s p l nb c cb f fb => [.int .i64 k, .int .i64 a, .str s, .int .i64 p, encS nb (l.map Con.enc), encS cb (Case.encs c), encS fb (Fun.encs f)]
def Dec.encs : List Dec → List AV
  | [] => []
  | t :: l => .agg t.cells :: Dec.encs l
def Fun.cells : Fun → List AV
  | .mk s a c => .str s :: .int .i64 a :: c.cells
def Fun.encs : List Fun → List AV
  | [] => []
  | t :: l => .agg t.cells :: Fun.encs l
end
abbrev Exp.enc (t : Exp) : AV := .agg t.cells
abbrev Case.enc (t : Case) : AV := .agg t.cells
abbrev Dec.enc (t : Dec) : AV := .agg t.cells
abbrev Fun.enc (t : Fun) : AV := .agg t.cells
theorem Exp.encs_map : ∀ l : List Exp, Exp.encs l = l.map Exp.enc
  | [] => by rw [Exp.encs]; rfl
  | t :: l => by rw [Exp.encs, Exp.encs_map l]; rfl
theorem Case.encs_map : ∀ l : List Case, Case.encs l = l.map Case.enc
  | [] => by rw [Case.encs]; rfl
  | t :: l => by rw [Case.encs, Case.encs_map l]; rfl
theorem Dec.encs_map : ∀ l : List Dec, Dec.encs l = l.map Dec.enc
  | [] => by rw [Dec.encs]; rfl
  | t :: l => by rw [Dec.encs, Dec.encs_map l]; rfl
theorem Fun.encs_map : ∀ l : List Fun, Fun.encs l = l.map Fun.enc
  | [] => by rw [Fun.encs]; rfl
  | t :: l => by rw [Fun.encs, Fun.encs_map l]; rfl
@[go_sem] theorem Exp.cells_mk (k a : Int) (s : Str) (n : Int) (l : List Exp) (kb : Bool) (c : List Case) (cb : Bool) (d : List Dec) (db : Bool) : (Exp.mk k a s n l kb c cb d db).cells = [.int .i64 k, .int .i64 a, .str s, .int .i64 n, encS kb (l.map Exp.enc), encS cb (c.map Case.enc), encS db (d.map Dec.enc)] := by
  rw [Exp.cells, Exp.encs_map, Case.encs_map, Dec.encs_map]
@[go_sem] theorem Case.cells_mk (p : Pat) (e : Exp) : (Case.mk p e).cells = p.cells ++ e.cells := by rw [Case.cells]
@[go_sem] theorem Dec.cells_mk (k a : Int) (s : Str) (p : Int) (l : List Con) (nb : Bool) (c : List Case) (cb : Bool) (f : List Fun) (fb : Bool) : (Dec.mk k a s p l nb c cb f fb).cells = [.int .i64 k, .int .i64 a, .str s, .int .i64 p, encS nb (l.map Con.enc), encS cb (c.map Case.enc), encS fb (f.map Fun.enc)] := by
  rw [Dec.cells, Case.encs_map, Fun.encs_map]
@[go_sem] theorem Fun.cells_mk (s : Str) (a : Int) (c : Case) : (Fun.mk s a c).cells = .str s :: .int .i64 a :: c.cells := by rw [Fun.cells]
theorem Exp.cells_eq (t : Exp) : t.cells = [.int .i64 t.kind, .int .i64 t.at_, .str t.name, .int .i64 t.n, encS t.kb (t.kids.map Exp.enc), encS t.cb (t.cases.map Case.enc), encS t.db (t.decs.map Dec.enc)] := by
  cases t; rw [Exp.cells_mk]; rfl
theorem Dec.cells_eq (t : Dec) : t.cells = [.int .i64 t.kind, .int .i64 t.at_, .str t.name, .int .i64 t.params, encS t.nb (t.cons.map Con.enc), encS t.cb (t.case.map Case.enc), encS t.fb (t.funs.map Fun.enc)] := by
  cases t; rw [Dec.cells_mk]; rfl
theorem Case.cells_eq (t : Case) : t.cells = t.pat.cells ++ t.exp.cells := by cases t; rw [Case.cells_mk]; rfl
theorem Fun.cells_eq (t : Fun) : t.cells = .str t.name :: .int .i64 t.at_ :: t.case.cells := by cases t; rw [Fun.cells_mk]; rfl
@[go_sem] theorem Exp.cells_len (t : Exp) : t.cells.length = 7 := by rw [Exp.cells_eq]; rfl
@[go_sem] theorem Dec.cells_len (t : Dec) : t.cells.length = 7 := by rw [Dec.cells_eq]; rfl
@[go_sem] theorem Case.cells_len (t : Case) : t.cells.length = 12 := by rw [Case.cells_eq]; simp [go_sem]
@[go_sem] theorem Fun.cells_len (t : Fun) : t.cells.length = 14 := by rw [Fun.cells_eq]; simp [go_sem]
mutual
def Exp.size : Exp → Nat
  | .mk _ _ _ _ l _ c _ d _ => Exp.sizes l + Case.sizes c + Dec.sizes d + 1
def Exp.sizes : List Exp → Nat
  | [] => 0
  | t :: l => t.size + Exp.sizes l
def Case.size : Case → Nat
  | .mk p e => p.size + e.size + 1
def Case.sizes : List Case → Nat
  | [] => 0
  | t :: l => t.size + Case.sizes l
def Dec.size : Dec → Nat
  | .mk _ _ _ _ l _ c _ f _ => Con.sizes l + Case.sizes c + Fun.sizes f + 1
def Dec.sizes : List Dec → Nat
  | [] => 0
  | t :: l => t.size + Dec.sizes l
def Fun.size : Fun → Nat
  | .mk _ _ c => c.size + 1
def Fun.sizes : List Fun → Nat
  | [] => 0
  | t :: l => t.size + Fun.sizes l
end
def Exp.zero : Exp := .mk 0 0 [] 0 [] true [] true [] true
def Case.zero : Case := .mk .zero .zero
def Dec.zero : Dec := .mk 0 0 [] 0 [] true [] true [] true
def Fun.zero : Fun := .mk [] 0 .zero
theorem Ty.len_sizes : ∀ l : List Ty, l.length ≤ Ty.sizes l
  | [] => Nat.le_refl _
  | .mk _ _ _ _ _ :: l => by have := Ty.len_sizes l; simp only [Ty.sizes, Ty.size, List.length_cons]; omega
theorem Pat.len_sizes : ∀ l : List Pat, l.length ≤ Pat.sizes l
  | [] => Nat.le_refl _
  | .mk _ _ _ _ _ _ :: l => by have := Pat.len_sizes l; simp only [Pat.sizes, Pat.size, List.length_cons]; omega
theorem Con.len_sizes : ∀ l : List Con, l.length ≤ Con.sizes l
  | [] => Nat.le_refl _
  | c :: l => by have := Con.len_sizes l; simp only [Con.sizes, Con.size, List.length_cons]; omega
theorem Exp.len_sizes : ∀ l : List Exp, l.length ≤ Exp.sizes l
  | [] => Nat.zero_le _
  | .mk _ _ _ _ _ _ _ _ _ _ :: l => by have := Exp.len_sizes l; simp only [Exp.sizes, Exp.size, List.length_cons]; omega
theorem Case.len_sizes : ∀ l : List Case, l.length ≤ Case.sizes l
  | [] => Nat.zero_le _
  | .mk _ _ :: l => by have := Case.len_sizes l; simp only [Case.sizes, Case.size, List.length_cons]; omega
theorem Dec.len_sizes : ∀ l : List Dec, l.length ≤ Dec.sizes l
  | [] => Nat.zero_le _
  | .mk _ _ _ _ _ _ _ _ _ _ :: l => by have := Dec.len_sizes l; simp only [Dec.sizes, Dec.size, List.length_cons]; omega
theorem Fun.len_sizes : ∀ l : List Fun, l.length ≤ Fun.sizes l
  | [] => Nat.zero_le _
  | .mk _ _ _ :: l => by have := Fun.len_sizes l; simp only [Fun.sizes, Fun.size, List.length_cons]; omega
theorem Ty.mem_sizes : ∀ {l : List Ty} {t : Ty}, t ∈ l → t.size ≤ Ty.sizes l
  | x :: l, t, h => by
    simp only [Ty.sizes]
    rcases List.mem_cons.1 h with rfl | h
    · omega
    · have := Ty.mem_sizes h; omega
theorem Pat.mem_sizes : ∀ {l : List Pat} {t : Pat}, t ∈ l → t.size ≤ Pat.sizes l
  | x :: l, t, h => by
    simp only [Pat.sizes]
    rcases List.mem_cons.1 h with rfl | h
    · omega
    · have := Pat.mem_sizes h; omega
theorem Con.mem_sizes : ∀ {l : List Con} {t : Con}, t ∈ l → t.size ≤ Con.sizes l
  | x :: l, t, h => by
    simp only [Con.sizes]
    rcases List.mem_cons.1 h with rfl | h
    · omega
    · have := Con.mem_sizes h; omega
theorem Exp.mem_sizes : ∀ {l : List Exp} {t : Exp}, t ∈ l → t.size ≤ Exp.sizes l
  | x :: l, t, h => by
    simp only [Exp.sizes]
    rcases List.mem_cons.1 h with rfl | h
    · omega
    · have := Exp.mem_sizes h; omega
theorem Case.mem_sizes : ∀ {l : List Case} {t : Case}, t ∈ l → t.size ≤ Case.sizes l
  | x :: l, t, h => by
    simp only [Case.sizes]
    rcases List.mem_cons.1 h with rfl | h
    · omega
    · have := Case.mem_sizes h; omega
theorem Dec.mem_sizes : ∀ {l : List Dec} {t : Dec}, t ∈ l → t.size ≤ Dec.sizes l
  | x :: l, t, h => by
    simp only [Dec.sizes]
    rcases List.mem_cons.1 h with rfl | h
    · omega
    · have := Dec.mem_sizes h; omega
theorem Fun.mem_sizes : ∀ {l : List Fun} {t : Fun}, t ∈ l → t.size ≤ Fun.sizes l
  | x :: l, t, h => by
    simp only [Fun.sizes]
    rcases List.mem_cons.1 h with rfl | h
    · omega
    · have := Fun.mem_sizes h; omega
end Go.Am

namespace Go.Proofs.YtadhckhgemongaaDoor
open Go Go.Am
set_option linter.unusedVariables false
noncomputable def tis : List TI := [
  {},
  { k := .func, size := 1, bytes := 8, zero := [.nilf] },
  { k := .int .i64, size := 1, bytes := 8, zero := [.int .i64 0] },
  { k := .int .i64, size := 1, bytes := 8, zero := [.int .i64 0] },
  { k := .bool, size := 1, bytes := 1, zero := [.bool false] },
  { k := .int .u8, size := 1, bytes := 1, zero := [.int .u8 0] },
  { k := .int .u8, size := 1, bytes := 1, zero := [.int .u8 0] },
  { k := .struct [(0, 2), (1, 3), (2, 4), (3, 6)], size := 4, bytes := 24, zero := [.int .i64 0, .int .i64 0, .bool false, .int .u8 0] },
  { k := .struct [(0, 2), (1, 3), (2, 4), (3, 6)], size := 4, bytes := 24, zero := [.int .i64 0, .int .i64 0, .bool false, .int .u8 0] },
  { k := .str, size := 1, bytes := 16, zero := [.str []] },
  { k := .str, size := 1, bytes := 16, zero := [.str []] },
  { k := .str, size := 1, bytes := 16, zero := [.str []] },
  { k := .int .u64, size := 1, bytes := 8, zero := [.int .u64 0] },
  { k := .struct [(0, 9), (1, 12)], size := 2, bytes := 24, zero := [.str [], .int .u64 0] },
  { k := .struct [(0, 9), (1, 12)], size := 2, bytes := 24, zero := [.str [], .int .u64 0] },
  { k := .ptr, size := 1, bytes := 8, zero := [.nilp] },
  { k := .ptr, size := 1, bytes := 8, zero := [.nilp] },
  { k := .ptr, size := 1, bytes := 8, zero := [.nilp] },
  { k := .struct [(0, 17)], size := 1, bytes := 8, zero := [.nilp] },
  { k := .struct [(0, 17)], size := 1, bytes := 8, zero := [.nilp] },
  { k := .iface, size := 1, bytes := 16, zero := [.nili] },
  { k := .int .i32, size := 1, bytes := 4, zero := [.int .i32 0] },
  { k := .func, size := 1, bytes := 8, zero := [.nilf] },
  { k := .slice 33, size := 1, bytes := 24, zero := [.nils] },
  { k := .int .i64, size := 1, bytes := 8, zero := [.int .i64 0] },
  { k := .struct [(0, 24), (1, 3), (2, 9)], size := 3, bytes := 32, zero := [.int .i64 0, .int .i64 0, .str []] },
  { k := .struct [(0, 24), (1, 3), (2, 9)], size := 3, bytes := 32, zero := [.int .i64 0, .int .i64 0, .str []], flat := [.int .i64, .int .i64, .str] },
  {},
  { k := .func, size := 1, bytes := 8, zero := [.nilf] },
  { k := .func, size := 1, bytes := 8, zero := [.nilf] },
  { k := .func, size := 1, bytes := 8, zero := [.nilf] },
  { k := .int .i64, size := 1, bytes := 8, zero := [.int .i64 0] },
  { k := .struct [(0, 31), (1, 3), (2, 9), (3, 3)], size := 4, bytes := 40, zero := [.int .i64 0, .int .i64 0, .str [], .int .i64 0] },
  { k := .struct [(0, 31), (1, 3), (2, 9), (3, 3)], size := 4, bytes := 40, zero := [.int .i64 0, .int .i64 0, .str [], .int .i64 0] },
  { k := .slice 9, size := 1, bytes := 24, zero := [.nils] },
  { k := .func, size := 1, bytes := 8, zero := [.nilf] },
  { k := .func, size := 1, bytes := 8, zero := [.nilf] },
  { k := .func, size := 1, bytes := 8, zero := [.nilf] },
  { k := .func, size := 1, bytes := 8, zero := [.nilf] },
  { k := .func, size := 1, bytes := 8, zero := [.nilf] },
  { k := .func, size := 1, bytes := 8, zero := [.nilf] },
  {},
  { k := .func, size := 1, bytes := 8, zero := [.nilf] },
  {},
  { k := .func, size := 1, bytes := 8, zero := [.nilf] },
  { k := .func, size := 1, bytes := 8, zero := [.nilf] },
  { k := .func, size := 1, bytes := 8, zero := [.nilf] },
  { k := .array 24 9, size := 24, bytes := 384, zero := [.str [], .str [], .str [], .str [], .str [], .str [], .str [], .str [], .str [], .str [], .str [], .str [], .str [], .str [], .str [], .str [], .str [], .str [], .str [], .str [], .str [], .str [], .str [], .str []] },
  { k := .array 19 9, size := 19, bytes := 304, zero := [.str [], .str [], .str [], .str [], .str [], .str [], .str [], .str [], .str [], .str [], .str [], .str [], .str [], .str [], .str [], .str [], .str [], .str [], .str []] },
  { k := .func, size := 1, bytes := 8, zero := [.nilf] },
  { k := .func, size := 1, bytes := 8, zero := [.nilf] },
  { k := .func, size := 1, bytes := 8, zero := [.nilf] },
  { k := .func, size := 1, bytes := 8, zero := [.nilf] },
  { k := .func, size := 1, bytes := 8, zero := [.nilf] },
  { k := .func, size := 1, bytes := 8, zero := [.nilf] },
  { k := .func, size := 1, bytes := 8, zero := [.nilf] },
  { k := .func, size := 1, bytes := 8, zero := [.nilf] },
  { k := .func, size := 1, bytes := 8, zero := [.nilf] },
  { k := .ptr, size := 1, bytes := 8, zero := [.nilp] },
  { k := .slice 5, size := 1, bytes := 24, zero := [.nils] },
  { k := .struct [(0, 58), (1, 59)], size := 2, bytes := 32, zero := [.nilp, .nils] },
  { k := .struct [(0, 58), (1, 59)], size := 2, bytes := 32, zero := [.nilp, .nils] },
  { k := .func, size := 1, bytes := 8, zero := [.nilf] },
  { k := .iface, size := 1, bytes := 16, zero := [.nili] },
  { k := .iface, size := 1, bytes := 16, zero := [.nili] },
  {},
  { k := .func, size := 1, bytes := 8, zero := [.nilf] },
  { k := .func, size := 1, bytes := 8, zero := [.nilf] },
  { k := .func, size := 1, bytes := 8, zero := [.nilf] },
  { k := .ptr, size := 1, bytes := 8, zero := [.nilp] },
  { k := .func, size := 1, bytes := 8, zero := [.nilf] },
  {},
  { k := .func, size := 1, bytes := 8, zero := [.nilf] },
  { k := .func, size := 1, bytes := 8, zero := [.nilf] },
  { k := .struct [(0, 17), (1, 17), (2, 17), (3, 9)], size := 4, bytes := 40, zero := [.nilp, .nilp, .nilp, .str []] },
  { k := .struct [(0, 17), (1, 17), (2, 17), (3, 9)], size := 4, bytes := 40, zero := [.nilp, .nilp, .nilp, .str []] },
  { k := .array 0 16, size := 0, bytes := 0, zero := [] },
  { k := .struct [(0, 76)], size := 0, bytes := 0, zero := [] },
  { k := .struct [(0, 76)], size := 0, bytes := 0, zero := [] },
  { k := .func, size := 1, bytes := 8, zero := [.nilf] },
  { k := .int .u32, size := 1, bytes := 4, zero := [.int .u32 0] },
  { k := .int .u8, size := 1, bytes := 1, zero := [.int .u8 0] },
  { k := .int .u8, size := 1, bytes := 1, zero := [.int .u8 0] },
  { k := .func, size := 1, bytes := 8, zero := [.nilf] },
  { k := .int .i32, size := 1, bytes := 4, zero := [.int .i32 0] },
  { k := .int .i32, size := 1, bytes := 4, zero := [.int .i32 0] },
  { k := .struct [(0, 12), (1, 12), (2, 80), (3, 81), (4, 5), (5, 5), (6, 82), (7, 83), (8, 69), (9, 84), (10, 85)], size := 11, bytes := 48, zero := [.int .u64 0, .int .u64 0, .int .u32 0, .int .u8 0, .int .u8 0, .int .u8 0, .int .u8 0, .nilf, .nilp, .int .i32 0, .int .i32 0] },
  { k := .struct [(0, 12), (1, 12), (2, 80), (3, 81), (4, 5), (5, 5), (6, 82), (7, 83), (8, 69), (9, 84), (10, 85)], size := 11, bytes := 48, zero := [.int .u64 0, .int .u64 0, .int .u32 0, .int .u8 0, .int .u8 0, .int .u8 0, .int .u8 0, .nilf, .nilp, .int .i32 0, .int .i32 0] }]
noncomputable def modes : List (Nat × Nat × AMode) := [(21, 2, .con)]
noncomputable def keeps : List (Nat × Nat × List Nat) := [(5, 4, [0, 3, 12, 13]), (5, 17, [5, 6, 7, 8, 53, 54]), (5, 23, [6, 8, 68, 69]), (6, 12, [0, 3, 7, 61, 62]), (8, 7, [0, 3, 4, 5, 6]), (9, 6, [0, 3, 4, 5]), (10, 5, [0, 1, 11, 12]), (15, 4, [3, 9, 10, 11]), (16, 4, [0, 3, 6, 7]), (17, 5, [0, 1, 12, 13]), (20, 3, [0, 1, 5]), (22, 2, [0, 1]), (28, 3, [1, 2, 6]), (30, 6, [0, 1, 6, 22, 23]), (34, 3, [0, 3]), (37, 4, [0, 5, 6]), (39, 4, [0, 1, 2, 6, 8, 9]), (40, 3, [0, 1, 5]), (42, 5, [0, 1, 5, 6, 10, 11]), (50, 3, [0, 1, 7, 8]), (53, 3, [0, 1, 7, 8])]
noncomputable def cuts : List (Nat × Nat × List Nat) := [(8, 23, [3, 4, 5]), (16, 8, [0, 3, 4, 6, 7]), (21, 21, [2, 4])]
noncomputable def rankl : List (Nat × Nat × List Nat) := [(8, 7, [0, 1, 2, 3, 4, 5, 6, 7, 8, 9, 10, 11, 12, 13, 14, 15, 16, 17, 18, 21, 19, 20, 22]), (8, 23, [1, 0, 2]), (8, 24, [0, 2, 1, 3])]
noncomputable def drawl : List (Nat × Nat × Bool × List (Option Nat)) := [(5, 18, false, [none, none, none, none, none, none, none, none, none]), (5, 24, false, [none, none, none, none, none, none, none, none, none]), (6, 14, false, [none, some 9, none, none, none, none, some 9, none, none, none, none, some 9, none, some 9, none, none, none, none, none, none, none, none, none, some 9, none, some 9, none, some 9, none, none, none, none, some 9, none, none]), (8, 7, false, [none, none, none, none, none, none, none, none, none, none, none, none, none, none, none, none, none, none, none, none, none, some 8, none]), (8, 23, false, [some 5, none, some 3]), (8, 24, false, [none, some 5, none, some 3]), (10, 6, false, [none, none, none, none, none, none, none, none, none, none, none]), (17, 6, false, [none, none, none, none, none, none, none, none, none, none, none, none, none, none, none, none, none, none, none, none, none, none, none, none, none, none, none, none, none, none, none, none, none, none, none, none, none]), (34, 4, false, [none, none, none, none, none]), (41, 2, false, [none, none, some 7, none])]
noncomputable def codes : List (Nat × Func) := [(3, Go.Proofs.Tryd.f3), (4, Go.Proofs.Tryd.f4), (5, Go.Proofs.Tryd.f5), (6, Go.Proofs.Tryd.f6), (7, Go.Proofs.Tryd.f7), (8, Go.Proofs.Tryd.f8), (9, Go.Proofs.Tryd.f9), (10, Go.Proofs.Tryd.f10), (11, Go.Proofs.Tryd.f11), (12, Go.Proofs.Tryd.f12), (13, Go.Proofs.Tryd.f13), (14, Go.Proofs.Tryd.f14), (15, Go.Proofs.Tryd.f15), (16, Go.Proofs.Tryd.f16), (17, Go.Proofs.Tryd.f17), (19, Go.Proofs.Tryd.f19), (20, Go.Proofs.Tryd.f20), (21, Go.Proofs.Tryd.f21), (22, Go.Proofs.Tryd.f22), (23, Go.Proofs.Tryd.f23), (24, Go.Proofs.Tryd.f24), (27, Go.Proofs.Tryd.f27), (28, Go.Proofs.Tryd.f28), (29, Go.Proofs.Tryd.f29), (30, Go.Proofs.Tryd.f30), (31, Go.Proofs.Tryd.f31), (32, Go.Proofs.Tryd.f32), (33, Go.Proofs.Tryd.f33), (34, Go.Proofs.Tryd.f34), (35, Go.Proofs.Tryd.f35), (36, Go.Proofs.Tryd.f36), (37, Go.Proofs.Tryd.f37), (38, Go.Proofs.Tryd.f38), (39, Go.Proofs.Tryd.f39), (40, Go.Proofs.Tryd.f40), (41, Go.Proofs.Tryd.f41), (42, Go.Proofs.Tryd.f42), (47, Go.Proofs.Tryd.f47), (48, Go.Proofs.Tryd.f48), (49, Go.Proofs.Tryd.f49), (50, Go.Proofs.Tryd.f50), (53, Go.Proofs.Tryd.f53)]
noncomputable def exts : List (Nat × (List AV → Option AV)) := [(18, extIndexByte), (25, extJoin)]
def glob0 : List AV := [.str [97, 110, 100], .str [97, 110, 100, 97, 108, 115, 111], .str [97, 115], .str [99, 97, 115, 101], .str [100, 97, 116, 97, 116, 121, 112, 101], .str [100, 105, 118], .str [101, 108, 115, 101], .str [101, 110, 100], .str [101, 120, 99, 101, 112, 116, 105, 111, 110], .str [102, 110], .str [102, 117, 110], .str [104, 97, 110, 100, 108, 101], .str [105, 102], .str [105, 110], .str [108, 101, 116], .str [109, 111, 100], .str [111, 102], .str [111, 114, 101, 108, 115, 101], .str [112, 114, 105, 110, 116], .str [114, 97, 105, 115, 101], .str [114, 101, 97, 100], .str [114, 101, 102], .str [116, 104, 101, 110], .str [118, 97, 108]]
def glob1 : List AV := [.str [33], .str [40], .str [41], .str [42], .str [43], .str [44], .str [45], .str [45, 62], .str [58], .str [58, 61], .str [59], .str [60], .str [60, 61], .str [60, 62], .str [61], .str [61, 62], .str [95], .str [124], .str [126]]
noncomputable def C : Cfg where
  ti t := tis.getD t {}
  mode f d := findMode f d modes
  keep f r := findKeep f r keeps
  cut f r := findCut f r cuts
  draws f r := findDraw f r drawl
  ranks f r := findKeep f r rankl
  glob g := bif Nat.beq g 0 then some glob0 else bif Nat.beq g 1 then some glob1 else none
  ints := []
  ext f := findExt f exts
  code f := findCode f codes
noncomputable abbrev cw : CallFn := callw C
abbrev T_0 : Nat := 0
abbrev T_int : Nat := 3
abbrev T_uint8 : Nat := 5
abbrev T_string : Nat := 9
abbrev T_S_Tok : Nat := 23
abbrev T_Errno : Nat := 24
abbrev T_Bad : Nat := 26
abbrev T_TokKind : Nat := 31
abbrev T_Tok : Nat := 33
abbrev T_S_string : Nat := 34
abbrev T_P_Builder : Nat := 58
abbrev T_S_uint8 : Nat := 59
abbrev T_Pointer : Nat := 71
abbrev F_law04_LexScans : Nat := 3
abbrev F_law04_LexCut : Nat := 4
abbrev F_law04_LexTables : Nat := 5
abbrev F_law04_LexBack : Nat := 6
abbrev F_law04_knows : Nat := 7
abbrev F_lex_Scan : Nat := 8
abbrev F_ref04_Scan : Nat := 9
abbrev F_law04_places : Nat := 10
abbrev F_lex_Words : Nat := 11
abbrev F_lex_Signs : Nat := 12
abbrev F_ref04_Words : Nat := 13
abbrev F_ref04_Signs : Nat := 14
abbrev F_lex_Show : Nat := 15
abbrev F_ref04_Show : Nat := 16
abbrev F_ref04_Same : Nat := 17
abbrev F_strings_IndexByte : Nat := 18
abbrev F_strings_HasPrefix : Nat := 19
abbrev F_lex_remark : Nat := 20
abbrev F_lex_one : Nat := 21
abbrev F_ref04_Skip : Nat := 22
abbrev F_ref04_One : Nat := 23
abbrev F_slices_Clone_Sstring_string : Nat := 24
abbrev F_strings_Join : Nat := 25
abbrev F_internal_stringslite_HasPrefix : Nat := 27
abbrev F_lex_one_1 : Nat := 28
abbrev F_lex_digit : Nat := 29
abbrev F_lex_number : Nat := 30
abbrev F_lex_first : Nat := 31
abbrev F_lex_among : Nat := 32
abbrev F_lex_named : Nat := 33
abbrev F_lex_sign : Nat := 34
abbrev F_ref04_blank : Nat := 35
abbrev F_ref04_has : Nat := 36
abbrev F_ref04_remark : Nat := 37
abbrev F_ref04_digit : Nat := 38
abbrev F_ref04_number : Nat := 39
abbrev F_ref04_Run : Nat := 40
abbrev F_ref04_name : Nat := 41
abbrev F_ref04_sign : Nat := 42
abbrev F_slices_Contains_Sstring_string : Nat := 47
abbrev F_ref04_small : Nat := 48
abbrev F_ref04_great : Nat := 49
abbrev F_ref04_in : Nat := 50
abbrev F_slices_Index_Sstring_string : Nat := 53
@[go_sem] theorem T_int_size : (C.ti T_int).size = 1 := by kernel_rfl
@[go_sem] theorem T_int_k : (C.ti T_int).k = .int .i64 := by kernel_rfl
@[go_sem] theorem T_int_agg : (C.ti T_int).isAgg = false := by kernel_rfl
@[go_sem] theorem T_int_good : (C.ti T_int).isGood = true := by kernel_rfl
@[go_sem] theorem T_int_bytes : (C.ti T_int).bytes = 8 := by kernel_rfl
@[go_sem] theorem T_int_zero : (C.ti T_int).zero = [.int .i64 0] := by kernel_rfl
@[go_sem] theorem T_uint8_size : (C.ti T_uint8).size = 1 := by kernel_rfl
@[go_sem] theorem T_uint8_k : (C.ti T_uint8).k = .int .u8 := by kernel_rfl
@[go_sem] theorem T_uint8_agg : (C.ti T_uint8).isAgg = false := by kernel_rfl
@[go_sem] theorem T_uint8_good : (C.ti T_uint8).isGood = true := by kernel_rfl
@[go_sem] theorem T_uint8_bytes : (C.ti T_uint8).bytes = 1 := by kernel_rfl
@[go_sem] theorem T_uint8_zero : (C.ti T_uint8).zero = [.int .u8 0] := by kernel_rfl
@[go_sem] theorem T_string_size : (C.ti T_string).size = 1 := by kernel_rfl
@[go_sem] theorem T_string_k : (C.ti T_string).k = .str := by kernel_rfl
@[go_sem] theorem T_string_agg : (C.ti T_string).isAgg = false := by kernel_rfl
@[go_sem] theorem T_string_good : (C.ti T_string).isGood = true := by kernel_rfl
@[go_sem] theorem T_string_bytes : (C.ti T_string).bytes = 16 := by kernel_rfl
@[go_sem] theorem T_string_zero : (C.ti T_string).zero = [.str []] := by kernel_rfl
@[go_sem] theorem T_S_Tok_size : (C.ti T_S_Tok).size = 1 := by kernel_rfl
@[go_sem] theorem T_S_Tok_k : (C.ti T_S_Tok).k = .slice 33 := by kernel_rfl
@[go_sem] theorem T_S_Tok_agg : (C.ti T_S_Tok).isAgg = false := by kernel_rfl
@[go_sem] theorem T_S_Tok_good : (C.ti T_S_Tok).isGood = true := by kernel_rfl
@[go_sem] theorem T_S_Tok_bytes : (C.ti T_S_Tok).bytes = 24 := by kernel_rfl
@[go_sem] theorem T_S_Tok_zero : (C.ti T_S_Tok).zero = [.nils] := by kernel_rfl
@[go_sem] theorem T_Errno_size : (C.ti T_Errno).size = 1 := by kernel_rfl
@[go_sem] theorem T_Errno_k : (C.ti T_Errno).k = .int .i64 := by kernel_rfl
@[go_sem] theorem T_Errno_agg : (C.ti T_Errno).isAgg = false := by kernel_rfl
@[go_sem] theorem T_Errno_good : (C.ti T_Errno).isGood = true := by kernel_rfl
@[go_sem] theorem T_Errno_bytes : (C.ti T_Errno).bytes = 8 := by kernel_rfl
@[go_sem] theorem T_Errno_zero : (C.ti T_Errno).zero = [.int .i64 0] := by kernel_rfl
@[go_sem] theorem T_Bad_size : (C.ti T_Bad).size = 3 := by kernel_rfl
@[go_sem] theorem T_Bad_k : (C.ti T_Bad).k = .struct [(0, 24), (1, 3), (2, 9)] := by kernel_rfl
@[go_sem] theorem T_Bad_agg : (C.ti T_Bad).isAgg = true := by kernel_rfl
@[go_sem] theorem T_Bad_good : (C.ti T_Bad).isGood = true := by kernel_rfl
@[go_sem] theorem T_Bad_bytes : (C.ti T_Bad).bytes = 32 := by kernel_rfl
@[go_sem] theorem T_Bad_zero : (C.ti T_Bad).zero = [.int .i64 0, .int .i64 0, .str []] := by kernel_rfl
@[go_sem] theorem T_Bad_flat : (C.ti T_Bad).flat = [.int .i64, .int .i64, .str] := by kernel_rfl
@[go_sem] theorem T_TokKind_size : (C.ti T_TokKind).size = 1 := by kernel_rfl
@[go_sem] theorem T_TokKind_k : (C.ti T_TokKind).k = .int .i64 := by kernel_rfl
@[go_sem] theorem T_TokKind_agg : (C.ti T_TokKind).isAgg = false := by kernel_rfl
@[go_sem] theorem T_TokKind_good : (C.ti T_TokKind).isGood = true := by kernel_rfl
@[go_sem] theorem T_TokKind_bytes : (C.ti T_TokKind).bytes = 8 := by kernel_rfl
@[go_sem] theorem T_TokKind_zero : (C.ti T_TokKind).zero = [.int .i64 0] := by kernel_rfl
@[go_sem] theorem T_Tok_size : (C.ti T_Tok).size = 4 := by kernel_rfl
@[go_sem] theorem T_Tok_k : (C.ti T_Tok).k = .struct [(0, 31), (1, 3), (2, 9), (3, 3)] := by kernel_rfl
@[go_sem] theorem T_Tok_agg : (C.ti T_Tok).isAgg = true := by kernel_rfl
@[go_sem] theorem T_Tok_good : (C.ti T_Tok).isGood = true := by kernel_rfl
@[go_sem] theorem T_Tok_bytes : (C.ti T_Tok).bytes = 40 := by kernel_rfl
@[go_sem] theorem T_Tok_zero : (C.ti T_Tok).zero = [.int .i64 0, .int .i64 0, .str [], .int .i64 0] := by kernel_rfl
@[go_sem] theorem T_S_string_size : (C.ti T_S_string).size = 1 := by kernel_rfl
@[go_sem] theorem T_S_string_k : (C.ti T_S_string).k = .slice 9 := by kernel_rfl
@[go_sem] theorem T_S_string_agg : (C.ti T_S_string).isAgg = false := by kernel_rfl
@[go_sem] theorem T_S_string_good : (C.ti T_S_string).isGood = true := by kernel_rfl
@[go_sem] theorem T_S_string_bytes : (C.ti T_S_string).bytes = 24 := by kernel_rfl
@[go_sem] theorem T_S_string_zero : (C.ti T_S_string).zero = [.nils] := by kernel_rfl
@[go_sem] theorem T_P_Builder_size : (C.ti T_P_Builder).size = 1 := by kernel_rfl
@[go_sem] theorem T_P_Builder_k : (C.ti T_P_Builder).k = .ptr := by kernel_rfl
@[go_sem] theorem T_P_Builder_agg : (C.ti T_P_Builder).isAgg = false := by kernel_rfl
@[go_sem] theorem T_P_Builder_good : (C.ti T_P_Builder).isGood = true := by kernel_rfl
@[go_sem] theorem T_P_Builder_bytes : (C.ti T_P_Builder).bytes = 8 := by kernel_rfl
@[go_sem] theorem T_P_Builder_zero : (C.ti T_P_Builder).zero = [.nilp] := by kernel_rfl
@[go_sem] theorem T_S_uint8_size : (C.ti T_S_uint8).size = 1 := by kernel_rfl
@[go_sem] theorem T_S_uint8_k : (C.ti T_S_uint8).k = .slice 5 := by kernel_rfl
@[go_sem] theorem T_S_uint8_agg : (C.ti T_S_uint8).isAgg = false := by kernel_rfl
@[go_sem] theorem T_S_uint8_good : (C.ti T_S_uint8).isGood = true := by kernel_rfl
@[go_sem] theorem T_S_uint8_bytes : (C.ti T_S_uint8).bytes = 24 := by kernel_rfl
@[go_sem] theorem T_S_uint8_zero : (C.ti T_S_uint8).zero = [.nils] := by kernel_rfl
end Go.Proofs.YtadhckhgemongaaDoor

namespace Go.Proofs.YtadhckhgemongaaDoor
open Go Go.Am
set_option linter.unusedVariables false
theorem ok_3 : okFn C 3 Go.Proofs.Tryd.f3 = true := by kernel_rfl
theorem ok_4 : okFn C 4 Go.Proofs.Tryd.f4 = true := by kernel_rfl
theorem ok_5 : okFn C 5 Go.Proofs.Tryd.f5 = true := by kernel_rfl
theorem ok_6 : okFn C 6 Go.Proofs.Tryd.f6 = true := by kernel_rfl
theorem ok_7 : okFn C 7 Go.Proofs.Tryd.f7 = true := by kernel_rfl
theorem ok_8 : okFn C 8 Go.Proofs.Tryd.f8 = true := by kernel_rfl
theorem ok_9 : okFn C 9 Go.Proofs.Tryd.f9 = true := by kernel_rfl
theorem ok_10 : okFn C 10 Go.Proofs.Tryd.f10 = true := by kernel_rfl
theorem ok_11 : okFn C 11 Go.Proofs.Tryd.f11 = true := by kernel_rfl
theorem ok_12 : okFn C 12 Go.Proofs.Tryd.f12 = true := by kernel_rfl
theorem ok_13 : okFn C 13 Go.Proofs.Tryd.f13 = true := by kernel_rfl
theorem ok_14 : okFn C 14 Go.Proofs.Tryd.f14 = true := by kernel_rfl
theorem ok_15 : okFn C 15 Go.Proofs.Tryd.f15 = true := by kernel_rfl
theorem ok_16 : okFn C 16 Go.Proofs.Tryd.f16 = true := by kernel_rfl
theorem ok_17 : okFn C 17 Go.Proofs.Tryd.f17 = true := by kernel_rfl
theorem ok_19 : okFn C 19 Go.Proofs.Tryd.f19 = true := by kernel_rfl
theorem ok_20 : okFn C 20 Go.Proofs.Tryd.f20 = true := by kernel_rfl
theorem ok_21 : okFn C 21 Go.Proofs.Tryd.f21 = true := by kernel_rfl
theorem ok_22 : okFn C 22 Go.Proofs.Tryd.f22 = true := by kernel_rfl
theorem ok_23 : okFn C 23 Go.Proofs.Tryd.f23 = true := by kernel_rfl
theorem ok_24 : okFn C 24 Go.Proofs.Tryd.f24 = true := by kernel_rfl
theorem ok_27 : okFn C 27 Go.Proofs.Tryd.f27 = true := by kernel_rfl
theorem ok_28 : okFn C 28 Go.Proofs.Tryd.f28 = true := by kernel_rfl
theorem ok_29 : okFn C 29 Go.Proofs.Tryd.f29 = true := by kernel_rfl
theorem ok_30 : okFn C 30 Go.Proofs.Tryd.f30 = true := by kernel_rfl
theorem ok_31 : okFn C 31 Go.Proofs.Tryd.f31 = true := by kernel_rfl
theorem ok_32 : okFn C 32 Go.Proofs.Tryd.f32 = true := by kernel_rfl
theorem ok_33 : okFn C 33 Go.Proofs.Tryd.f33 = true := by kernel_rfl
theorem ok_34 : okFn C 34 Go.Proofs.Tryd.f34 = true := by kernel_rfl
theorem ok_35 : okFn C 35 Go.Proofs.Tryd.f35 = true := by kernel_rfl
theorem ok_36 : okFn C 36 Go.Proofs.Tryd.f36 = true := by kernel_rfl
theorem ok_37 : okFn C 37 Go.Proofs.Tryd.f37 = true := by kernel_rfl
theorem ok_38 : okFn C 38 Go.Proofs.Tryd.f38 = true := by kernel_rfl
theorem ok_39 : okFn C 39 Go.Proofs.Tryd.f39 = true := by kernel_rfl
theorem ok_40 : okFn C 40 Go.Proofs.Tryd.f40 = true := by kernel_rfl
theorem ok_41 : okFn C 41 Go.Proofs.Tryd.f41 = true := by kernel_rfl
theorem ok_42 : okFn C 42 Go.Proofs.Tryd.f42 = true := by kernel_rfl
theorem ok_47 : okFn C 47 Go.Proofs.Tryd.f47 = true := by kernel_rfl
theorem ok_48 : okFn C 48 Go.Proofs.Tryd.f48 = true := by kernel_rfl
theorem ok_49 : okFn C 49 Go.Proofs.Tryd.f49 = true := by kernel_rfl
theorem ok_50 : okFn C 50 Go.Proofs.Tryd.f50 = true := by kernel_rfl
theorem ok_53 : okFn C 53 Go.Proofs.Tryd.f53 = true := by kernel_rfl
theorem codes_all : AllP (FnOK Go.Proofs.Tryd.prog C) codes := ⟨⟨Go.Proofs.Tryd.func3, ok_3⟩, ⟨Go.Proofs.Tryd.func4, ok_4⟩, ⟨Go.Proofs.Tryd.func5, ok_5⟩, ⟨Go.Proofs.Tryd.func6, ok_6⟩, ⟨Go.Proofs.Tryd.func7, ok_7⟩, ⟨Go.Proofs.Tryd.func8, ok_8⟩, ⟨Go.Proofs.Tryd.func9, ok_9⟩, ⟨Go.Proofs.Tryd.func10, ok_10⟩, ⟨Go.Proofs.Tryd.func11, ok_11⟩, ⟨Go.Proofs.Tryd.func12, ok_12⟩, ⟨Go.Proofs.Tryd.func13, ok_13⟩, ⟨Go.Proofs.Tryd.func14, ok_14⟩, ⟨Go.Proofs.Tryd.func15, ok_15⟩, ⟨Go.Proofs.Tryd.func16, ok_16⟩, ⟨Go.Proofs.Tryd.func17, ok_17⟩, ⟨Go.Proofs.Tryd.func19, ok_19⟩, ⟨Go.Proofs.Tryd.func20, ok_20⟩, ⟨Go.Proofs.Tryd.func21, ok_21⟩, ⟨Go.Proofs.Tryd.func22, ok_22⟩, ⟨Go.Proofs.Tryd.func23, ok_23⟩, ⟨Go.Proofs.Tryd.func24, ok_24⟩, ⟨Go.Proofs.Tryd.func27, ok_27⟩, ⟨Go.Proofs.Tryd.func28, ok_28⟩, ⟨Go.Proofs.Tryd.func29, ok_29⟩, ⟨Go.Proofs.Tryd.func30, ok_30⟩, ⟨Go.Proofs.Tryd.func31, ok_31⟩, ⟨Go.Proofs.Tryd.func32, ok_32⟩, ⟨Go.Proofs.Tryd.func33, ok_33⟩, ⟨Go.Proofs.Tryd.func34, ok_34⟩, ⟨Go.Proofs.Tryd.func35, ok_35⟩, ⟨Go.Proofs.Tryd.func36, ok_36⟩, ⟨Go.Proofs.Tryd.func37, ok_37⟩, ⟨Go.Proofs.Tryd.func38, ok_38⟩, ⟨Go.Proofs.Tryd.func39, ok_39⟩, ⟨Go.Proofs.Tryd.func40, ok_40⟩, ⟨Go.Proofs.Tryd.func41, ok_41⟩, ⟨Go.Proofs.Tryd.func42, ok_42⟩, ⟨Go.Proofs.Tryd.func47, ok_47⟩, ⟨Go.Proofs.Tryd.func48, ok_48⟩, ⟨Go.Proofs.Tryd.func49, ok_49⟩, ⟨Go.Proofs.Tryd.func50, ok_50⟩, ⟨Go.Proofs.Tryd.func53, ok_53⟩, trivial⟩
theorem types_all : allTo (tyB Go.Proofs.Tryd.prog C.ti) tis.length = true := by kernel_rfl
end Go.Proofs.YtadhckhgemongaaDoor

namespace Go.Proofs.YtadhckhgemongaaDoor
open Go Go.Am
set_option linter.unusedVariables false
/- 3 camlet/camletlaw04.LexScans -/
/- 4 camlet/camletlaw04.LexCut -/
/- 5 camlet/camletlaw04.LexTables -/
/- 6 camlet/camletlaw04.LexBack -/
noncomputable def law04_LexBack_l0 : Slot → Slot → Slot → Slot → Slot → St → Res := fun x0 x3 x7 x61 x62 s => loopR C false F_law04_LexBack [.seqR, .seqR, .seqR, .seqR, .seqR, .seqR, .seqR, .seqL, .seqR, .block] (body Go.Proofs.Tryd.f6) [(0, .s x0), (3, .s x3), (7, .s x7), (61, .s x61), (62, .s x62)] s (ctxR C false F_law04_LexBack [.seqR, .seqR, .seqR, .seqR, .seqR, .seqR, .seqR, .seqL, .seqR, .block] (body Go.Proofs.Tryd.f6) (outK C (Go.Proofs.Tryd.f6).results.toList))
theorem law04_LexBack_l0_eq (x0 : Slot) (x3 : Slot) (x7 : Slot) (x61 : Slot) (x62 : Slot) (s_7 : St) : law04_LexBack_l0 x0 x3 x7 x61 x62 s_7 =
 bind1 (binS (C.ti T_int) .lss x62 x61) fun v63 =>
 condS v63 (
 bind1 (ixS (C.ti T_Tok).size x3 x62) fun v67 =>
 bind1 (ldV (C.ti T_Tok) false s_7 v67) fun v68 =>
 bindL (boxCells (C.ti T_Tok) v68) fun c_2 =>
 bindL (putAt (List.map .val (C.ti T_Tok).zero) 0 c_2) fun c9 =>
 bind1 (ofSlots (C.ti T_int) (List.take (C.ti T_int).size (List.drop 1 c9))) fun v70 =>
 bind1 (binS (C.ti T_int) .lss v70 x7) fun v72 =>
 bindB (Slot.isB v72 false) fun w_16 =>
 bindB (Slot.isB v72 false) fun w_17 =>
 bind1 (gd w_17 (bif w_16 then (ofSlots (C.ti T_string) (List.take (C.ti T_string).size (List.drop 2 c9))) else none)) fun v75 =>
 bindB (Slot.isB v72 false) fun w_18 =>
 bind1 (gd w_18 (binS (C.ti T_string) .eql v75 (.val (.str [])))) fun v76 =>
 bind1 (pickS v72 (.val (.bool true)) v76) fun v77 =>
 bindB (Slot.isB v77 false) fun w_19 =>
 bindB (Slot.isB v77 false) fun w_20 =>
 bind1 (gd w_20 (bif w_19 then (ofSlots (C.ti T_int) (List.take (C.ti T_int).size (List.drop 1 c9))) else none)) fun v80 =>
 bindB (Slot.isB v77 false) fun w_21 =>
 bindB (Slot.isB v77 false) fun w_22 =>
 bind1 (gd w_22 (bif w_21 then (ofSlots (C.ti T_string) (List.take (C.ti T_string).size (List.drop 2 c9))) else none)) fun v82 =>
 bindB (Slot.isB v77 false) fun w_23 =>
 bind1 (gd w_23 (lenS (C.ti T_string) v82)) fun v83 =>
 bindB (Slot.isB v77 false) fun w_24 =>
 bind1 (gd w_24 (binS (C.ti T_int) .add v80 v83)) fun v84 =>
 bindB (Slot.isB v77 false) fun w_25 =>
 bindB (Slot.isB v77 false) fun w_26 =>
 bind1 (gd w_26 (lenS (C.ti T_string) (gdV w_25 x0))) fun v86 =>
 bindB (Slot.isB v77 false) fun w_27 =>
 bind1 (gd w_27 (binS (C.ti T_int) .gtr v84 v86)) fun v87 =>
 bind1 (pickS v77 (.val (.bool true)) v87) fun v88 =>
 bindB (Slot.isB v88 false) fun w_28 =>
 bindB (Slot.isB v88 false) fun w_29 =>
 bindB (Slot.isB v88 false) fun w_30 =>
 bind1 (gd w_30 (bif w_29 then (ofSlots (C.ti T_int) (List.take (C.ti T_int).size (List.drop 1 c9))) else none)) fun v92 =>
 bindB (Slot.isB v88 false) fun w_31 =>
 bindB (Slot.isB v88 false) fun w_32 =>
 bind1 (gd w_32 (bif w_31 then (ofSlots (C.ti T_int) (List.take (C.ti T_int).size (List.drop 1 c9))) else none)) fun v94 =>
 bindB (Slot.isB v88 false) fun w_33 =>
 bindB (Slot.isB v88 false) fun w_34 =>
 bind1 (gd w_34 (bif w_33 then (ofSlots (C.ti T_string) (List.take (C.ti T_string).size (List.drop 2 c9))) else none)) fun v96 =>
 bindB (Slot.isB v88 false) fun w_35 =>
 bind1 (gd w_35 (lenS (C.ti T_string) v96)) fun v97 =>
 bindB (Slot.isB v88 false) fun w_36 =>
 bind1 (gd w_36 (binS (C.ti T_int) .add v94 v97)) fun v98 =>
 bindB (Slot.isB v88 false) fun w_37 =>
 bind1 (gd w_37 (sliceS (C.ti T_string) 0 (gdV w_28 x0) (some v92) (some v98) none)) fun v99 =>
 bindB (Slot.isB v88 false) fun w_38 =>
 bindB (Slot.isB v88 false) fun w_39 =>
 bind1 (gd w_39 (bif w_38 then (ofSlots (C.ti T_string) (List.take (C.ti T_string).size (List.drop 2 c9))) else none)) fun v101 =>
 bindB (Slot.isB v88 false) fun w_40 =>
 bind1 (gd w_40 (binS (C.ti T_string) .neq v99 v101)) fun v102 =>
 bind1 (pickS v88 (.val (.bool true)) v102) fun v103 =>
 condS v103 (
 some (.ret (.val (.bool false)), s_7)) (
 bind1 (ofSlots (C.ti T_int) (List.take (C.ti T_int).size (List.drop 1 c9))) fun v105 =>
 bind1 (ofSlots (C.ti T_string) (List.take (C.ti T_string).size (List.drop 2 c9))) fun v107 =>
 bind1 (lenS (C.ti T_string) v107) fun v108 =>
 bind1 (binS (C.ti T_int) .add v105 v108) fun v109 =>
 bind1 (binS (C.ti T_int) .add x62 (.val (.int .i64 1))) fun v110 =>
 law04_LexBack_l0 (x0) (x3) (v109) (x61) (v110) s_7)) (
 back (cal cw true (tgtV (.val (.fn F_law04_knows [])) []) s_7) fun v111 s_8 =>
 some (.ret v111, s_8)) := by unfold law04_LexBack_l0; exact (loopR_eq _ _ _ _ _ _).trans (by kernel_rfl)
theorem law04_LexBack_eq (a0 : AV) (s : St) : cw (.f F_law04_LexBack) [a0] s =
 bind1 (lenS (C.ti T_string) (.val a0)) fun v11 =>
 bind1 (binS (C.ti T_int) .gtr v11 (.val (.int .i64 3000))) fun v12 =>
 condS v12 (
 back (cal cw true (tgtV (.val (.fn F_law04_knows [])) []) s) fun v13 s_1 =>
 some (.ret v13, s_1)) (
 back (cal cw true (tgtV (.val (.fn F_lex_Scan [])) [(.val a0)]) s) fun v16 s_2 =>
 bind1 (extractS v16 0) fun v17 =>
 bind1 (extractS v16 1) fun v18 =>
 bindL (boxCells (C.ti T_Bad) v18) fun c =>
 bindL (putAt (List.map .val (C.ti T_Bad).zero) 0 c) fun c4 =>
 bind1 (ofSlots (C.ti T_Bad) (List.take (C.ti T_Bad).size c4)) fun v19 =>
 bind1 (buildS (C.ti T_Bad).zero []) fun v20 =>
 bind1 (binS (C.ti T_Bad) .neq v19 v20) fun v21 =>
 condS v21 (
 bind1 (lenS (C.ti T_S_Tok) v17) fun v23 =>
 bind1 (binS (C.ti T_int) .eql v23 (.val (.int .i64 0))) fun v24 =>
 bindB (Slot.isB v24 true) fun w =>
 bindB (Slot.isB v24 true) fun w_1 =>
 bind1 (gd w_1 (bif w then (ofSlots (C.ti T_int) (List.take (C.ti T_int).size (List.drop 1 c4))) else none)) fun v27 =>
 bindB (Slot.isB v24 true) fun w_2 =>
 bind1 (gd w_2 (binS (C.ti T_int) .geq v27 (.val (.int .i64 0)))) fun v28 =>
 bind1 (pickS v24 v28 (.val (.bool false))) fun v29 =>
 bindB (Slot.isB v29 true) fun w_3 =>
 bindB (Slot.isB v29 true) fun w_4 =>
 bind1 (gd w_4 (bif w_3 then (ofSlots (C.ti T_int) (List.take (C.ti T_int).size (List.drop 1 c4))) else none)) fun v32 =>
 bindB (Slot.isB v29 true) fun w_5 =>
 bindB (Slot.isB v29 true) fun w_6 =>
 bind1 (gd w_6 (lenS (C.ti T_string) (gdV w_5 (.val a0)))) fun v34 =>
 bindB (Slot.isB v29 true) fun w_7 =>
 bind1 (gd w_7 (binS (C.ti T_int) .lss v32 v34)) fun v35 =>
 bind1 (pickS v29 v35 (.val (.bool false))) fun v36 =>
 bindB (Slot.isB v36 true) fun w_8 =>
 bindB (Slot.isB v36 true) fun w_9 =>
 bind1 (gd w_9 (bif w_8 then (ofSlots (C.ti T_string) (List.take (C.ti T_string).size (List.drop 2 c4))) else none)) fun v39 =>
 bindB (Slot.isB v36 true) fun w_10 =>
 bind1 (gd w_10 (binS (C.ti T_string) .eql v39 (.val (.str [])))) fun v40 =>
 bind1 (pickS v36 v40 (.val (.bool false))) fun v41 =>
 bindB (Slot.isB v41 true) fun w_11 =>
 back (cal cw w_11 (tgtV (.val (.fn F_law04_knows [])) []) s_2) fun v43 s_3 =>
 bind1 (pickS v41 v43 (.val (.bool false))) fun v44 =>
 some (.ret v44, s_3)) (
 back (cal cw true (tgtV (.val (.fn F_lex_Show [])) [v17]) s_2) fun v47 s_4 =>
 back (cal cw true (tgtV (.val (.fn F_lex_Scan [])) [v47]) s_4) fun v48 s_5 =>
 bind1 (extractS v48 0) fun v49 =>
 bind1 (extractS v48 1) fun v50 =>
 bindL (boxCells (C.ti T_Bad) v50) fun c_1 =>
 bindL (putAt (List.map .val (C.ti T_Bad).zero) 0 c_1) fun c6 =>
 bind1 (ofSlots (C.ti T_Bad) (List.take (C.ti T_Bad).size c6)) fun v51 =>
 bind1 (buildS (C.ti T_Bad).zero []) fun v52 =>
 bind1 (binS (C.ti T_Bad) .neq v51 v52) fun v53 =>
 bindB (Slot.isB v53 false) fun w_12 =>
 bindB (Slot.isB v53 false) fun w_13 =>
 bindB (Slot.isB v53 false) fun w_14 =>
 back (cal cw w_14 (tgtV (.val (.fn F_ref04_Same [])) [(gdV w_12 v17), (gdV w_13 v49)]) s_5) fun v57 s_6 =>
 bindB (Slot.isB v53 false) fun w_15 =>
 bind1 (gd w_15 (unS .not v57)) fun v58 =>
 bind1 (pickS v53 (.val (.bool true)) v58) fun v59 =>
 condS v59 (
 some (.ret (.val (.bool false)), s_6)) (
 bind1 (lenS (C.ti T_S_Tok) v17) fun v61 =>
 law04_LexBack_l0 ((.val a0)) (v17) ((.val (.int .i64 0))) (v61) ((.val (.int .i64 0))) s_6))) := (callw_f _ _ _).trans (by kernel_rfl)
/- 7 camlet/camletlaw04.knows -/
theorem law04_knows_eq (s : St) : cw (.f F_law04_knows) [] s =
 back (cal cw true (tgtV (.val (.fn F_lex_Scan [])) [(.val (.str [118, 97, 108, 32, 120, 39, 61, 126, 49, 50, 40, 42, 97, 40, 42, 98, 42, 41, 42, 41]))]) s) fun v6 s_1 =>
 bind1 (extractS v6 0) fun v7 =>
 bind1 (extractS v6 1) fun v8 =>
 bindL (boxCells (C.ti T_Bad) v8) fun c =>
 bindL (putAt (List.map .val (C.ti T_Bad).zero) 0 c) fun c2 =>
 back (cal cw true (tgtV (.val (.fn F_lex_Scan [])) [(.val (.str [97, 32, 40, 42, 32, 98]))]) s_1) fun v10 s_2 =>
 bind1 (extractS v10 0) fun v11 =>
 bind1 (extractS v10 1) fun v12 =>
 bindL (boxCells (C.ti T_Bad) v12) fun c_1 =>
 bindL (putAt (List.map .val (C.ti T_Bad).zero) 0 c_1) fun c4 =>
 bind1 (ofSlots (C.ti T_Bad) (List.take (C.ti T_Bad).size c2)) fun v13 =>
 bind1 (buildS (C.ti T_Bad).zero []) fun v14 =>
 bind1 (binS (C.ti T_Bad) .eql v13 v14) fun v15 =>
 bindB (Slot.isB v15 true) fun w =>
 bindB (Slot.isB v15 true) fun w_1 =>
 bind1 (gd w_1 (lenS (C.ti T_S_Tok) (gdV w v7))) fun v18 =>
 bindB (Slot.isB v15 true) fun w_2 =>
 bind1 (gd w_2 (binS (C.ti T_int) .eql v18 (.val (.int .i64 5)))) fun v19 =>
 bind1 (pickS v15 v19 (.val (.bool false))) fun v20 =>
 bindB (Slot.isB v20 true) fun w_3 =>
 bindB (Slot.isB v20 true) fun w_4 =>
 bind1 (gd w_4 (ixS (C.ti T_Tok).size (gdV w_3 v7) (.val (.int .i64 1)))) fun v23 =>
 bindB (Slot.isB v20 true) fun w_5 =>
 bind1 (gd w_5 (faV 2 v23)) fun v24 =>
 bindB (Slot.isB v20 true) fun w_6 =>
 bind1 (gd w_6 (ldV (C.ti T_string) false s_2 v24)) fun v25 =>
 bindB (Slot.isB v20 true) fun w_7 =>
 bind1 (gd w_7 (binS (C.ti T_string) .eql v25 (.val (.str [120, 39])))) fun v26 =>
 bind1 (pickS v20 v26 (.val (.bool false))) fun v27 =>
 bindB (Slot.isB v27 true) fun w_8 =>
 bindB (Slot.isB v27 true) fun w_9 =>
 bind1 (gd w_9 (ixS (C.ti T_Tok).size (gdV w_8 v7) (.val (.int .i64 4)))) fun v30 =>
 bindB (Slot.isB v27 true) fun w_10 =>
 bind1 (gd w_10 (faV 3 v30)) fun v31 =>
 bindB (Slot.isB v27 true) fun w_11 =>
 bind1 (gd w_11 (ldV (C.ti T_int) false s_2 v31)) fun v32 =>
 bindB (Slot.isB v27 true) fun w_12 =>
 bind1 (gd w_12 (binS (C.ti T_int) .eql v32 (.val (.int .i64 12)))) fun v33 =>
 bind1 (pickS v27 v33 (.val (.bool false))) fun v34 =>
 bindB (Slot.isB v34 true) fun w_13 =>
 bindB (Slot.isB v34 true) fun w_14 =>
 bind1 (gd w_14 (ixS (C.ti T_Tok).size (gdV w_13 v7) (.val (.int .i64 4)))) fun v37 =>
 bindB (Slot.isB v34 true) fun w_15 =>
 bind1 (gd w_15 (faV 1 v37)) fun v38 =>
 bindB (Slot.isB v34 true) fun w_16 =>
 bind1 (gd w_16 (ldV (C.ti T_int) false s_2 v38)) fun v39 =>
 bindB (Slot.isB v34 true) fun w_17 =>
 bind1 (gd w_17 (binS (C.ti T_int) .eql v39 (.val (.int .i64 8)))) fun v40 =>
 bind1 (pickS v34 v40 (.val (.bool false))) fun v41 =>
 bindB (Slot.isB v41 true) fun w_18 =>
 bind1 (gd w_18 (ofSlots (C.ti T_Bad) (List.take (C.ti T_Bad).size c4))) fun v43 =>
 bindB (Slot.isB v41 true) fun w_19 =>
 bind1 (gd w_19 (buildS (C.ti T_Bad).zero [(0, (C.ti T_Errno).size, (.val (.int .i64 12))), (1, (C.ti T_int).size, (.val (.int .i64 2)))])) fun v44 =>
 bindB (Slot.isB v41 true) fun w_20 =>
 bind1 (gd w_20 (binS (C.ti T_Bad) .eql v43 v44)) fun v45 =>
 bind1 (pickS v41 v45 (.val (.bool false))) fun v46 =>
 bindB (Slot.isB v46 true) fun w_21 =>
 back (cal cw w_21 (tgtV (.val (.fn F_lex_Words [])) []) s_2) fun v48 s_3 =>
 bindB (Slot.isB v46 true) fun w_22 =>
 bind1 (gd w_22 (lenS (C.ti T_S_string) v48)) fun v49 =>
 bindB (Slot.isB v46 true) fun w_23 =>
 bind1 (gd w_23 (binS (C.ti T_int) .eql v49 (.val (.int .i64 24)))) fun v50 =>
 bind1 (pickS v46 v50 (.val (.bool false))) fun v51 =>
 bindB (Slot.isB v51 true) fun w_24 =>
 back (cal cw w_24 (tgtV (.val (.fn F_lex_Signs [])) []) s_3) fun v53 s_4 =>
 bindB (Slot.isB v51 true) fun w_25 =>
 bind1 (gd w_25 (lenS (C.ti T_S_string) v53)) fun v54 =>
 bindB (Slot.isB v51 true) fun w_26 =>
 bind1 (gd w_26 (binS (C.ti T_int) .eql v54 (.val (.int .i64 19)))) fun v55 =>
 bind1 (pickS v51 v55 (.val (.bool false))) fun v56 =>
 some (.ret v56, s_4) := (callw_f _ _ _).trans (by kernel_rfl)
/- 8 camlet/lex.Scan -/
noncomputable def lex_Scan_j0 : List Slot → Slot → List Slot → St → Res := fun x3_1 x4_1 x5_1 s => pw (run C false F_lex_Scan (codeAt [.seqR, .scope, .seqR, .seqR, .seqR, .seqR, .seqR] (body Go.Proofs.Tryd.f8)) [(3, .var x3_1), (4, .s x4_1), (5, .var x5_1)] s (ctxR C false F_lex_Scan [.seqR, .scope, .seqR, .seqR, .seqR, .seqR, .seqR] (body Go.Proofs.Tryd.f8) (outK C (Go.Proofs.Tryd.f8).results.toList)))
noncomputable def lex_Scan_l0 : Slot → List Slot → Slot → List Slot → Slot → St → Res := fun x0 x3 x4 x5 x6 s => loopR C false F_lex_Scan [.seqR, .scope, .seqR, .seqR, .seqR, .seqR, .seqL, .seqR, .block] (body Go.Proofs.Tryd.f8) [(0, .s x0), (3, .var x3), (4, .s x4), (5, .var x5), (6, .s x6)] s (ctxR C false F_lex_Scan [.seqR, .scope, .seqR, .seqR, .seqR, .seqR, .seqL, .seqR, .block] (body Go.Proofs.Tryd.f8) (outK C (Go.Proofs.Tryd.f8).results.toList))
theorem lex_Scan_j0_eq (x3_1 : List Slot) (x4_1 : Slot) (x5_1 : List Slot) (s_5 : St) : lex_Scan_j0 x3_1 x4_1 x5_1 s_5 =
 bind1 (ofSlots (C.ti T_Errno) (List.take (C.ti T_Errno).size (List.drop 0 x5_1))) fun v83 =>
 bind1 (binS (C.ti T_Errno) .neq v83 (.val (.int .i64 0))) fun v84 =>
 condS v84 (
 bind1 (ofSlots (C.ti T_Bad) (List.take (C.ti T_Bad).size x5_1)) fun v85 =>
 bindL (boxCells (C.ti T_Bad) v85) fun c_3 =>
 bindL (putAt x3_1 0 c_3) fun c3_1 =>
 bind1 (tupS [(some (.val (.nils))), (ofSlots (C.ti T_Bad) (List.take (C.ti T_Bad).size c3_1))]) fun v => some (.ret v, s_5)) (
 bind1 (ofSlots (C.ti T_Bad) (List.take (C.ti T_Bad).size x5_1)) fun v87 =>
 bindL (boxCells (C.ti T_Bad) v87) fun c_4 =>
 bindL (putAt x3_1 0 c_4) fun c3_2 =>
 bind1 (tupS [(some x4_1), (ofSlots (C.ti T_Bad) (List.take (C.ti T_Bad).size c3_2))]) fun v => some (.ret v, s_5)) := by unfold lex_Scan_j0; exact (pw_eq _).trans (by kernel_rfl)
theorem lex_Scan_l0_eq (x0 : Slot) (x3 : List Slot) (x4 : Slot) (x5 : List Slot) (x6 : Slot) (s_1 : St) : lex_Scan_l0 x0 x3 x4 x5 x6 s_1 =
 bind1 (lenS (C.ti T_string) x0) fun v17 =>
 bind1 (binS (C.ti T_int) .lss x6 v17) fun v18 =>
 condS v18 (
 bind1 (indexS (C.ti T_string) (C.ti T_0) x0 x6) fun v58 =>
 back (cal cw true (tgtV (.val (.fn F_strings_IndexByte [])) [(.val (.str [32, 9, 10, 13])), v58]) s_1) fun v59 s_2 =>
 bind1 (binS (C.ti T_int) .geq v59 (.val (.int .i64 0))) fun v60 =>
 condS v60 (
 bind1 (binS (C.ti T_int) .add x6 (.val (.int .i64 1))) fun v62 =>
 lex_Scan_l0 (x0) (x3) (x4) (x5) (v62) s_2) (
 bind1 (sliceS (C.ti T_string) 0 x0 (some x6) none none) fun v66 =>
 back (cal cw true (tgtV (.val (.fn F_strings_HasPrefix [])) [v66, (.val (.str [40, 42]))]) s_2) fun v67 s_3 =>
 condS v67 (
 back (cal cw true (tgtV (.val (.fn F_lex_remark [])) [x0, x6]) s_3) fun v70 s_4 =>
 bind1 (binS (C.ti T_int) .lss v70 (.val (.int .i64 0))) fun v72 =>
 condS v72 (
 bind1 (buildS (C.ti T_Bad).zero [(0, (C.ti T_Errno).size, (.val (.int .i64 12))), (1, (C.ti T_int).size, x6)]) fun v74 =>
 bindL (boxCells (C.ti T_Bad) v74) fun c_2 =>
 bindL (putAt x5 0 c_2) fun c5_1 =>
 lex_Scan_j0 (x3) (x4) (c5_1) s_4) (
 lex_Scan_l0 (x0) (x3) (x4) (x5) (v70) s_4)) (
 bind1 (lenS (C.ti T_S_Tok) x4) fun v78 =>
 bind1 (binS (C.ti T_int) .geq v78 (.val (.int .i64 16384))) fun v79 =>
 condS v79 (
 bind1 (buildS (C.ti T_Bad).zero [(0, (C.ti T_Errno).size, (.val (.int .i64 4))), (1, (C.ti T_int).size, x6)]) fun v81 =>
 bindL (boxCells (C.ti T_Bad) v81) fun c_5 =>
 bindL (putAt x5 0 c_5) fun c5_2 =>
 lex_Scan_j0 (x3) (x4) (c5_2) s_3) (
 bind1 (sliceS (C.ti T_string) 0 x0 (some x6) none none) fun v22 =>
 bind1 (lenS (C.ti T_S_Tok) x4) fun v24 =>
 bind1 (binS (C.ti T_int) .gtr v24 (.val (.int .i64 0))) fun v25 =>
 bindB (Slot.isB v25 true) fun w =>
 bindB (Slot.isB v25 true) fun w_1 =>
 bindB (Slot.isB v25 true) fun w_2 =>
 bind1 (gd w_2 (lenS (C.ti T_S_Tok) (gdV w_1 x4))) fun v29 =>
 bindB (Slot.isB v25 true) fun w_3 =>
 bind1 (gd w_3 (binS (C.ti T_int) .sub v29 (.val (.int .i64 1)))) fun v30 =>
 bindB (Slot.isB v25 true) fun w_4 =>
 bind1 (gd w_4 (ixS (C.ti T_Tok).size (gdV w x4) v30)) fun v31 =>
 bindB (Slot.isB v25 true) fun w_5 =>
 bind1 (gd w_5 (faV 2 v31)) fun v32 =>
 bindB (Slot.isB v25 true) fun w_6 =>
 bind1 (gd w_6 (ldV (C.ti T_string) false s_3 v32)) fun v33 =>
 bindB (Slot.isB v25 true) fun w_7 =>
 bind1 (gd w_7 (binS (C.ti T_string) .eql v33 (.val (.str [126])))) fun v34 =>
 bind1 (pickS v25 v34 (.val (.bool false))) fun v35 =>
 back (noPan (cal cw true (tgtV (.val (.fn F_lex_one [])) [v22, v35]) s_3)) fun v36 s_6 =>
 bind1 (extractS v36 0) fun v37 =>
 bind1 (extractS v36 1) fun v38 =>
 bindL (boxCells (C.ti T_Tok) v37) fun c_6 =>
 bindL (putAt (List.map .val (C.ti T_Tok).zero) 0 c_6) fun c8 =>
 bind1 (binS (C.ti T_Errno) .neq v38 (.val (.int .i64 0))) fun v40 =>
 condS v40 (
 bind1 (buildS (C.ti T_Bad).zero [(0, (C.ti T_Errno).size, v38), (1, (C.ti T_int).size, x6)]) fun v43 =>
 bindL (boxCells (C.ti T_Bad) v43) fun c_7 =>
 bindL (putAt x5 0 c_7) fun c5_3 =>
 lex_Scan_j0 (x3) (x4) (c5_3) s_6) (
 bindL (boxCells (C.ti T_int) x6) fun c_8 =>
 bindL (putAt c8 1 c_8) fun c8_1 =>
 bind1 (ofSlots (C.ti T_Tok) (List.take (C.ti T_Tok).size c8_1)) fun v47 =>
 bind1 (bslF (C.ti T_Tok).size [v47]) fun v48 =>
 bind2 (appendS T_Tok (C.ti T_Tok) s_6 x4 v48) fun v49 s_7 =>
 bind1 (ofSlots (C.ti T_string) (List.take (C.ti T_string).size (List.drop 2 c8_1))) fun v52 =>
 bind1 (lenS (C.ti T_string) v52) fun v53 =>
 bind1 (binS (C.ti T_int) .add x6 v53) fun v54 =>
 lex_Scan_l0 (x0) (x3) (v49) (x5) (v54) s_7))))) (
 lex_Scan_j0 (x3) (x4) (x5) s_1) := by unfold lex_Scan_l0; exact (loopR_eq _ _ _ _ _ _).trans (by kernel_rfl)
theorem lex_Scan_eq (a0 : AV) (s : St) : cw (.f F_lex_Scan) [a0] s =
 bind1 (lenS (C.ti T_string) (.val a0)) fun v11 =>
 bind1 (binS (C.ti T_int) .gtr v11 (.val (.int .i64 65536))) fun v12 =>
 condS v12 (
 bind1 (buildS (C.ti T_Bad).zero [(0, (C.ti T_Errno).size, (.val (.int .i64 4)))]) fun v13 =>
 bindL (boxCells (C.ti T_Bad) v13) fun c =>
 bindL (putAt (List.map .val (C.ti T_Bad).zero) 0 c) fun c3 =>
 bind1 (tupS [(some (.val (.nils))), (ofSlots (C.ti T_Bad) (List.take (C.ti T_Bad).size c3))]) fun v => some (.ret v, s)) (
 bind1 (buildS (C.ti T_Bad).zero []) fun v14 =>
 bindL (boxCells (C.ti T_Bad) v14) fun c_1 =>
 bindL (putAt (List.map .val (C.ti T_Bad).zero) 0 c_1) fun c5 =>
 lex_Scan_l0 ((.val a0)) ((List.map .val (C.ti T_Bad).zero)) ((.val (.nils))) (c5) ((.val (.int .i64 0))) s) := (callw_f _ _ _).trans (by kernel_rfl)
/- 9 camlet/camletref04.Scan -/
/- 10 camlet/camletlaw04.places -/
/- 11 camlet/lex.Words -/
theorem lex_Words_eq (s : St) : cw (.f F_lex_Words) [] s =
 bind1 (sliceA 24 (C.ti T_string) (.val (.cp glob0)) none none none) fun v1 =>
 back (cal cw true (tgtV (.val (.fn F_slices_Clone_Sstring_string [])) [v1]) s) fun v2 s_1 =>
 some (.ret v2, s_1) := (callw_f _ _ _).trans (by kernel_rfl)
/- 12 camlet/lex.Signs -/
theorem lex_Signs_eq (s : St) : cw (.f F_lex_Signs) [] s =
 bind1 (sliceA 19 (C.ti T_string) (.val (.cp glob1)) none none none) fun v1 =>
 back (cal cw true (tgtV (.val (.fn F_slices_Clone_Sstring_string [])) [v1]) s) fun v2 s_1 =>
 some (.ret v2, s_1) := (callw_f _ _ _).trans (by kernel_rfl)
/- 13 camlet/camletref04.Words -/
/- 14 camlet/camletref04.Signs -/
/- 15 camlet/lex.Show -/
noncomputable def lex_Show_l0 : Slot → Slot → Slot → Slot → St → Res := fun x3 x9 x10 x11 s => loopR C false F_lex_Show [.seqR, .seqR, .seqL, .seqR, .block] (body Go.Proofs.Tryd.f15) [(3, .s x3), (9, .s x9), (10, .s x10), (11, .s x11)] s (ctxR C false F_lex_Show [.seqR, .seqR, .seqL, .seqR, .block] (body Go.Proofs.Tryd.f15) (outK C (Go.Proofs.Tryd.f15).results.toList))
theorem lex_Show_l0_eq (x3 : Slot) (x9 : Slot) (x10 : Slot) (x11 : Slot) (s_2 : St) : lex_Show_l0 x3 x9 x10 x11 s_2 =
 bind1 (binS (C.ti T_int) .lss x11 x10) fun v12 =>
 condS v12 (
 bind1 (ixS (C.ti T_Tok).size x9 x11) fun v13 =>
 bind1 (ldV (C.ti T_Tok) false s_2 v13) fun v14 =>
 bindL (boxCells (C.ti T_Tok) v14) fun c =>
 bindL (putAt (List.map .val (C.ti T_Tok).zero) 0 c) fun c5 =>
 bind1 (ofSlots (C.ti T_string) (List.take (C.ti T_string).size (List.drop 2 c5))) fun v17 =>
 bind1 (bslF (C.ti T_string).size [v17]) fun v18 =>
 bind2 (appendS T_string (C.ti T_string) s_2 x3 v18) fun v19 s_3 =>
 bind1 (binS (C.ti T_int) .add x11 (.val (.int .i64 1))) fun v20 =>
 lex_Show_l0 (v19) (x9) (x10) (v20) s_3) (
 back (cal cw true (tgtV (.val (.fn F_strings_Join [])) [x3, (.val (.str [32]))]) s_2) fun v22 s_4 =>
 some (.ret v22, s_4)) := by unfold lex_Show_l0; exact (loopR_eq _ _ _ _ _ _).trans (by kernel_rfl)
theorem lex_Show_eq (a0 : AV) (s : St) : cw (.f F_lex_Show) [a0] s =
 bind1 (lenS (C.ti T_S_Tok) (.val a0)) fun v7 =>
 bind2 (makeS T_string (C.ti T_string) s (.val (.int .i64 0)) v7) fun v8 s_1 =>
 bind1 (lenS (C.ti T_S_Tok) (.val a0)) fun v10 =>
 lex_Show_l0 (v8) ((.val a0)) (v10) ((.val (.int .i64 0))) s_1 := (callw_f _ _ _).trans (by kernel_rfl)
/- 16 camlet/camletref04.Show -/
/- 17 camlet/camletref04.Same -/
noncomputable def ref04_Same_l0 : Slot → Slot → Slot → Slot → St → Res := fun x0 x1 x12 x13 s => loopR C false F_ref04_Same [.seqR, .seqR, .seqL, .seqR, .block] (body Go.Proofs.Tryd.f17) [(0, .s x0), (1, .s x1), (12, .s x12), (13, .s x13)] s (ctxR C false F_ref04_Same [.seqR, .seqR, .seqL, .seqR, .block] (body Go.Proofs.Tryd.f17) (outK C (Go.Proofs.Tryd.f17).results.toList))
theorem ref04_Same_l0_eq (x0 : Slot) (x1 : Slot) (x12 : Slot) (x13 : Slot) (s_1 : St) : ref04_Same_l0 x0 x1 x12 x13 s_1 =
 bind1 (binS (C.ti T_int) .lss x13 x12) fun v14 =>
 condS v14 (
 bind1 (ixS (C.ti T_Tok).size x0 x13) fun v18 =>
 bind1 (faV 0 v18) fun v19 =>
 bind1 (ldV (C.ti T_TokKind) false s_1 v19) fun v20 =>
 bind1 (ixS (C.ti T_Tok).size x1 x13) fun v23 =>
 bind1 (faV 0 v23) fun v24 =>
 bind1 (ldV (C.ti T_TokKind) false s_1 v24) fun v25 =>
 bind1 (binS (C.ti T_TokKind) .neq v20 v25) fun v26 =>
 bindB (Slot.isB v26 false) fun w =>
 bindB (Slot.isB v26 false) fun w_1 =>
 bindB (Slot.isB v26 false) fun w_2 =>
 bind1 (gd w_2 (ixS (C.ti T_Tok).size (gdV w x0) (gdV w_1 x13))) fun v30 =>
 bindB (Slot.isB v26 false) fun w_3 =>
 bind1 (gd w_3 (faV 2 v30)) fun v31 =>
 bindB (Slot.isB v26 false) fun w_4 =>
 bind1 (gd w_4 (ldV (C.ti T_string) false s_1 v31)) fun v32 =>
 bindB (Slot.isB v26 false) fun w_5 =>
 bindB (Slot.isB v26 false) fun w_6 =>
 bindB (Slot.isB v26 false) fun w_7 =>
 bind1 (gd w_7 (ixS (C.ti T_Tok).size (gdV w_5 x1) (gdV w_6 x13))) fun v35 =>
 bindB (Slot.isB v26 false) fun w_8 =>
 bind1 (gd w_8 (faV 2 v35)) fun v36 =>
 bindB (Slot.isB v26 false) fun w_9 =>
 bind1 (gd w_9 (ldV (C.ti T_string) false s_1 v36)) fun v37 =>
 bindB (Slot.isB v26 false) fun w_10 =>
 bind1 (gd w_10 (binS (C.ti T_string) .neq v32 v37)) fun v38 =>
 bind1 (pickS v26 (.val (.bool true)) v38) fun v39 =>
 bindB (Slot.isB v39 false) fun w_11 =>
 bindB (Slot.isB v39 false) fun w_12 =>
 bindB (Slot.isB v39 false) fun w_13 =>
 bind1 (gd w_13 (ixS (C.ti T_Tok).size (gdV w_11 x0) (gdV w_12 x13))) fun v43 =>
 bindB (Slot.isB v39 false) fun w_14 =>
 bind1 (gd w_14 (faV 3 v43)) fun v44 =>
 bindB (Slot.isB v39 false) fun w_15 =>
 bind1 (gd w_15 (ldV (C.ti T_int) false s_1 v44)) fun v45 =>
 bindB (Slot.isB v39 false) fun w_16 =>
 bindB (Slot.isB v39 false) fun w_17 =>
 bindB (Slot.isB v39 false) fun w_18 =>
 bind1 (gd w_18 (ixS (C.ti T_Tok).size (gdV w_16 x1) (gdV w_17 x13))) fun v48 =>
 bindB (Slot.isB v39 false) fun w_19 =>
 bind1 (gd w_19 (faV 3 v48)) fun v49 =>
 bindB (Slot.isB v39 false) fun w_20 =>
 bind1 (gd w_20 (ldV (C.ti T_int) false s_1 v49)) fun v50 =>
 bindB (Slot.isB v39 false) fun w_21 =>
 bind1 (gd w_21 (binS (C.ti T_int) .neq v45 v50)) fun v51 =>
 bind1 (pickS v39 (.val (.bool true)) v51) fun v52 =>
 condS v52 (
 some (.ret (.val (.bool false)), s_1)) (
 bind1 (binS (C.ti T_int) .add x13 (.val (.int .i64 1))) fun v53 =>
 ref04_Same_l0 (x0) (x1) (x12) (v53) s_1)) (
 some (.ret (.val (.bool true)), s_1)) := by unfold ref04_Same_l0; exact (loopR_eq _ _ _ _ _ _).trans (by kernel_rfl)
theorem ref04_Same_eq (a0 : AV) (a1 : AV) (s : St) : cw (.f F_ref04_Same) [a0, a1] s =
 bind1 (lenS (C.ti T_S_Tok) (.val a0)) fun v7 =>
 bind1 (lenS (C.ti T_S_Tok) (.val a1)) fun v9 =>
 bind1 (binS (C.ti T_int) .neq v7 v9) fun v10 =>
 condS v10 (
 some (.ret (.val (.bool false)), s)) (
 bind1 (lenS (C.ti T_S_Tok) (.val a0)) fun v12 =>
 ref04_Same_l0 ((.val a0)) ((.val a1)) (v12) ((.val (.int .i64 0))) s) := (callw_f _ _ _).trans (by kernel_rfl)
/- 19 strings.HasPrefix -/
theorem strings_HasPrefix_eq (a0 : AV) (a1 : AV) (s : St) : cw (.f F_strings_HasPrefix) [a0, a1] s =
 back (cal cw true (tgtV (.val (.fn F_internal_stringslite_HasPrefix [])) [(.val a0), (.val a1)]) s) fun v7 s_1 =>
 some (.ret v7, s_1) := (callw_f _ _ _).trans (by kernel_rfl)
/- 20 camlet/lex.remark -/
noncomputable def lex_remark_l0 : Slot → Slot → Slot → St → Res := fun x0 x1 x5 s => loopR C false F_lex_remark [.seqR, .seqL, .seqR, .block] (body Go.Proofs.Tryd.f20) [(0, .s x0), (1, .s x1), (5, .s x5)] s (ctxR C false F_lex_remark [.seqR, .seqL, .seqR, .block] (body Go.Proofs.Tryd.f20) (outK C (Go.Proofs.Tryd.f20).results.toList))
theorem lex_remark_l0_eq (x0 : Slot) (x1 : Slot) (x5 : Slot) (s_1 : St) : lex_remark_l0 x0 x1 x5 s_1 =
 bind1 (binS (C.ti T_int) .add x1 (.val (.int .i64 1))) fun v7 =>
 bind1 (lenS (C.ti T_string) x0) fun v9 =>
 bind1 (binS (C.ti T_int) .lss v7 v9) fun v10 =>
 condS v10 (
 bind1 (binS (C.ti T_int) .add x1 (.val (.int .i64 2))) fun v14 =>
 bind1 (sliceS (C.ti T_string) 0 x0 (some x1) (some v14) none) fun v15 =>
 bind1 (binS (C.ti T_string) .eql v15 (.val (.str [40, 42]))) fun v19 =>
 condS v19 (
 bind1 (binS (C.ti T_int) .add x5 (.val (.int .i64 1))) fun v21 =>
 bind1 (binS (C.ti T_int) .add x1 (.val (.int .i64 2))) fun v23 =>
 lex_remark_l0 (x0) (v23) (v21) s_1) (
 bind1 (binS (C.ti T_string) .eql v15 (.val (.str [42, 41]))) fun v25 =>
 condS v25 (
 bind1 (binS (C.ti T_int) .sub x5 (.val (.int .i64 1))) fun v27 =>
 bind1 (binS (C.ti T_int) .add x1 (.val (.int .i64 2))) fun v29 =>
 bind1 (binS (C.ti T_int) .eql v27 (.val (.int .i64 0))) fun v31 =>
 condS v31 (
 some (.ret v29, s_1)) (
 lex_remark_l0 (x0) (v29) (v27) s_1)) (
 bind1 (binS (C.ti T_int) .add x1 (.val (.int .i64 1))) fun v17 =>
 lex_remark_l0 (x0) (v17) (x5) s_1))) (
 some (.ret (.val (.int .i64 (-1))), s_1)) := by unfold lex_remark_l0; exact (loopR_eq _ _ _ _ _ _).trans (by kernel_rfl)
theorem lex_remark_eq (a0 : AV) (a1 : AV) (s : St) : cw (.f F_lex_remark) [a0, a1] s =
 lex_remark_l0 ((.val a0)) ((.val a1)) ((.val (.int .i64 0))) s := (callw_f _ _ _).trans (by kernel_rfl)
/- 21 camlet/lex.one -/
noncomputable def lex_one_j0 : Slot → List Slot → St → Res := fun x2 x4 s => pw (run C false F_lex_one (codeAt [.seqR, .seqR, .seqR] (body Go.Proofs.Tryd.f21)) [(2, .s x2), (4, .var x4)] s (ctxR C false F_lex_one [.seqR, .seqR, .seqR] (body Go.Proofs.Tryd.f21) (outK C (Go.Proofs.Tryd.f21).results.toList)))
theorem lex_one_j0_eq (x2 : Slot) (x4 : List Slot) (s_6 : St) : lex_one_j0 x2 x4 s_6 =
 bind1 (ldV (C.ti T_string) false s_6 x2) fun v71 =>
 back (cal cw true (tgtV (.val (.fn F_lex_sign [])) [v71]) s_6) fun v72 s_7 =>
 bind1 (binS (C.ti T_string) .neq v72 (.val (.str []))) fun v74 =>
 condS v74 (
 bind1 (buildS (C.ti T_Tok).zero [(0, (C.ti T_TokKind).size, (.val (.int .i64 6))), (2, (C.ti T_string).size, v72)]) fun v76 =>
 bindL (boxCells (C.ti T_Tok) v76) fun c_2 =>
 bindL (putAt x4 0 c_2) fun c4_2 =>
 bind1 (tupS [(ofSlots (C.ti T_Tok) (List.take (C.ti T_Tok).size c4_2)), (some (.val (.int .i64 0)))]) fun v => some (.ret v, s_7)) (
 bind1 (buildS (C.ti T_Tok).zero []) fun v77 =>
 bindL (boxCells (C.ti T_Tok) v77) fun c_3 =>
 bindL (putAt x4 0 c_3) fun c4_3 =>
 bind1 (tupS [(ofSlots (C.ti T_Tok) (List.take (C.ti T_Tok).size c4_3)), (some (.val (.int .i64 11)))]) fun v => some (.ret v, s_7)) := by unfold lex_one_j0; exact (pw_eq _).trans (by kernel_rfl)
theorem lex_one_eq (a0 : AV) (a1 : AV) (s : St) : cw (.f F_lex_one) [a0, a1] s =
 bindL (boxCells (C.ti T_string) (.val a0)) fun c2 =>
 bindA (avs c2) fun l2 =>
 bind1 (fnS F_lex_one_1 [(.val (.cp l2))]) fun v14 =>
 bind1 (ldV (C.ti T_string) false s (.val (.cp l2))) fun v15 =>
 bind1 (indexS (C.ti T_string) (C.ti T_0) v15 (.val (.int .i64 0))) fun v16 =>
 back (cal cw true (tgtV (.val (.fn F_lex_digit [])) [v16]) s) fun v19 s_1 =>
 condS v19 (
 back (cal cw true (tgtV v14 [(.val (.int .i64 0)), (.val (.fn F_lex_digit []))]) s_1) fun v21 s_2 =>
 back (cal cw true (tgtV (.val (.fn F_lex_number [])) [v21, (.val a1)]) s_2) fun v25 s_3 =>
 bind1 (extractS v25 0) fun v26 =>
 bind1 (extractS v25 1) fun v27 =>
 bind1 (unS .not v27) fun v29 =>
 condS v29 (
 bind1 (buildS (C.ti T_Tok).zero []) fun v30 =>
 bindL (boxCells (C.ti T_Tok) v30) fun c =>
 bindL (putAt (List.map .val (C.ti T_Tok).zero) 0 c) fun c4 =>
 bind1 (tupS [(ofSlots (C.ti T_Tok) (List.take (C.ti T_Tok).size c4)), (some (.val (.int .i64 13)))]) fun v => some (.ret v, s_3)) (
 bind1 (buildS (C.ti T_Tok).zero [(0, (C.ti T_TokKind).size, (.val (.int .i64 1))), (2, (C.ti T_string).size, v21), (3, (C.ti T_int).size, v26)]) fun v33 =>
 bindL (boxCells (C.ti T_Tok) v33) fun c_1 =>
 bindL (putAt (List.map .val (C.ti T_Tok).zero) 0 c_1) fun c4_1 =>
 bind1 (tupS [(ofSlots (C.ti T_Tok) (List.take (C.ti T_Tok).size c4_1)), (some (.val (.int .i64 0)))]) fun v => some (.ret v, s_3))) (
 back (cal cw true (tgtV (.val (.fn F_lex_first [])) [v16]) s_1) fun v36 s_4 =>
 condS v36 (
 back (cal cw true (tgtV v14 [(.val (.int .i64 0)), (.val (.fn F_lex_among []))]) s_4) fun v38 s_5 =>
 bind1 (binS (C.ti T_string) .eql v38 (.val (.str [95]))) fun v40 =>
 condS v40 (
 lex_one_j0 ((.val (.cp l2))) ((List.map .val (C.ti T_Tok).zero)) s_5) (
 bind1 (lenS (C.ti T_string) v38) fun v42 =>
 bind1 (binS (C.ti T_int) .gtr v42 (.val (.int .i64 32))) fun v43 =>
 condS v43 (
 bind1 (buildS (C.ti T_Tok).zero []) fun v44 =>
 bindL (boxCells (C.ti T_Tok) v44) fun c_4 =>
 bindL (putAt (List.map .val (C.ti T_Tok).zero) 0 c_4) fun c4_4 =>
 bind1 (tupS [(ofSlots (C.ti T_Tok) (List.take (C.ti T_Tok).size c4_4)), (some (.val (.int .i64 4)))]) fun v => some (.ret v, s_5)) (
 back (cal cw true (tgtV (.val (.fn F_lex_named [])) [v38]) s_5) fun v46 s_8 =>
 bind1 (buildS (C.ti T_Tok).zero [(0, (C.ti T_TokKind).size, v46), (2, (C.ti T_string).size, v38)]) fun v48 =>
 bindL (boxCells (C.ti T_Tok) v48) fun c_5 =>
 bindL (putAt (List.map .val (C.ti T_Tok).zero) 0 c_5) fun c4_5 =>
 bind1 (tupS [(ofSlots (C.ti T_Tok) (List.take (C.ti T_Tok).size c4_5)), (some (.val (.int .i64 0)))]) fun v => some (.ret v, s_8)))) (
 bind1 (binS (C.ti T_uint8) .eql v16 (.val (.int .u8 39))) fun v51 =>
 bindB (Slot.isB v51 true) fun w =>
 bind1 (gd w (ldV (C.ti T_string) false s_4 (.val (.cp l2)))) fun v53 =>
 bindB (Slot.isB v51 true) fun w_1 =>
 bind1 (gd w_1 (lenS (C.ti T_string) v53)) fun v54 =>
 bindB (Slot.isB v51 true) fun w_2 =>
 bind1 (gd w_2 (binS (C.ti T_int) .gtr v54 (.val (.int .i64 1)))) fun v55 =>
 bind1 (pickS v51 v55 (.val (.bool false))) fun v56 =>
 bindB (Slot.isB v56 true) fun w_3 =>
 bind1 (gd w_3 (ldV (C.ti T_string) false s_4 (.val (.cp l2)))) fun v58 =>
 bindB (Slot.isB v56 true) fun w_4 =>
 bind1 (gd w_4 (indexS (C.ti T_string) (C.ti T_0) v58 (.val (.int .i64 1)))) fun v59 =>
 bindB (Slot.isB v56 true) fun w_5 =>
 back (cal cw w_5 (tgtV (.val (.fn F_lex_first [])) [v59]) s_4) fun v60 s_9 =>
 bind1 (pickS v56 v60 (.val (.bool false))) fun v61 =>
 condS v61 (
 back (cal cw true (tgtV v14 [(.val (.int .i64 1)), (.val (.fn F_lex_among []))]) s_9) fun v63 s_10 =>
 bind1 (lenS (C.ti T_string) v63) fun v65 =>
 bind1 (binS (C.ti T_int) .sub v65 (.val (.int .i64 1))) fun v66 =>
 bind1 (binS (C.ti T_int) .gtr v66 (.val (.int .i64 32))) fun v67 =>
 condS v67 (
 bind1 (buildS (C.ti T_Tok).zero []) fun v68 =>
 bindL (boxCells (C.ti T_Tok) v68) fun c_6 =>
 bindL (putAt (List.map .val (C.ti T_Tok).zero) 0 c_6) fun c4_6 =>
 bind1 (tupS [(ofSlots (C.ti T_Tok) (List.take (C.ti T_Tok).size c4_6)), (some (.val (.int .i64 4)))]) fun v => some (.ret v, s_10)) (
 bind1 (buildS (C.ti T_Tok).zero [(0, (C.ti T_TokKind).size, (.val (.int .i64 4))), (2, (C.ti T_string).size, v63)]) fun v70 =>
 bindL (boxCells (C.ti T_Tok) v70) fun c_7 =>
 bindL (putAt (List.map .val (C.ti T_Tok).zero) 0 c_7) fun c4_7 =>
 bind1 (tupS [(ofSlots (C.ti T_Tok) (List.take (C.ti T_Tok).size c4_7)), (some (.val (.int .i64 0)))]) fun v => some (.ret v, s_10))) (
 lex_one_j0 ((.val (.cp l2))) ((List.map .val (C.ti T_Tok).zero)) s_9))) := (callw_f _ _ _).trans (by kernel_rfl)
/- 22 camlet/camletref04.Skip -/
/- 23 camlet/camletref04.One -/
/- 24 slices.Clone[[]string,string] -/
theorem slices_Clone_Sstring_string_eq (a0 : AV) (s : St) : cw (.f F_slices_Clone_Sstring_string) [a0] s =
 bind1 (binS (C.ti T_S_string) .eql (.val a0) (.val (.nils))) fun v4 =>
 condS v4 (
 some (.ret (.val (.nils)), s)) (
 bind1 (bslF (C.ti T_string).size []) fun v5 =>
 bind2 (appendS T_string (C.ti T_string) s v5 (.val a0)) fun v7 s_1 =>
 some (.ret v7, s_1)) := (callw_f _ _ _).trans (by kernel_rfl)
/- 27 internal/stringslite.HasPrefix -/
theorem internal_stringslite_HasPrefix_eq (a0 : AV) (a1 : AV) (s : St) : cw (.f F_internal_stringslite_HasPrefix) [a0, a1] s =
 bind1 (lenS (C.ti T_string) (.val a0)) fun v6 =>
 bind1 (lenS (C.ti T_string) (.val a1)) fun v8 =>
 bind1 (binS (C.ti T_int) .geq v6 v8) fun v9 =>
 bindB (Slot.isB v9 true) fun w =>
 bindB (Slot.isB v9 true) fun w_1 =>
 bindB (Slot.isB v9 true) fun w_2 =>
 bind1 (gd w_2 (lenS (C.ti T_string) (gdV w_1 (.val a1)))) fun v13 =>
 bindB (Slot.isB v9 true) fun w_3 =>
 bind1 (gd w_3 (sliceS (C.ti T_string) 0 (gdV w (.val a0)) none (some v13) none)) fun v14 =>
 bindB (Slot.isB v9 true) fun w_4 =>
 bindB (Slot.isB v9 true) fun w_5 =>
 bind1 (gd w_5 (binS (C.ti T_string) .eql v14 (gdV w_4 (.val a1)))) fun v16 =>
 bind1 (pickS v9 v16 (.val (.bool false))) fun v17 =>
 some (.ret v17, s) := (callw_f _ _ _).trans (by kernel_rfl)
/- 28 camlet/lex.one$1 -/
noncomputable def lex_one_1_l0 : Slot → Slot → Slot → St → Res := fun x1 x2 x6 s => loopR C false F_lex_one_1 [.seqR, .seqR, .seqL, .block] (body Go.Proofs.Tryd.f28) [(1, .s x1), (2, .s x2), (6, .s x6)] s (ctxR C false F_lex_one_1 [.seqR, .seqR, .seqL, .block] (body Go.Proofs.Tryd.f28) (outK C (Go.Proofs.Tryd.f28).results.toList))
theorem lex_one_1_l0_eq (x1 : Slot) (x2 : Slot) (x6 : Slot) (s_1 : St) : lex_one_1_l0 x1 x2 x6 s_1 =
 bind1 (ldV (C.ti T_string) false s_1 x2) fun v9 =>
 bind1 (lenS (C.ti T_string) v9) fun v10 =>
 bind1 (binS (C.ti T_int) .lss x6 v10) fun v11 =>
 bindB (Slot.isB v11 true) fun w =>
 bindB (Slot.isB v11 true) fun w_1 =>
 bind1 (gd w_1 (ldV (C.ti T_string) false s_1 x2)) fun v14 =>
 bindB (Slot.isB v11 true) fun w_2 =>
 bindB (Slot.isB v11 true) fun w_3 =>
 bind1 (gd w_3 (indexS (C.ti T_string) (C.ti T_0) v14 (gdV w_2 x6))) fun v16 =>
 bindB (Slot.isB v11 true) fun w_4 =>
 back (cal cw w_4 (tgtV (gdV w x1) [v16]) s_1) fun v17 s_2 =>
 bind1 (pickS v11 v17 (.val (.bool false))) fun v18 =>
 condS v18 (
 bind1 (binS (C.ti T_int) .add x6 (.val (.int .i64 1))) fun v20 =>
 lex_one_1_l0 (x1) (x2) (v20) s_2) (
 bind1 (ldV (C.ti T_string) false s_2 x2) fun v21 =>
 bind1 (sliceS (C.ti T_string) 0 v21 none (some x6) none) fun v23 =>
 some (.ret v23, s_2)) := by unfold lex_one_1_l0; exact (loopR_eq _ _ _ _ _ _).trans (by kernel_rfl)
theorem lex_one_1_eq (a0 : AV) (a1 : AV) (a2 : AV) (s : St) : cw (.f F_lex_one_1) [a0, a1, a2] s =
 lex_one_1_l0 ((.val a1)) ((.val a2)) ((.val a0)) s := (callw_f _ _ _).trans (by kernel_rfl)
/- 29 camlet/lex.digit -/
theorem lex_digit_eq (a0 : AV) (s : St) : cw (.f F_lex_digit) [a0] s =
 bind1 (binS (C.ti T_uint8) .geq (.val a0) (.val (.int .u8 48))) fun v4 =>
 bindB (Slot.isB v4 true) fun w =>
 bindB (Slot.isB v4 true) fun w_1 =>
 bind1 (gd w_1 (binS (C.ti T_uint8) .leq (gdV w (.val a0)) (.val (.int .u8 57)))) fun v7 =>
 bind1 (pickS v4 v7 (.val (.bool false))) fun v8 =>
 some (.ret v8, s) := (callw_f _ _ _).trans (by kernel_rfl)
/- 30 camlet/lex.number -/
noncomputable def lex_number_l0 : Slot → Slot → Slot → Slot → Slot → St → Res := fun x0 x1 x6 x22 x23 s => loopR C false F_lex_number [.seqR, .seqR, .seqR, .seqL, .seqR, .block] (body Go.Proofs.Tryd.f30) [(0, .s x0), (1, .s x1), (6, .s x6), (22, .s x22), (23, .s x23)] s (ctxR C false F_lex_number [.seqR, .seqR, .seqR, .seqL, .seqR, .block] (body Go.Proofs.Tryd.f30) (outK C (Go.Proofs.Tryd.f30).results.toList))
theorem lex_number_l0_eq (x0 : Slot) (x1 : Slot) (x6 : Slot) (x22 : Slot) (x23 : Slot) (s_1 : St) : lex_number_l0 x0 x1 x6 x22 x23 s_1 =
 bind1 (binS (C.ti T_int) .lss x23 x22) fun v24 =>
 condS v24 (
 bind1 (binS (C.ti T_int) .mul (.val (.int .i64 10)) x6) fun v27 =>
 bind1 (indexS (C.ti T_string) (C.ti T_0) x0 x23) fun v30 =>
 bind1 (binS (C.ti T_uint8) .sub v30 (.val (.int .u8 48))) fun v31 =>
 bind1 (convS (C.ti T_uint8) (C.ti T_int) v31) fun v32 =>
 bind1 (binS (C.ti T_int) .add v27 v32) fun v33 =>
 bind1 (binS (C.ti T_int) .add x23 (.val (.int .i64 1))) fun v34 =>
 lex_number_l0 (x0) (x1) (v33) (x22) (v34) s_1) (
 bind1 (binS (C.ti T_int) .lss x6 (.val (.int .i64 1073741824))) fun v37 =>
 bindB (Slot.isB v37 false) fun w_6 =>
 bindB (Slot.isB v37 false) fun w_7 =>
 bind1 (gd w_7 (binS (C.ti T_int) .eql (gdV w_6 x6) (.val (.int .i64 1073741824)))) fun v40 =>
 bindB (Slot.isB v37 false) fun w_8 =>
 bindB (Slot.isB (gdV w_8 v40) true) fun w_9 =>
 bindB (Slot.isB v37 false) fun w_10 =>
 bind1 (gd w_10 (pickS (gdV w_8 v40) (gdV w_9 x1) (.val (.bool false)))) fun v43 =>
 bind1 (pickS v37 (.val (.bool true)) v43) fun v44 =>
 bind1 (tupS [(some x6), (some v44)]) fun v => some (.ret v, s_1)) := by unfold lex_number_l0; exact (loopR_eq _ _ _ _ _ _).trans (by kernel_rfl)
theorem lex_number_eq (a0 : AV) (a1 : AV) (s : St) : cw (.f F_lex_number) [a0, a1] s =
 bind1 (lenS (C.ti T_string) (.val a0)) fun v9 =>
 bind1 (binS (C.ti T_int) .gtr v9 (.val (.int .i64 1))) fun v10 =>
 bindB (Slot.isB v10 true) fun w =>
 bindB (Slot.isB v10 true) fun w_1 =>
 bind1 (gd w_1 (indexS (C.ti T_string) (C.ti T_0) (gdV w (.val a0)) (.val (.int .i64 0)))) fun v13 =>
 bindB (Slot.isB v10 true) fun w_2 =>
 bind1 (gd w_2 (binS (C.ti T_uint8) .eql v13 (.val (.int .u8 48)))) fun v14 =>
 bind1 (pickS v10 v14 (.val (.bool false))) fun v15 =>
 bindB (Slot.isB v15 false) fun w_3 =>
 bindB (Slot.isB v15 false) fun w_4 =>
 bind1 (gd w_4 (lenS (C.ti T_string) (gdV w_3 (.val a0)))) fun v18 =>
 bindB (Slot.isB v15 false) fun w_5 =>
 bind1 (gd w_5 (binS (C.ti T_int) .gtr v18 (.val (.int .i64 10)))) fun v19 =>
 bind1 (pickS v15 (.val (.bool true)) v19) fun v20 =>
 condS v20 (
 bind1 (tupS [(some (.val (.int .i64 0))), (some (.val (.bool false)))]) fun v => some (.ret v, s)) (
 bind1 (lenS (C.ti T_string) (.val a0)) fun v22 =>
 lex_number_l0 ((.val a0)) ((.val a1)) ((.val (.int .i64 0))) (v22) ((.val (.int .i64 0))) s) := (callw_f _ _ _).trans (by kernel_rfl)
/- 31 camlet/lex.first -/
theorem lex_first_eq (a0 : AV) (s : St) : cw (.f F_lex_first) [a0] s =
 bind1 (binS (C.ti T_uint8) .geq (.val a0) (.val (.int .u8 97))) fun v4 =>
 bindB (Slot.isB v4 true) fun w =>
 bindB (Slot.isB v4 true) fun w_1 =>
 bind1 (gd w_1 (binS (C.ti T_uint8) .leq (gdV w (.val a0)) (.val (.int .u8 122)))) fun v7 =>
 bind1 (pickS v4 v7 (.val (.bool false))) fun v8 =>
 bindB (Slot.isB v8 false) fun w_2 =>
 bindB (Slot.isB v8 false) fun w_3 =>
 bind1 (gd w_3 (binS (C.ti T_uint8) .geq (gdV w_2 (.val a0)) (.val (.int .u8 65)))) fun v11 =>
 bindB (Slot.isB v8 false) fun w_4 =>
 bindB (Slot.isB (gdV w_4 v11) true) fun w_5 =>
 bindB (Slot.isB (gdV w_4 v11) true) fun w_6 =>
 bind1 (gd w_6 (binS (C.ti T_uint8) .leq (gdV w_5 (.val a0)) (.val (.int .u8 90)))) fun v14 =>
 bindB (Slot.isB v8 false) fun w_7 =>
 bind1 (gd w_7 (pickS (gdV w_4 v11) v14 (.val (.bool false)))) fun v15 =>
 bind1 (pickS v8 (.val (.bool true)) v15) fun v16 =>
 bindB (Slot.isB v16 false) fun w_8 =>
 bindB (Slot.isB v16 false) fun w_9 =>
 bind1 (gd w_9 (binS (C.ti T_uint8) .eql (gdV w_8 (.val a0)) (.val (.int .u8 95)))) fun v19 =>
 bind1 (pickS v16 (.val (.bool true)) v19) fun v20 =>
 some (.ret v20, s) := (callw_f _ _ _).trans (by kernel_rfl)
/- 32 camlet/lex.among -/
theorem lex_among_eq (a0 : AV) (s : St) : cw (.f F_lex_among) [a0] s =
 back (cal cw true (tgtV (.val (.fn F_lex_first [])) [(.val a0)]) s) fun v4 s_1 =>
 bindB (Slot.isB v4 false) fun w =>
 bindB (Slot.isB v4 false) fun w_1 =>
 back (cal cw w_1 (tgtV (.val (.fn F_lex_digit [])) [(gdV w (.val a0))]) s_1) fun v7 s_2 =>
 bind1 (pickS v4 (.val (.bool true)) v7) fun v8 =>
 bindB (Slot.isB v8 false) fun w_2 =>
 bindB (Slot.isB v8 false) fun w_3 =>
 bind1 (gd w_3 (binS (C.ti T_uint8) .eql (gdV w_2 (.val a0)) (.val (.int .u8 39)))) fun v11 =>
 bind1 (pickS v8 (.val (.bool true)) v11) fun v12 =>
 some (.ret v12, s_2) := (callw_f _ _ _).trans (by kernel_rfl)
/- 33 camlet/lex.named -/
theorem lex_named_eq (a0 : AV) (s : St) : cw (.f F_lex_named) [a0] s =
 bind1 (sliceA 24 (C.ti T_string) (.val (.cp glob0)) none none none) fun v4 =>
 back (cal cw true (tgtV (.val (.fn F_slices_Contains_Sstring_string [])) [v4, (.val a0)]) s) fun v6 s_1 =>
 condS v6 (
 some (.ret (.val (.int .i64 5)), s_1)) (
 bind1 (binS (C.ti T_string) .eql (.val a0) (.val (.str [116, 114, 117, 101]))) fun v9 =>
 bindB (Slot.isB v9 false) fun w =>
 bindB (Slot.isB v9 false) fun w_1 =>
 bind1 (gd w_1 (binS (C.ti T_string) .eql (gdV w (.val a0)) (.val (.str [102, 97, 108, 115, 101])))) fun v12 =>
 bind1 (pickS v9 (.val (.bool true)) v12) fun v13 =>
 bindB (Slot.isB v13 false) fun w_2 =>
 bindB (Slot.isB v13 false) fun w_3 =>
 bind1 (gd w_3 (indexS (C.ti T_string) (C.ti T_0) (gdV w_2 (.val a0)) (.val (.int .i64 0)))) fun v16 =>
 bindB (Slot.isB v13 false) fun w_4 =>
 bind1 (gd w_4 (binS (C.ti T_uint8) .geq v16 (.val (.int .u8 65)))) fun v17 =>
 bindB (Slot.isB v13 false) fun w_5 =>
 bindB (Slot.isB (gdV w_5 v17) true) fun w_6 =>
 bindB (Slot.isB (gdV w_5 v17) true) fun w_7 =>
 bind1 (gd w_7 (indexS (C.ti T_string) (C.ti T_0) (gdV w_6 (.val a0)) (.val (.int .i64 0)))) fun v20 =>
 bindB (Slot.isB (gdV w_5 v17) true) fun w_8 =>
 bind1 (gd w_8 (binS (C.ti T_uint8) .leq v20 (.val (.int .u8 90)))) fun v21 =>
 bindB (Slot.isB v13 false) fun w_9 =>
 bind1 (gd w_9 (pickS (gdV w_5 v17) v21 (.val (.bool false)))) fun v22 =>
 bind1 (pickS v13 (.val (.bool true)) v22) fun v23 =>
 condS v23 (
 some (.ret (.val (.int .i64 3)), s_1)) (
 some (.ret (.val (.int .i64 2)), s_1))) := (callw_f _ _ _).trans (by kernel_rfl)
/- 34 camlet/lex.sign -/
noncomputable def lex_sign_l0 : Slot → Slot → St → Res := fun x0 x3 s => loopR C false F_lex_sign [.seqR, .seqL, .seqR, .block] (body Go.Proofs.Tryd.f34) [(0, .s x0), (3, .s x3)] s (ctxR C false F_lex_sign [.seqR, .seqL, .seqR, .block] (body Go.Proofs.Tryd.f34) (outK C (Go.Proofs.Tryd.f34).results.toList))
theorem lex_sign_l0_eq (x0 : Slot) (x3 : Slot) (s_1 : St) : lex_sign_l0 x0 x3 s_1 =
 bind1 (binS (C.ti T_int) .gtr x3 (.val (.int .i64 0))) fun v8 =>
 condS v8 (
 bind1 (sliceA 19 (C.ti T_string) (.val (.cp glob1)) none none none) fun v11 =>
 bind1 (sliceS (C.ti T_string) 0 x0 none (some x3) none) fun v14 =>
 back (noPan (cal cw true (tgtV (.val (.fn F_slices_Contains_Sstring_string [])) [v11, v14]) s_1)) fun v15 s_2 =>
 condS v15 (
 bind1 (sliceS (C.ti T_string) 0 x0 none (some x3) none) fun v18 =>
 some (.ret v18, s_2)) (
 bind1 (binS (C.ti T_int) .sub x3 (.val (.int .i64 1))) fun v10 =>
 lex_sign_l0 (x0) (v10) s_2)) (
 some (.ret (.val (.str [])), s_1)) := by unfold lex_sign_l0; exact (loopR_eq _ _ _ _ _ _).trans (by kernel_rfl)
theorem lex_sign_eq (a0 : AV) (s : St) : cw (.f F_lex_sign) [a0] s =
 bind1 (lenS (C.ti T_string) (.val a0)) fun v5 =>
 bind1 (min2 (.val (.int .i64 2)) v5) fun v6 =>
 lex_sign_l0 ((.val a0)) (v6) s := (callw_f _ _ _).trans (by kernel_rfl)
/- 35 camlet/camletref04.blank -/
/- 36 camlet/camletref04.has -/
/- 37 camlet/camletref04.remark -/
/- 38 camlet/camletref04.digit -/
/- 39 camlet/camletref04.number -/
/- 40 camlet/camletref04.Run -/
/- 41 camlet/camletref04.name -/
/- 42 camlet/camletref04.sign -/
/- 47 slices.Contains[[]string,string] -/
theorem slices_Contains_Sstring_string_eq (a0 : AV) (a1 : AV) (s : St) : cw (.f F_slices_Contains_Sstring_string) [a0, a1] s =
 back (cal cw true (tgtV (.val (.fn F_slices_Index_Sstring_string [])) [(.val a0), (.val a1)]) s) fun v7 s_1 =>
 bind1 (binS (C.ti T_int) .geq v7 (.val (.int .i64 0))) fun v8 =>
 some (.ret v8, s_1) := (callw_f _ _ _).trans (by kernel_rfl)
/- 48 camlet/camletref04.small -/
/- 49 camlet/camletref04.great -/
/- 50 camlet/camletref04.in -/
/- 53 slices.Index[[]string,string] -/
noncomputable def slices_Index_Sstring_string_l0 : Slot → Slot → Slot → Slot → St → Res := fun x0 x1 x7 x8 s => loopR C false F_slices_Index_Sstring_string [.seqR, .seqL, .seqR, .block] (body Go.Proofs.Tryd.f53) [(0, .s x0), (1, .s x1), (7, .s x7), (8, .s x8)] s (ctxR C false F_slices_Index_Sstring_string [.seqR, .seqL, .seqR, .block] (body Go.Proofs.Tryd.f53) (outK C (Go.Proofs.Tryd.f53).results.toList))
theorem slices_Index_Sstring_string_l0_eq (x0 : Slot) (x1 : Slot) (x7 : Slot) (x8 : Slot) (s_1 : St) : slices_Index_Sstring_string_l0 x0 x1 x7 x8 s_1 =
 bind1 (binS (C.ti T_int) .lss x8 x7) fun v9 =>
 condS v9 (
 bind1 (ixS (C.ti T_string).size x0 x8) fun v14 =>
 bind1 (ldV (C.ti T_string) false s_1 v14) fun v15 =>
 bind1 (binS (C.ti T_string) .eql x1 v15) fun v16 =>
 condS v16 (
 some (.ret x8, s_1)) (
 bind1 (binS (C.ti T_int) .add x8 (.val (.int .i64 1))) fun v18 =>
 slices_Index_Sstring_string_l0 (x0) (x1) (x7) (v18) s_1)) (
 some (.ret (.val (.int .i64 (-1))), s_1)) := by unfold slices_Index_Sstring_string_l0; exact (loopR_eq _ _ _ _ _ _).trans (by kernel_rfl)
theorem slices_Index_Sstring_string_eq (a0 : AV) (a1 : AV) (s : St) : cw (.f F_slices_Index_Sstring_string) [a0, a1] s =
 bind1 (lenS (C.ti T_S_string) (.val a0)) fun v7 =>
 slices_Index_Sstring_string_l0 ((.val a0)) ((.val a1)) (v7) ((.val (.int .i64 0))) s := (callw_f _ _ _).trans (by kernel_rfl)
end Go.Proofs.YtadhckhgemongaaDoor

namespace Go.Am
open Go
def smallB (n : Int) : Bool := decide (n ≥ 97) && decide (n ≤ 122) || decide (n = 95)
def greatB (n : Int) : Bool := decide (n ≥ 65) && decide (n ≤ 90)
def unrestB (n : Int) : Bool := !smallB n && !greatB n && (decide (n < 48) || decide (n > 57)) && !decide (n = 39)
def restAll (l : Str) : Bool := l.all fun c => !unrestB c.toNat
def runB (l : Str) : Bool := restAll (l.drop 1) && decide (l.length ≤ 32)
def headB (l : Str) : Int := ((l.headD 0).toNat : Int)
def wordsS : Str := [32, 97, 110, 100, 32, 97, 110, 100, 97, 108, 115, 111, 32, 97, 115, 32, 99, 97, 115, 101, 32, 100, 97, 116, 97, 116, 121, 112, 101, 32, 100, 105, 118, 32, 101, 108, 115, 101, 32, 101, 110, 100, 32, 101, 120, 99, 101, 112, 116, 105, 111, 110, 32, 102, 110, 32, 102, 117, 110, 32, 104, 97, 110, 100, 108, 101, 32, 105, 102, 32, 105, 110, 32, 108, 101, 116, 32, 109, 111, 100, 32, 111, 102, 32, 111, 114, 101, 108, 115, 101, 32, 112, 114, 105, 110, 116, 32, 114, 97, 105, 115, 101, 32, 114, 101, 97, 100, 32, 114, 101, 102, 32, 116, 104, 101, 110, 32, 118, 97, 108, 32, 116, 114, 117, 101, 32, 102, 97, 108, 115, 101, 32, 95, 32]
def lowB (l : Str) : Bool := !decide (l = []) && smallB (headB l) && runB l && !Go.Lib.contains wordsS (32 :: (l ++ [32]))
def capB (l : Str) : Bool := !decide (l = []) && greatB (headB l) && runB l
def conB (l : Str) : Bool := capB l || decide (l = [116, 114, 117, 101]) || decide (l = [102, 97, 108, 115, 101]) || decide (l = [40, 41])
def isIntB (n : Int) : Bool := decide (n ≥ -1073741824) && decide (n ≤ 1073741823)
/-! ### the document's way -/
/-! ### what is wrong with a node alone: the program's way -/
def tyLM (nm : Str) : Int × Int × Bool :=
  bif decide (nm = [105, 110, 116]) then (0, 0, true) else bif decide (nm = [98, 111, 111, 108]) then (0, 0, true) else bif decide (nm = [117, 110, 105, 116]) then (0, 0, true) else bif decide (nm = [101, 120, 110]) then (0, 0, true) else
  bif decide (nm = [114, 101, 102]) then (1, 1, true) else bif decide (nm = [45, 62]) then (2, 2, true) else bif decide (nm = [42]) then (2, 8, true) else bif !lowB nm then (0, 0, false) else (0, 8, true)
def wrongTyC (k n : Int) (nm : Str) (len : Int) : Int :=
  bif decide (k = 1) && (!decide (nm = []) || decide (len > 0)) || decide (k = 2) && !decide (n = 0) || !decide (k = 1) && !decide (k = 2) then 29
  else bif decide (k = 1) && decide (n < 0) then 2
  else bif decide (k = 1) then 0
  else bif !(tyLM nm).2.2 then 8
  else bif decide (len < (tyLM nm).1) || decide (len > (tyLM nm).2.1) then 19 else 0
def wrongTyB (t : Ty) : Int := wrongTyC t.kind t.n t.name t.args.length
/-- a pattern's kind: has it a name, a number; how few and many parts -/
def patLM (k : Int) : Bool × Bool × Int × Int :=
  bif decide (k = 2) then (true, false, 0, 0) else bif decide (k = 3) then (false, true, 0, 0) else bif decide (k = 4) then (true, false, 0, 1) else bif decide (k = 5) then (false, false, 2, 8) else bif decide (k = 6) then (true, false, 1, 1) else (false, false, 0, 0)
def wrongPatB (p : Pat) : Int :=
  bif decide (p.kind < 1) || decide (p.kind > 6) then 29
  else bif !(patLM p.kind).1 && !decide (p.name = []) || !(patLM p.kind).2.1 && !decide (p.n = 0) || decide ((patLM p.kind).2.2.2 = 0) && decide ((p.kids.length : Int) > 0) then 29
  else bif decide (p.kind = 4) && !conB p.name || (patLM p.kind).1 && !decide (p.kind = 4) && !lowB p.name then 8
  else bif (patLM p.kind).2.1 && !isIntB p.n then 2
  else bif decide ((p.kids.length : Int) < (patLM p.kind).2.2.1) || decide ((p.kids.length : Int) > (patLM p.kind).2.2.2) then 19 else 0
def wrongConB (c : Con) : Int :=
  bif !c.has && (!decide (c.arg.kind = 0) || !decide (c.arg.n = 0) || !decide (c.arg.name = []) || decide ((c.arg.args.length : Int) > 0)) then 29 else bif !capB c.name then 8 else 0
structure Has where
  name : Bool := false
  n : Bool := false
  cases : Bool := false
  decs : Bool := false
  least : Int := 0
  most : Int := 0
def expLM (k : Int) : Has :=
  bif decide (k = 1) then { n := true } else bif decide (k = 2) then { name := true } else bif decide (k = 3) then { name := true, most := 1 } else bif decide (k = 4) then { least := 2, most := 8 } else
  bif decide (k = 5) then { cases := true } else bif decide (k = 10) then { least := 2, most := 4611686018427387904 } else bif decide (k = 8) then { least := 3, most := 3 } else bif decide (k = 7) then { decs := true, least := 1, most := 1 } else
  bif decide (k = 9) || decide (k = 11) then { cases := true, least := 1, most := 1 } else bif decide (k = 12) || decide (k = 16) || decide (k = 17) || decide (k = 19) then { least := 1, most := 1 } else
  bif decide (k = 13) then { n := true, least := 2, most := 2 } else bif decide (k = 6) || decide (k = 14) || decide (k = 15) || decide (k = 18) then { least := 2, most := 2 } else {}
def wrongExpB (e : Exp) : Int :=
  bif decide (e.kind < 1) || decide (e.kind > 20) || !(expLM e.kind).name && !decide (e.name = []) || !(expLM e.kind).n && !decide (e.n = 0) || !(expLM e.kind).cases && decide ((e.cases.length : Int) > 0) || !(expLM e.kind).decs && decide ((e.decs.length : Int) > 0) || decide ((expLM e.kind).most = 0) && decide ((e.kids.length : Int) > 0) then 29
  else bif decide (e.kind = 2) && !lowB e.name || decide (e.kind = 3) && !conB e.name then 8
  else bif decide (e.kind = 1) && !isIntB e.n || decide (e.kind = 13) && (decide (e.n < 1) || decide (e.n > 9)) then 2
  else bif decide ((e.kids.length : Int) < (expLM e.kind).least) || decide ((e.kids.length : Int) > (expLM e.kind).most) || (expLM e.kind).cases && decide ((e.cases.length : Int) = 0) || (expLM e.kind).decs && decide ((e.decs.length : Int) = 0) then 19 else 0
def wrongDecC (k : Int) (nm : Str) (p nl nc nf : Int) (inn : Bool) : Int :=
  bif !(bif decide (k = 1) then !decide (nf > 0) && !(!decide (nm = []) || !decide (p = 0)) && !decide (nl > 0) else bif decide (k = 2) then !decide (nc > 0) && !(!decide (nm = []) || !decide (p = 0)) && !decide (nl > 0) else bif decide (k = 3) then !decide (nc > 0) && !decide (nf > 0) else bif decide (k = 4) then !decide (nc > 0) && !decide (nf > 0) && !(!decide (nm = []) || !decide (p = 0)) else false) || inn && !decide (k = 1) && !decide (k = 2) then 29
  else bif decide (k = 1) then (bif !decide (nc = 1) then 19 else 0)
  else bif decide (k = 2) then (bif !decide (nf > 0) then 19 else 0)
  else bif decide (k = 3) then (bif !lowB nm then 8 else bif !(decide (p ≥ 0) && decide (p ≤ 8) && decide (nl > 0) && decide (nl ≤ 64)) then 19 else 0)
  else bif decide (k = 4) then (bif !decide (nl = 1) then 19 else 0)
  else 0
def wrongDecB (d : Dec) (inn : Bool) : Int := wrongDecC d.kind d.name d.params d.cons.length d.case.length d.funs.length inn
/-! ### nodes -/
inductive TNode where
  | dec (inn : Bool) (d : Dec)
  | exp (e : Exp)
  | pat (p : Pat)
  | ty (t : Ty) (at_ : Int)
  | fn (f : Fun)
  | con (c : Con)
namespace TNode
def at_ : TNode → Int
  | dec _ d => d.at_
  | exp e => e.at_
  | pat p => p.at_
  | ty _ a => a
  | fn f => f.at_
  | con c => c.at_
/-- what is wrong with it alone, and its name -/
def wrong : TNode → Int × Str
  | dec inn d => (wrongDecB d inn, d.name)
  | exp e => (wrongExpB e, e.name)
  | pat p => (wrongPatB p, p.name)
  | ty t _ => (wrongTyB t, t.name)
  | fn f => (bif !lowB f.name then 8 else 0, f.name)
  | con c => (wrongConB c, c.name)
def name : TNode → Str
  | dec _ d => d.name
  | exp e => e.name
  | pat p => p.name
  | ty t _ => t.name
  | fn f => f.name
  | con c => c.name
/-- as the document's list holds it -/
def cells : TNode → List AV
  | dec inn d => .int .i64 1 :: .bool inn :: .int .i64 d.at_ :: (d.cells ++ (Exp.zero.cells ++ (Pat.zero.cells ++ (Ty.zero.cells ++ (Fun.zero.cells ++ Con.zero.cells)))))
  | exp e => .int .i64 2 :: .bool false :: .int .i64 e.at_ :: (Dec.zero.cells ++ (e.cells ++ (Pat.zero.cells ++ (Ty.zero.cells ++ (Fun.zero.cells ++ Con.zero.cells)))))
  | pat p => .int .i64 3 :: .bool false :: .int .i64 p.at_ :: (Dec.zero.cells ++ (Exp.zero.cells ++ (p.cells ++ (Ty.zero.cells ++ (Fun.zero.cells ++ Con.zero.cells)))))
  | ty t a => .int .i64 4 :: .bool false :: .int .i64 a :: (Dec.zero.cells ++ (Exp.zero.cells ++ (Pat.zero.cells ++ (t.cells ++ (Fun.zero.cells ++ Con.zero.cells)))))
  | fn f => .int .i64 5 :: .bool false :: .int .i64 f.at_ :: (Dec.zero.cells ++ (Exp.zero.cells ++ (Pat.zero.cells ++ (Ty.zero.cells ++ (f.cells ++ Con.zero.cells)))))
  | con c => .int .i64 6 :: .bool false :: .int .i64 c.at_ :: (Dec.zero.cells ++ (Exp.zero.cells ++ (Pat.zero.cells ++ (Ty.zero.cells ++ (Fun.zero.cells ++ c.cells)))))
abbrev enc (n : TNode) : AV := .agg n.cells
@[go_sem] theorem cells_len (n : TNode) : n.cells.length = 47 := by
  cases n <;> simp [go_sem, cells, Con.cells, Con.zero, Fun.zero, Case.zero, Exp.zero, Pat.zero, Ty.zero, Dec.zero]
def inn : TNode → Bool
  | dec i _ => i
  | _ => false
/-- numbers within their bounds -/
def ok : TNode → Prop
  | dec _ d => d.name.length < 2^40
  | exp e => e.name.length < 2^40 ∧ e.kids.length < 2^40 ∧ -9223372036854775808 ≤ e.n ∧ e.n ≤ 9223372036854775807
  | pat p => p.name.length < 2^40 ∧ -9223372036854775808 ≤ p.n ∧ p.n ≤ 9223372036854775807
  | ty t _ => t.name.length < 2^40
  | fn f => f.name.length < 2^40
  | con c => c.name.length < 2^40
end TNode
/-- what is wrong: which error, where, the name -/
structure TBad where
  kind : Int
  at_ : Int
  name : Str
  deriving DecidableEq
def TBad.cells (b : TBad) : List AV := [.int .i64 b.kind, .int .i64 b.at_, .str b.name]
abbrev TBad.enc (b : TBad) : AV := .agg b.cells
def TBad.zero : TBad := ⟨0, 0, []⟩
def mkBad (e at_ : Int) (nm : Str) : TBad := bif decide (e = 0) then .zero else ⟨e, at_, bif !decide (e = 8) then [] else nm⟩
def TNode.bad (n : TNode) : TBad := mkBad n.wrong.1 n.at_ n.wrong.2
/-! ### the nodes of a tree, in order -/
mutual
def nodesTy (a : Int) : Ty → List TNode
  | .mk k n s l b => .ty (.mk k n s l b) a :: nodesTys a l
def nodesTys (a : Int) : List Ty → List TNode
  | [] => []
  | t :: l => nodesTy a t ++ nodesTys a l
end
mutual
def nodesPat : Pat → List TNode
  | .mk k a s n l b => .pat (.mk k a s n l b) :: nodesPats l
def nodesPats : List Pat → List TNode
  | [] => []
  | t :: l => nodesPat t ++ nodesPats l
end
def nodesCon (c : Con) : List TNode := .con c :: (bif c.has then nodesTy c.at_ c.arg else [])
def nodesCons : List Con → List TNode
  | [] => []
  | c :: l => nodesCon c ++ nodesCons l
mutual
def nodesExp : Exp → List TNode
  | .mk k a s n l lb c cb d db => .exp (.mk k a s n l lb c cb d db) :: (nodesDecs true d ++ (nodesExps l ++ nodesCases c))
def nodesExps : List Exp → List TNode
  | [] => []
  | t :: l => nodesExp t ++ nodesExps l
def nodesCase : Case → List TNode
  | .mk p e => nodesPat p ++ nodesExp e
def nodesCases : List Case → List TNode
  | [] => []
  | t :: l => nodesCase t ++ nodesCases l
def nodesDec (inn : Bool) : Dec → List TNode
  | .mk k a s p l lb c cb f fb => .dec inn (.mk k a s p l lb c cb f fb) :: (nodesCases c ++ (nodesFuns f ++ nodesCons l))
def nodesDecs (inn : Bool) : List Dec → List TNode
  | [] => []
  | t :: l => nodesDec inn t ++ nodesDecs inn l
def nodesFun : Fun → List TNode
  | .mk s a c => .fn (.mk s a c) :: nodesCase c
def nodesFuns : List Fun → List TNode
  | [] => []
  | t :: l => nodesFun t ++ nodesFuns l
end
mutual
theorem nodesTy_len (a : Int) : ∀ t : Ty, (nodesTy a t).length = t.size
  | .mk k n s l b => by have := nodesTys_len a l; simp only [nodesTy, Ty.size, List.length_cons]; omega
theorem nodesTys_len (a : Int) : ∀ l : List Ty, (nodesTys a l).length = Ty.sizes l
  | [] => rfl
  | t :: l => by have h1 := nodesTy_len a t; have h2 := nodesTys_len a l; simp only [nodesTys, Ty.sizes, List.length_append]; omega
end
mutual
theorem nodesPat_len : ∀ t : Pat, (nodesPat t).length = t.size
  | .mk k a s n l b => by have := nodesPats_len l; simp only [nodesPat, Pat.size, List.length_cons]; omega
theorem nodesPats_len : ∀ l : List Pat, (nodesPats l).length = Pat.sizes l
  | [] => rfl
  | t :: l => by have h1 := nodesPat_len t; have h2 := nodesPats_len l; simp only [nodesPats, Pat.sizes, List.length_append]; omega
end
theorem nodesCon_len (c : Con) : (nodesCon c).length ≤ c.size := by
  have := nodesTy_len c.at_ c.arg
  unfold nodesCon Con.size
  cases c.has <;> simp only [cond_true, cond_false, List.length_cons, List.length_nil] <;> omega
theorem nodesCons_len : ∀ l : List Con, (nodesCons l).length ≤ Con.sizes l
  | [] => Nat.le_refl _
  | t :: l => by have h1 := nodesCon_len t; have h2 := nodesCons_len l; simp only [nodesCons, Con.sizes, List.length_append]; omega
mutual
theorem nodesExp_len : ∀ t : Exp, (nodesExp t).length ≤ t.size
  | .mk k a s n l lb c cb d db => by
    have h1 := nodesDecs_len true d; have h2 := nodesExps_len l; have h3 := nodesCases_len c
    simp only [nodesExp, Exp.size, List.length_cons, List.length_append]; omega
theorem nodesExps_len : ∀ l : List Exp, (nodesExps l).length ≤ Exp.sizes l
  | [] => by simp only [nodesExps, Exp.sizes]; exact Nat.le_refl _
  | t :: l => by have h1 := nodesExp_len t; have h2 := nodesExps_len l; simp only [nodesExps, Exp.sizes, List.length_append]; omega
theorem nodesCase_len : ∀ t : Case, (nodesCase t).length ≤ t.size
  | .mk p e => by have h1 := nodesPat_len p; have h2 := nodesExp_len e; simp only [nodesCase, Case.size, List.length_append]; omega
theorem nodesCases_len : ∀ l : List Case, (nodesCases l).length ≤ Case.sizes l
  | [] => by simp only [nodesCases, Case.sizes]; exact Nat.le_refl _
  | t :: l => by have h1 := nodesCase_len t; have h2 := nodesCases_len l; simp only [nodesCases, Case.sizes, List.length_append]; omega
theorem nodesDec_len (inn : Bool) : ∀ t : Dec, (nodesDec inn t).length ≤ t.size
  | .mk k a s p l lb c cb f fb => by
    have h1 := nodesCases_len c; have h2 := nodesFuns_len f; have h3 := nodesCons_len l
    simp only [nodesDec, Dec.size, List.length_cons, List.length_append]; omega
theorem nodesDecs_len (inn : Bool) : ∀ l : List Dec, (nodesDecs inn l).length ≤ Dec.sizes l
  | [] => by simp only [nodesDecs, Dec.sizes]; exact Nat.le_refl _
  | t :: l => by have h1 := nodesDec_len inn t; have h2 := nodesDecs_len inn l; simp only [nodesDecs, Dec.sizes, List.length_append]; omega
theorem nodesFun_len : ∀ t : Fun, (nodesFun t).length ≤ t.size
  | .mk s a c => by have h1 := nodesCase_len c; simp only [nodesFun, Fun.size, List.length_cons]; omega
theorem nodesFuns_len : ∀ l : List Fun, (nodesFuns l).length ≤ Fun.sizes l
  | [] => by simp only [nodesFuns, Fun.sizes]; exact Nat.le_refl _
  | t :: l => by have h1 := nodesFun_len t; have h2 := nodesFuns_len l; simp only [nodesFuns, Fun.sizes, List.length_append]; omega
end
/-! ### how deep -/
theorem maxI_le (a b c : Int) : a ≤ c → b ≤ c → maxI a b ≤ c := by unfold maxI; intros; split <;> omega
theorem le_maxI (a b : Int) : a ≤ maxI a b := by unfold maxI; split <;> omega
mutual
def deepTy : Ty → Int
  | .mk _ _ _ l _ => deepTys l 0 + 1
def deepTys : List Ty → Int → Int
  | [], n => n
  | t :: l, n => deepTys l (maxI n (deepTy t))
end
mutual
def deepPat : Pat → Int
  | .mk _ _ _ _ l _ => deepPats l 0 + 1
def deepPats : List Pat → Int → Int
  | [], n => n
  | t :: l, n => deepPats l (maxI n (deepPat t))
end
def deepCons : List Con → Int → Int
  | [], n => n
  | c :: l, n => deepCons l (bif c.has then maxI n (deepTy c.arg) else n)
mutual
def deepExp : Exp → Int
  | .mk _ _ _ _ l _ c _ d _ => deepExps l (maxI (deepDecs d 0) (deepCases c 0)) + 1
def deepExps : List Exp → Int → Int
  | [], n => n
  | t :: l, n => deepExps l (maxI n (deepExp t))
def deepCases : List Case → Int → Int
  | [], n => n
  | .mk p e :: l, n => deepCases l (maxI (maxI n (deepPat p)) (deepExp e))
def deepDecs : List Dec → Int → Int
  | [], n => n
  | .mk _ _ _ _ l _ c _ f _ :: r, n => deepDecs r (maxI n (deepCons l (deepFuns f (deepCases c 0)) + 1))
def deepFuns : List Fun → Int → Int
  | [], n => n
  | .mk _ _ c :: l, n => deepFuns l (maxI n (deepCase c))
def deepCase : Case → Int
  | .mk p e => maxI (maxI 0 (deepPat p)) (deepExp e)
end
mutual
theorem deepTy_le : ∀ t : Ty, 0 ≤ deepTy t ∧ deepTy t ≤ t.size
  | .mk _ _ _ l _ => by have := deepTys_le l 0; simp only [deepTy, Ty.size] at *; omega
theorem deepTys_le : ∀ (l : List Ty) (n : Int), n ≤ deepTys l n ∧ deepTys l n ≤ max n (Ty.sizes l)
  | [], n => by simp only [deepTys, Ty.sizes]; omega
  | t :: l, n => by
    have h1 := deepTy_le t
    have h2 := deepTys_le l (maxI n (deepTy t))
    simp only [deepTys, Ty.sizes, maxI] at *
    split at h2 <;> split <;> omega
end
mutual
theorem deepPat_le : ∀ t : Pat, 0 ≤ deepPat t ∧ deepPat t ≤ t.size
  | .mk _ _ _ _ l _ => by have := deepPats_le l 0; simp only [deepPat, Pat.size] at *; omega
theorem deepPats_le : ∀ (l : List Pat) (n : Int), n ≤ deepPats l n ∧ deepPats l n ≤ max n (Pat.sizes l)
  | [], n => by simp only [deepPats, Pat.sizes]; omega
  | t :: l, n => by
    have h1 := deepPat_le t
    have h2 := deepPats_le l (maxI n (deepPat t))
    simp only [deepPats, Pat.sizes, maxI] at *
    split at h2 <;> split <;> omega
end
theorem deepCons_le : ∀ (l : List Con) (n : Int), n ≤ deepCons l n ∧ deepCons l n ≤ max n (Con.sizes l)
  | [], n => by simp only [deepCons, Con.sizes]; omega
  | c :: l, n => by
    have h1 := deepTy_le c.arg
    have h2 := deepCons_le l (bif c.has then maxI n (deepTy c.arg) else n)
    simp only [deepCons, Con.sizes, Con.size, maxI] at *
    cases hc : c.has <;> simp only [hc, cond_true, cond_false] at h2 ⊢
    · omega
    · split at h2 <;> split <;> omega
mutual
theorem deepExp_le : ∀ t : Exp, 0 ≤ deepExp t ∧ deepExp t ≤ t.size
  | .mk _ _ _ _ l _ c _ d _ => by
    have h1 := deepDecs_le d 0
    have h2 := deepCases_le c 0
    have h3 := deepExps_le l (maxI (deepDecs d 0) (deepCases c 0))
    simp only [deepExp, Exp.size, maxI] at *
    split at h3 <;> split <;> omega
theorem deepExps_le : ∀ (l : List Exp) (n : Int), n ≤ deepExps l n ∧ deepExps l n ≤ max n (Exp.sizes l)
  | [], n => by simp only [deepExps, Exp.sizes]; omega
  | t :: l, n => by
    have h1 := deepExp_le t
    have h2 := deepExps_le l (maxI n (deepExp t))
    simp only [deepExps, Exp.sizes, maxI] at *
    split at h2 <;> split <;> omega
theorem deepCases_le : ∀ (l : List Case) (n : Int), n ≤ deepCases l n ∧ deepCases l n ≤ max n (Case.sizes l)
  | [], n => by simp only [deepCases, Case.sizes]; omega
  | .mk p e :: l, n => by
    have h1 := deepPat_le p
    have h3 := deepExp_le e
    have h2 := deepCases_le l (maxI (maxI n (deepPat p)) (deepExp e))
    have h4 := le_maxI n (deepPat p)
    have h5 := le_maxI (maxI n (deepPat p)) (deepExp e)
    have h6 := maxI_le n (deepPat p) (max n (p.size + e.size)) (by omega) (by omega)
    have h7 := maxI_le (maxI n (deepPat p)) (deepExp e) (max n (p.size + e.size)) (by omega) (by omega)
    simp only [deepCases, Case.sizes, Case.size] at *
    omega
theorem deepDecs_le : ∀ (l : List Dec) (n : Int), n ≤ deepDecs l n ∧ deepDecs l n ≤ max n (Dec.sizes l)
  | [], n => by simp only [deepDecs, Dec.sizes]; omega
  | .mk _ _ _ _ l _ c _ f _ :: r, n => by
    have h1 := deepCases_le c 0
    have h2 := deepFuns_le f (deepCases c 0)
    have h3 := deepCons_le l (deepFuns f (deepCases c 0))
    have h4 := deepDecs_le r (maxI n (deepCons l (deepFuns f (deepCases c 0)) + 1))
    have h5 := le_maxI n (deepCons l (deepFuns f (deepCases c 0)) + 1)
    have h6 := maxI_le n (deepCons l (deepFuns f (deepCases c 0)) + 1) (max n (Con.sizes l + Case.sizes c + Fun.sizes f + 1)) (by omega) (by omega)
    simp only [deepDecs, Dec.sizes, Dec.size] at *
    omega
theorem deepFuns_le : ∀ (l : List Fun) (n : Int), n ≤ deepFuns l n ∧ deepFuns l n ≤ max n (Fun.sizes l)
  | [], n => by simp only [deepFuns, Fun.sizes]; omega
  | .mk _ _ c :: l, n => by
    have h1 := deepCase_le c
    have h2 := deepFuns_le l (maxI n (deepCase c))
    simp only [deepFuns, Fun.sizes, Fun.size, maxI] at *
    split at h2 <;> split <;> omega
theorem deepCase_le : ∀ (c : Case), 0 ≤ deepCase c ∧ deepCase c ≤ c.size
  | .mk p e => by
    have h1 := deepPat_le p
    have h2 := deepExp_le e
    have h3 := le_maxI 0 (deepPat p)
    have h4 := le_maxI (maxI 0 (deepPat p)) (deepExp e)
    have h6 := maxI_le 0 (deepPat p) (p.size + e.size) (by omega) (by omega)
    have h7 := maxI_le (maxI 0 (deepPat p)) (deepExp e) (p.size + e.size) (by omega) (by omega)
    simp only [deepCase, Case.size]
    omega
end
/-! ### what is wrong first -/
end Go.Am

namespace Go.Am
open Go
section
variable {H : Type} {ti : TypeId → TI}
theorem conv_str {n : Nat} {t : TypeId} {d : DataW H} {l : List AV} (hk : (ti t).k = .str) (h : conv ti n t d = some l) : ∃ s, d = .lit (.string s) ∧ l = [.str s] := by
  cases n with
  | zero => simp [conv] at h
  | succ n =>
    simp only [conv, hk] at h
    split at h <;> first | (cases h; done) | skip
    all_goals try (rename_i hx; cases hx; done)
    rename_i s hx
    split at h
    · cases h
      exact ⟨s, rfl, rfl⟩
    · cases h
end
end Go.Am
namespace Go.Proofs.YtadhckhgemongaaDoor
open Go Go.Am
set_option linter.unusedVariables false
set_option maxRecDepth 4000
section
variable {H : Type}
def GTy (b : Nat) (t : Ty) : Prop := t.size ≤ b ∧ ∀ a, ∀ n ∈ nodesTy a t, n.ok
def GTys (b : Nat) (l : List Ty) : Prop := Ty.sizes l ≤ b ∧ ∀ a, ∀ n ∈ nodesTys a l, n.ok
theorem GTys.nil : GTys 0 [] := ⟨Nat.le_refl _, by simp [nodesTys]⟩
theorem GTys.cons (m k : Nat) (t : Ty) (L : List Ty) (h : GTy m t) (g : GTys k L) : GTys (m + k) (t :: L) := by
  refine ⟨by have := h.1; have := g.1; simp only [Ty.sizes]; omega, fun a n hn => ?_⟩
  simp only [nodesTys, List.mem_append] at hn
  rcases hn with hn | hn
  · exact h.2 a n hn
  · exact g.2 a n hn
def GPat (b : Nat) (t : Pat) : Prop := t.size ≤ b ∧ ∀ n ∈ nodesPat t, n.ok
def GPats (b : Nat) (l : List Pat) : Prop := Pat.sizes l ≤ b ∧ ∀ n ∈ nodesPats l, n.ok
theorem GPats.nil : GPats 0 [] := ⟨Nat.le_refl _, by simp [nodesPats]⟩
theorem GPats.cons (m k : Nat) (t : Pat) (L : List Pat) (h : GPat m t) (g : GPats k L) : GPats (m + k) (t :: L) := by
  refine ⟨by have := h.1; have := g.1; simp only [Pat.sizes]; omega, fun n hn => ?_⟩
  simp only [nodesPats, List.mem_append] at hn
  rcases hn with hn | hn
  · exact h.2 n hn
  · exact g.2 n hn
def GCon (b : Nat) (t : Con) : Prop := t.size ≤ b ∧ ∀ n ∈ nodesCon t, n.ok
def GCons (b : Nat) (l : List Con) : Prop := Con.sizes l ≤ b ∧ ∀ n ∈ nodesCons l, n.ok
theorem GCons.nil : GCons 0 [] := ⟨Nat.le_refl _, by simp [nodesCons]⟩
theorem GCons.cons (m k : Nat) (t : Con) (L : List Con) (h : GCon m t) (g : GCons k L) : GCons (m + k) (t :: L) := by
  refine ⟨by have := h.1; have := g.1; simp only [Con.sizes]; omega, fun n hn => ?_⟩
  simp only [nodesCons, List.mem_append] at hn
  rcases hn with hn | hn
  · exact h.2 n hn
  · exact g.2 n hn
def GExp (b : Nat) (t : Exp) : Prop := t.size ≤ b ∧ ∀ n ∈ nodesExp t, n.ok
def GExps (b : Nat) (l : List Exp) : Prop := Exp.sizes l ≤ b ∧ ∀ n ∈ nodesExps l, n.ok
def GCase (b : Nat) (t : Case) : Prop := t.size ≤ b ∧ ∀ n ∈ nodesCase t, n.ok
def GCases (b : Nat) (l : List Case) : Prop := Case.sizes l ≤ b ∧ ∀ n ∈ nodesCases l, n.ok
def GDec (b : Nat) (t : Dec) : Prop := t.size ≤ b ∧ ∀ i, ∀ n ∈ nodesDec i t, n.ok
def GDecs (b : Nat) (l : List Dec) : Prop := Dec.sizes l ≤ b ∧ ∀ i, ∀ n ∈ nodesDecs i l, n.ok
def GFun (b : Nat) (t : Fun) : Prop := t.size ≤ b ∧ ∀ n ∈ nodesFun t, n.ok
def GFuns (b : Nat) (l : List Fun) : Prop := Fun.sizes l ≤ b ∧ ∀ n ∈ nodesFuns l, n.ok
theorem GDecs.nil : GDecs 0 [] := ⟨by simp [Dec.sizes], by simp [nodesDecs]⟩
theorem GDecs.cons (m k : Nat) (t : Dec) (L : List Dec) (h : GDec m t) (g : GDecs k L) : GDecs (m + k) (t :: L) := by
  refine ⟨by have := h.1; have := g.1; simp only [Dec.sizes]; omega, fun i n hn => ?_⟩
  simp only [nodesDecs, List.mem_append] at hn
  rcases hn with hn | hn
  · exact h.2 i n hn
  · exact g.2 i n hn
theorem GExps.nil : GExps 0 [] := ⟨by simp [Exp.sizes], by simp [nodesExps]⟩
theorem GExps.cons (m k : Nat) (t : Exp) (L : List Exp) (h : GExp m t) (g : GExps k L) : GExps (m + k) (t :: L) := by
  refine ⟨by have := h.1; have := g.1; simp only [Exp.sizes]; omega, fun n hn => ?_⟩
  simp only [nodesExps, List.mem_append] at hn
  rcases hn with hn | hn
  · exact h.2 n hn
  · exact g.2 n hn
theorem GCases.nil : GCases 0 [] := ⟨by simp [Case.sizes], by simp [nodesCases]⟩
theorem GCases.cons (m k : Nat) (t : Case) (L : List Case) (h : GCase m t) (g : GCases k L) : GCases (m + k) (t :: L) := by
  refine ⟨by have := h.1; have := g.1; simp only [Case.sizes]; omega, fun n hn => ?_⟩
  simp only [nodesCases, List.mem_append] at hn
  rcases hn with hn | hn
  · exact h.2 n hn
  · exact g.2 n hn
theorem GFuns.nil : GFuns 0 [] := ⟨by simp [Fun.sizes], by simp [nodesFuns]⟩
theorem GFuns.cons (m k : Nat) (t : Fun) (L : List Fun) (h : GFun m t) (g : GFuns k L) : GFuns (m + k) (t :: L) := by
  refine ⟨by have := h.1; have := g.1; simp only [Fun.sizes]; omega, fun n hn => ?_⟩
  simp only [nodesFuns, List.mem_append] at hn
  rcases hn with hn | hn
  · exact h.2 n hn
  · exact g.2 n hn
end
end Go.Proofs.YtadhckhgemongaaDoor

namespace Go.Am
open Go Go.RowKit
section
variable {H : Type} {enc : TypeId × Value → H} {P : Program}
theorem Left0.cell {w w' : World} (h : Left0 w w') {b off : Nat} (hb : b < w.heap.size) : w'.cell? ⟨b, off, none⟩ = w.cell? ⟨b, off, none⟩ := by
  unfold World.cell?
  rw [h.heap b hb]
theorem Left0.sameAt {w w' : World} (h : Left0 w w') {p : MemPlace} (hp : p.block < w.heap.size) : w.sameAt w' p := by
  cases p with
  | cell b off => exact h.cell hp
  | map b => exact h.heap b hp
theorem Left0.kept {w w' : World} (h : Left0 w w') (may : MemPlace → Prop) : w.keptBut w' may := by
  refine ⟨h.os, h.output, fun i hi => ?_⟩
  rw [h.heap i hi]
  cases w.heap[i]? with
  | none => rfl
  | some o => cases o with
    | cells c t fr => exact ⟨rfl, rfl, rfl, fun _ _ => rfl⟩
    | map es clock => exact .inr ⟨rfl, rfl⟩
    | _ => rfl
theorem all_carry {w w' : World} {base : Nat} {spare : Nat → Bool} {held : Bool} : ∀ {ts : List TypeId} {vs : List Value} {ds : List (DataW H)} {ps : List MemPlace}, DataW.TrodAll enc P w base spare held ts vs ds ps → (∀ p ∈ ps, w.sameAt w' p) → DataW.TrodAll enc P w' base spare held ts vs ds ps
  | [], [], [], _, h, _ => h
  | t :: ts, v :: vs, d :: ds, _, h, hs => by
    obtain ⟨p, q, ⟨n, h1⟩, h2, rfl⟩ := h
    exact ⟨p, q, ⟨n, DataW.trod_carry n _ _ _ h1 fun x hx => hs x (List.mem_append_left _ hx)⟩, all_carry h2 fun x hx => hs x (List.mem_append_right _ hx), rfl⟩
/-- a law that is true, and leaves all that was there -/
theorem post_left {f : Func} {s : ChangeSpec} {apart fresh handsOn : Bool} {W W' : World} {args : Array Value} {v : Value} {ds gs : List (DataW H)} {before pv : List MemPlace}
    (hW : DataW.Whole enc P f.params.toList s.vars apart W args.toList ds gs before)
    (hres : ∀ (b : Nat) (sp : Nat → Bool) (hd : Bool), DataW.TrodAll enc P W' b sp hd f.resultTypes.toList (v.resultList f.resultTypes.size) (s.fn H (ds ++ gs)).results [])
    (hargs : ∀ sp : Nat → Bool, (∀ p ∈ before, sp p.block = true) → ∃ pa, DataW.TrodAll enc P W' 0 sp true f.params.toList args.toList (s.fn H (ds ++ gs)).args pa)
    (hvars : ∀ sp : Nat → Bool, DataW.TrodVars enc P W' sp s.vars (s.fn H (ds ++ gs)).vars pv) (hl : Left0 W W') :
    s.post enc P f apart fresh handsOn false W args v W' := by
  have hold : ∀ p ∈ before, (fun b => decide (b < W.heap.size)) p.block = true := fun p hp => by simpa using hW.lt p hp
  obtain ⟨pa, ha⟩ := hargs (fun b => decide (b < W.heap.size)) hold
  exact ⟨ds, gs, before, [], pa, pv, hW, hres _ _ _, ha, hvars _, hl.kept _, fun h => by cases h⟩
end
end Go.Am
namespace Go.Proofs.YtadhckhgemongaaDoor
open Go Go.Am Go.RowKit
set_option linter.unusedVariables false
theorem types : ∀ t, TyOK Tryd.prog C t := types_ok types_all fun t ht => by
  show tis.getD t {} = {}
  rw [List.getD_eq_getElem?_getD, List.getElem?_eq_none ht]
  rfl
theorem kids : Kids Tryd.prog (· < Tryd.prog.types.size) := kids_rows (by kernel_rfl) (by kernel_rfl)
theorem full : ∀ t e, t < Tryd.prog.types.size → Tryd.prog.underlying t = some (.slice e) → 0 < Tryd.prog.cellsOf e := fun t e ht hu => slices_full_of Tryd.prog (by kernel_rfl) t e ht hu
/-- the arguments read again -/
theorem again {H : Type} {enc : TypeId × Value → H} {W W' : World} {ts : List TypeId} {vs : List Value} {ds : List (DataW H)} {ps : List MemPlace} (hts : ∀ t ∈ ts, t < Tryd.prog.types.size) (h : DataW.TrodAll enc Tryd.prog W 0 (fun _ => true) true ts vs ds ps) (hl : Left0 W W') (hlt : ∀ p ∈ ps, p.block < W.heap.size)
    (sp : Nat → Bool) (hsp : ∀ p ∈ ps, sp p.block = true) : ∃ pa, DataW.TrodAll enc Tryd.prog W' 0 sp true ts vs ds pa :=
  ⟨ps, all_carry (DataW.TrodAll.respare kids full hts h hsp) fun p hp => hl.sameAt (hlt p hp)⟩
end Go.Proofs.YtadhckhgemongaaDoor

namespace Go.Proofs.YtadhckhgemongaaDoor
open Go Go.Am Go.RowKit
theorem arg_prim {P : Program} {W : World} {r : Reach} {base : Nat} {t : TypeId} {v : Value} (hu : (match P.underlying t with | some (.int _) | some .string | some .bool => true | _ => false) = true) (h : Value.okWide P W r base t v) : v.cells.toList = [v] := by
  cases hs : P.underlying t with
  | none => rw [hs] at hu; cases hu
  | some d =>
    rw [hs] at hu
    cases d <;> first | (cases hu; done) | (unfold Value.okWide at h; simp only [hs] at h; unfold Cell.okWide at h; simp only [hs] at h; cases v <;> first | rfl | (simp [Cell.ok, hs] at h))
theorem vrl_cons {κ : Kn} {a : AV} {l : List AV} {v : Value} {vs : List Value} (h : VR κ a v) (g : VRl κ l vs) : VRl κ (a :: l) (v :: vs) := ⟨v, vs, rfl, h, g⟩
end Go.Proofs.YtadhckhgemongaaDoor

namespace Go.Am
open Go
structure LTok where
  kind : Int
  pos : Int
  text : Str
  num : Int
  deriving Inhabited, DecidableEq
namespace LTok
def cells (t : LTok) : List AV := [.int .i64 t.kind, .int .i64 t.pos, .str t.text, .int .i64 t.num]
abbrev enc (t : LTok) : AV := .agg t.cells
@[go_sem] theorem cells_len (t : LTok) : t.cells.length = 4 := rfl
def zero : LTok := ⟨0, 0, [], 0⟩
end LTok
def digB (n : Int) : Bool := decide (n ≥ 48) && decide (n ≤ 57)
def firB (n : Int) : Bool := decide (n ≥ 97) && decide (n ≤ 122) || decide (n ≥ 65) && decide (n ≤ 90) || decide (n = 95)
def amoB (n : Int) : Bool := firB n || digB n || decide (n = 39)
def digC (c : UInt8) : Bool := digB c.toNat
def firC (c : UInt8) : Bool := firB c.toNat
def amoC (c : UInt8) : Bool := amoB c.toNat
def blankC (c : UInt8) : Bool := decide (c = 32) || decide (c = 9) || decide (c = 10) || decide (c = 13)
/-- where a remark ends -/
def lxCom : Int → Str → Option Nat
  | d, a :: b :: r => bif decide (a = 40) && decide (b = 42) then (lxCom (d + 1) r).map (· + 2)
    else bif decide (a = 42) && decide (b = 41) then (bif decide (d - 1 = 0) then some 2 else (lxCom (d - 1) r).map (· + 2))
    else (lxCom d (b :: r)).map (· + 1)
  | _, _ => none
theorem com_cons (d : Int) (a b : UInt8) (r : Str) : lxCom d (a :: b :: r) = bif decide (a = 40) && decide (b = 42) then (lxCom (d + 1) r).map (· + 2)
    else bif decide (a = 42) && decide (b = 41) then (bif decide (d - 1 = 0) then some 2 else (lxCom (d - 1) r).map (· + 2))
    else (lxCom d (b :: r)).map (· + 1) := by rw [lxCom]
def lxOpens (s : Str) : Bool := match s with
  | a :: b :: _ => decide (a = 40) && decide (b = 42)
  | _ => false
def lwords : List Str := [[97, 110, 100], [97, 110, 100, 97, 108, 115, 111], [97, 115], [99, 97, 115, 101], [100, 97, 116, 97, 116, 121, 112, 101], [100, 105, 118], [101, 108, 115, 101], [101, 110, 100], [101, 120, 99, 101, 112, 116, 105, 111, 110], [102, 110], [102, 117, 110], [104, 97, 110, 100, 108, 101], [105, 102], [105, 110], [108, 101, 116], [109, 111, 100], [111, 102], [111, 114, 101, 108, 115, 101], [112, 114, 105, 110, 116], [114, 97, 105, 115, 101], [114, 101, 97, 100], [114, 101, 102], [116, 104, 101, 110], [118, 97, 108]]
def lsigns : List Str := [[33], [40], [41], [42], [43], [44], [45], [45, 62], [58], [58, 61], [59], [60], [60, 61], [60, 62], [61], [61, 62], [95], [124], [126]]
def hasL (l : List Str) (x : Str) : Bool := l.any fun w => decide (x = w)
def numV : Int → Str → Int
  | acc, [] => acc
  | acc, c :: r => numV (10 * acc + ((c.toNat : Int) - 48)) r
def numA (t : Str) (b : Bool) : Int × Bool :=
  bif decide ((t.length : Int) > 1) && decide (t.headD 0 = 48) || decide ((t.length : Int) > 10) then (0, false)
  else (numV 0 t, decide (numV 0 t < 1073741824) || decide (numV 0 t = 1073741824) && b)
def namedA (t : Str) : Int :=
  bif hasL lwords t then 5
  else bif decide (t = [116, 114, 117, 101]) || decide (t = [102, 97, 108, 115, 101]) || decide (((t.headD 0).toNat : Int) ≥ 65) && decide (((t.headD 0).toNat : Int) ≤ 90) then 3 else 2
def signA (s : Str) : Str :=
  bif decide (2 ≤ s.length) && hasL lsigns (s.take 2) then s.take 2
  else bif decide (1 ≤ s.length) && hasL lsigns (s.take 1) then s.take 1 else []
def restA (s : Str) : Int × LTok := bif decide (signA s = []) then (11, .zero) else (0, ⟨6, 0, signA s, 0⟩)
def tyvA (u : Str) : Int × LTok := bif decide ((u.length : Int) - 1 > 32) then (4, .zero) else (0, ⟨4, 0, u, 0⟩)
/-- the token at the beginning of a text -/
def oneA (s : Str) (td : Bool) : Int × LTok :=
  bif digC (s.headD 0) then (bif (numA (s.takeWhile digC) td).2 then (0, ⟨1, 0, s.takeWhile digC, (numA (s.takeWhile digC) td).1⟩) else (13, .zero))
  else bif firC (s.headD 0) then (bif decide (s.takeWhile amoC = [95]) then restA s
    else bif decide (((s.takeWhile amoC).length : Int) > 32) then (4, .zero) else (0, ⟨namedA (s.takeWhile amoC), 0, s.takeWhile amoC, 0⟩))
  else bif decide (s.headD 0 = 39) && decide (1 < s.length) && firC ((s.drop 1).headD 0) then
    tyvA (s.take 1 ++ (s.drop 1).takeWhile amoC)
  else restA s
def tildeL (acc : List LTok) : Bool := decide (0 < acc.length) && decide ((acc.getLastD .zero).text = [126])
/-- the tokens from a place on; what is wrong first, and where -/
def scanF : Nat → Nat → Str → List LTok → List LTok × Int × Int
  | 0, _, _, acc => (acc, 0, 0)
  | _ + 1, _, [], acc => (acc, 0, 0)
  | n + 1, i, c :: r, acc =>
    bif blankC c then scanF n (i + 1) r acc
    else bif lxOpens (c :: r) then (match lxCom 0 (c :: r) with | some k => scanF n (i + k) ((c :: r).drop k) acc | none => ([], 12, (i : Int)))
    else bif decide (acc.length ≥ 16384) then ([], 4, (i : Int))
    else bif decide ((oneA (c :: r) (tildeL acc)).1 = 0) then scanF n (i + (oneA (c :: r) (tildeL acc)).2.text.length) ((c :: r).drop (oneA (c :: r) (tildeL acc)).2.text.length) (acc ++ [{ (oneA (c :: r) (tildeL acc)).2 with pos := (i : Int) }])
    else ([], (oneA (c :: r) (tildeL acc)).1, (i : Int))
def lxScan (s : Str) : List LTok × Int × Int := bif decide ((s.length : Int) > 65536) then ([], 4, 0) else scanF (s.length + 1) 0 s []
/-! ### what is cut off is there -/
theorem com_le : ∀ (s : Str) (d : Int) (k : Nat), lxCom d s = some k → 2 ≤ k ∧ k ≤ s.length
  | [], _, _, h => by simp [lxCom] at h
  | [_], _, _, h => by simp [lxCom] at h
  | a :: b :: r, d, k, h => by
    unfold lxCom at h
    cases h1 : decide (a = 40) && decide (b = 42)
    · rw [h1] at h
      simp only [cond_false] at h
      cases h2 : decide (a = 42) && decide (b = 41)
      · rw [h2] at h
        simp only [cond_false, Option.map_eq_some_iff] at h
        obtain ⟨j, hj, rfl⟩ := h
        have := com_le (b :: r) d j hj
        simp only [List.length_cons] at this ⊢
        omega
      · rw [h2] at h
        simp only [cond_true] at h
        cases h3 : decide (d - 1 = 0)
        · rw [h3] at h
          simp only [cond_false, Option.map_eq_some_iff] at h
          obtain ⟨j, hj, rfl⟩ := h
          have := com_le r (d - 1) j hj
          simp only [List.length_cons]
          omega
        · rw [h3] at h
          simp only [cond_true, Option.some.injEq] at h
          simp only [List.length_cons]
          omega
    · rw [h1] at h
      simp only [cond_true, Option.map_eq_some_iff] at h
      obtain ⟨j, hj, rfl⟩ := h
      have := com_le r (d + 1) j hj
      simp only [List.length_cons]
      omega
theorem takeWhile_length_le {α : Type} (p : α → Bool) (s : List α) : (s.takeWhile p).length ≤ s.length := (List.takeWhile_prefix p).length_le
theorem signA_pre (s : Str) : signA s <+: s := by
  unfold signA
  cases decide (2 ≤ s.length) && hasL lsigns (s.take 2)
  · cases decide (1 ≤ s.length) && hasL lsigns (s.take 1)
    · exact List.nil_prefix
    · exact List.take_prefix _ _
  · exact List.take_prefix _ _
/-- a token that is a piece of the text's beginning -/
def PreT (s : Str) (x : Int × LTok) : Prop := x.1 = 0 → x.2.text <+: s ∧ x.2.text ≠ [] ∧ x.2.pos = 0
theorem PreT.bif {s : Str} {b : Bool} {x y : Int × LTok} (hx : b = true → PreT s x) (hy : b = false → PreT s y) : PreT s (bif b then x else y) := by
  cases b
  · exact hy rfl
  · exact hx rfl
theorem PreT.bad {s : Str} {e : Int} {x : LTok} (h : e ≠ 0) : PreT s (e, x) := fun g => absurd g h
theorem PreT.rest (s : Str) : PreT s (restA s) := PreT.bif (fun _ => .bad (by decide)) (fun h _ => ⟨signA_pre s, of_decide_eq_false h, rfl⟩)
theorem oneA_pre (s : Str) (td : Bool) (hs : s ≠ []) : PreT s (oneA s td) := by
  obtain ⟨c, r, rfl⟩ := List.exists_cons_of_ne_nil hs
  refine .bif (fun h => .bif (fun _ _ => ⟨List.takeWhile_prefix _, ?_, rfl⟩) fun _ => .bad (by decide)) fun _ => .bif (fun h => .bif (fun _ => .rest _) fun _ => .bif (fun _ => .bad (by decide)) fun _ _ => ⟨List.takeWhile_prefix _, ?_, rfl⟩) fun _ => .bif (fun h => .bif (fun _ => .bad (by decide)) fun _ _ => ⟨?_, by simp, rfl⟩) fun _ => .rest _
  · have h : digC c = true := h
    simp [List.takeWhile_cons, h]
  · have h : firC c = true := h
    have : amoC c = true := by unfold amoC amoB; unfold firC at h; rw [h]; rfl
    simp [List.takeWhile_cons, this]
  · simp only [List.take_succ_cons, List.take_zero, List.drop_succ_cons, List.drop_zero, List.cons_append, List.nil_append]
    exact (List.prefix_cons_inj _).2 (List.takeWhile_prefix _)
end Go.Am

namespace Go.Proofs.YtadhckhgemongaaDoor
open Go Go.Am
set_option linter.unusedVariables false
theorem bound_some {i n most : Nat} (h : i ≤ most) : bound (some (.val (.int .i64 (i : Int)))) n most = some i := by
  unfold bound; simp only []; rw [if_pos ⟨by omega, by omega⟩]; simp
theorem sliceS_from {t : TI} (hk : t.k = .str) {l : Str} {i : Nat} (h : i ≤ l.length) : sliceS t 0 (.val (.str l)) (some (.val (.int .i64 (i : Int)))) none none = some (.val (.str (l.drop i))) := by
  simp only [sliceS, hk, bound_some h, show bound none l.length l.length = some l.length from rfl, List.take_length]
theorem sliceS_to {t : TI} (hk : t.k = .str) {l : Str} {i : Nat} (h : i ≤ l.length) : sliceS t 0 (.val (.str l)) none (some (.val (.int .i64 (i : Int)))) none = some (.val (.str (l.take i))) := by
  simp only [sliceS, hk, bound_some h, show bound none 0 i = some 0 from rfl, List.drop_zero]
theorem sliceS_mid {t : TI} (hk : t.k = .str) {l : Str} {i j : Nat} (h : i ≤ j) (h' : j ≤ l.length) : sliceS t 0 (.val (.str l)) (some (.val (.int .i64 (i : Int)))) (some (.val (.int .i64 (j : Int)))) none = some (.val (.str ((l.take j).drop i))) := by
  simp only [sliceS, hk, bound_some h', bound_some h]
theorem mid_app (pre suf : Str) (k : Nat) : ((pre ++ suf).take (pre.length + k)).drop pre.length = suf.take k := by
  rw [List.take_length_add_append, List.drop_left]
def badEnc (k p : Int) : AV := .agg [.int .i64 k, .int .i64 p, .str []]
theorem words_slice : sliceA 24 (C.ti T_string) (.val (.cp glob0)) none none none = some (.val (.sl (lwords.map .str))) := by
  have : rows (C.ti T_string) 24 glob0 = some (lwords.map .str) := by kernel_rfl
  simp only [sliceA, T_string_size, show Nat.beq 1 0 = false from rfl, cond_false, show bound none 24 24 = some 24 from rfl, show bound none 0 24 = some 0 from rfl, this]
  rfl
theorem signs_slice : sliceA 19 (C.ti T_string) (.val (.cp glob1)) none none none = some (.val (.sl (lsigns.map .str))) := by
  have : rows (C.ti T_string) 19 glob1 = some (lsigns.map .str) := by kernel_rfl
  simp only [sliceA, T_string_size, show Nat.beq 1 0 = false from rfl, cond_false, show bound none 19 19 = some 19 from rfl, show bound none 0 19 = some 0 from rfl, this]
  rfl
end Go.Proofs.YtadhckhgemongaaDoor

namespace Go.Am
open Go Go.RowKit
section
variable {C : Cfg} {κ : Kn} {B : Nat} {s : St} {w w' : World}
theorem Inv.below (h : Inv C κ B s w) (hb : Below w.heap.size w w') : Inv C κ B s w' := by
  refine ⟨fun b o u hu => ?_, fun l x hx => ?_, h.locn, fun k L hk => ?_, h.tokn, h.locinj, h.tokinj, h.loctok, h.locim⟩
  · rw [hb.cell (p := ⟨b, o, none⟩) (h.im_lt hu)]
    exact h.im b o u hu
  · obtain ⟨b, o, h1, h2, h3, h4⟩ := h.locs l x hx
    exact ⟨b, o, h1, h2, by rw [hb.block b (Array.getElem?_eq_some_iff.1 h3).1]; exact h3, h4⟩
  · obtain ⟨e, v, xs, g, h1, h2, h3, h4, h5, h6, h7⟩ := h.toks k L hk
    refine ⟨e, v, xs, g, h1, h2.kept (row := none) ⟨hb.os, hb.tape, hb.output, hb.size, fun i hi _ => hb.block i hi⟩ (.inr (by simp [h3])), h3, h4, h5, h6, h7⟩
theorem Mv.below (h : Inv C κ B s w) (hb : Below w.heap.size w w') : Mv κ κ w w' :=
  ⟨.refl κ, hb.os, hb.tape, hb.output, hb.size, fun b h' _ => hb.block b h', fun _ h => .inl h, fun _ _ _ h _ _ => h⟩
theorem vrl_of_get : ∀ {l : List AV} {cs : List Value}, l.length = cs.length → (∀ (i : Nat) (a : AV) (v : Value), l[i]? = some a → cs[i]? = some v → VR κ a v) → VRl κ l cs
  | [], cs, h, _ => by simp only [List.length_nil] at h; simp only [VRl]; exact List.length_eq_zero_iff.1 h.symm
  | a :: l, [], h, _ => by simp at h
  | a :: l, v :: cs, h, g => by
    simp only [VRl]
    exact ⟨v, cs, rfl, g 0 a v rfl rfl, vrl_of_get (by simpa using h) fun i x y hx hy => g (i + 1) x y (by simpa using hx) (by simpa using hy)⟩
/-- an array of strings -/
theorem strs_conv {H : Type} {enc : TypeId × Value → H} {P : Program} {base : Nat} {sp : Nat → Bool} {held : Bool} {n fuel : Nat} {t e : TypeId} {cs : List Value} {d : DataW H} {ps : List MemPlace}
    (hu : P.underlying t = some (.array n e)) (he : P.underlying e = some .string) (h1 : P.cellsOf e = 1) (hn : P.cellsOf t = n) (h : DataW.trod enc P w base sp held fuel t cs = some (d, ps)) (l : List (List UInt8)) (hd : d = .agg (l.map fun s => .lit (.string s))) (κ : Kn) :
    VRl κ (l.map AV.str) cs ∧ Ones cs := by
  obtain ⟨xs, m, rfl, hx, hc, hxn, hel⟩ := DataW.trod_array hu h
  simp only [Prod.mk.injEq] at hx
  obtain ⟨hx1, -⟩ := hx
  rw [hd] at hx1
  have hx2 : l.map (fun s => (DataW.lit (.string s) : DataW H)) = xs.map (·.1) := by simpa using hx1
  have hll : l.length = n := by have := congrArg List.length hx2; simp at this; omega
  have hcl : cs.length = n := by rw [hc, hn]
  have key : ∀ (i : Nat) (v : Value), cs[i]? = some v → ∃ b : ByteArray, v = .string b ∧ l[i]? = some b.data.toList := by
    intro i v hv
    have hi : i < n := by rw [← hcl]; exact (List.getElem?_eq_some_iff.1 hv).1
    have ht := hel i hi
    rw [h1, Nat.mul_one] at ht
    have hi2 : i < xs.length := by rw [hxn]; exact hi
    rw [List.getElem?_eq_getElem hi2] at ht
    obtain ⟨b, hb1, hb2, -⟩ := DataW.trod_string he ht
    have hv2 : (cs.drop i).take 1 = [v] := by
      have hlt := (List.getElem?_eq_some_iff.1 hv).1
      rw [List.drop_eq_getElem_cons hlt, List.take_succ_cons, List.take_zero]
      rw [List.getElem?_eq_getElem hlt] at hv
      rw [Option.some.inj hv]
    rw [hv2] at hb1
    cases hb1
    refine ⟨b, rfl, ?_⟩
    have hg := congrArg (fun q => q[i]?) hx2
    simp only [List.getElem?_map, List.getElem?_eq_getElem hi2, Option.map_some, hb2] at hg
    cases hli : l[i]? with
    | none => rw [hli] at hg; simp at hg
    | some y => rw [hli] at hg; simp at hg; rw [hg]
  refine ⟨vrl_of_get (by simp [hll, hcl]) fun i a v ha hv => ?_, fun v hv => ?_⟩
  · obtain ⟨b, rfl, hb⟩ := key i v hv
    rw [List.getElem?_map, hb] at ha
    cases ha
    simp only [VR]
    exact ⟨b, rfl, rfl⟩
  · obtain ⟨i, hi⟩ := List.mem_iff_getElem?.1 hv
    obtain ⟨b, rfl, -⟩ := key i v hi
    rfl
theorem strL_vr : ∀ {l : List AV} {ss : List (List UInt8)} {vs : List Value}, strL l = some ss → VRl κ (flat l) vs → ∃ xs : List ByteArray, vs = xs.map Value.string ∧ xs.map (·.data.toList) = ss ∧ l.length = xs.length
  | [], ss, vs, h, hv => by
    simp only [strL, Option.some.injEq] at h
    subst h
    simp only [flat, List.flatMap_nil, VRl] at hv
    exact ⟨[], hv, rfl, rfl⟩
  | .str a :: r, ss, vs, h, hv => by
    simp only [strL] at h
    cases hr : strL r with
    | none => rw [hr] at h; cases h
    | some q =>
      rw [hr] at h
      cases h
      rw [show flat (.str a :: r) = .str a :: flat r from rfl] at hv
      simp only [VRl, VR] at hv
      obtain ⟨u, us, rfl, ⟨x, hx, rfl⟩, hus⟩ := hv
      obtain ⟨xs, h1, h2, h3⟩ := strL_vr hr hus
      exact ⟨x :: xs, by rw [h1]; rfl, by simp [hx, h2], by simp [h3]⟩
end
end Go.Am
namespace Go.Proofs.YtadhckhgemongaaDoor
open Go Go.Am Go.RowKit
set_option linter.unusedVariables false
theorem glob_words : glob0 = lwords.map AV.str := by kernel_rfl
theorem glob_signs : glob1 = lsigns.map AV.str := by kernel_rfl
def laidL : List (String × DataW Unit) := [("camlet/lex.words", Rows.laid_camlet_lex_words), ("camlet/lex.signs", Rows.laid_camlet_lex_signs)]
theorem gWords : Tryd.prog.globalNamed "camlet/lex.words" = some 0 := by kernel_rfl
theorem gSigns : Tryd.prog.globalNamed "camlet/lex.signs" = some 1 := by kernel_rfl
theorem globOK {W : World} (h : laidMetH Tryd.prog laidL W) : GlobOK C (kn0 W) := by
  rw [MakeChecks.laidMetH_plain _ _ _ (by kernel_rfl)] at h
  obtain ⟨ps, ⟨g0, t0, cs0, f0, p0, q0, hg0, ht0, hv0, hd0, ⟨g1, t1, cs1, f1, p1, q1, hg1, ht1, hv1, hd1, _, _⟩, _⟩, _, _⟩ := h
  obtain rfl := Option.some.inj (gWords.symm.trans hg0)
  obtain rfl := Option.some.inj (gSigns.symm.trans hg1)
  obtain rfl := Option.some.inj ((show (Tryd.prog.globals[0]?).map (·.type) = some 47 by kernel_rfl).symm.trans ht0)
  obtain rfl := Option.some.inj ((show (Tryd.prog.globals[1]?).map (·.type) = some 48 by kernel_rfl).symm.trans ht1)
  refine ⟨fun g l hg => ?_, fun g hg => by cases hg⟩
  have w0 := strs_conv (n := 24) (t := 47) (e := T_string) (by kernel_rfl) (by kernel_rfl) (by kernel_rfl) (by kernel_rfl) hd0 lwords (by kernel_rfl) (kn0 W)
  have w1 := strs_conv (n := 19) (t := 48) (e := T_string) (by kernel_rfl) (by kernel_rfl) (by kernel_rfl) (by kernel_rfl) hd1 lsigns (by kernel_rfl) (kn0 W)
  have hc0 := World.var?_cell hg0 hv0
  have hc1 := World.var?_cell hg1 hv1
  change (bif Nat.beq g 0 then some glob0 else bif Nat.beq g 1 then some glob1 else none) = some l at hg
  cases h0 : Nat.beq g 0 with
  | true =>
    rw [h0] at hg
    cases hg
    obtain rfl := Nat.eq_of_beq_eq_true h0
    rw [glob_words]
    simp only [VR]
    exact ⟨⟨0, 0, none⟩, cs0.toList, rfl, rfl, fun j u hj => by
      simp only [kn0, Nat.zero_add]
      rw [hc0, ← Array.getElem?_toList]; exact hj, w0.2, w0.1⟩
  | false =>
    rw [h0] at hg
    cases h1 : Nat.beq g 1 with
    | true =>
      rw [h1] at hg
      cases hg
      obtain rfl := Nat.eq_of_beq_eq_true h1
      rw [glob_signs]
      simp only [VR]
      exact ⟨⟨1, 0, none⟩, cs1.toList, rfl, rfl, fun j u hj => by
        simp only [kn0, Nat.zero_add]
        rw [hc1, ← Array.getElem?_toList]; exact hj, w1.2, w1.1⟩
    | false => rw [h1] at hg; cases hg
theorem ext_C (f : Nat) (g : List AV → Option AV) (h : C.ext f = some g) : (f = F_strings_IndexByte ∧ g = extIndexByte) ∨ (f = F_strings_Join ∧ g = extJoin) := by
  change findExt f exts = some g at h
  unfold exts findExt at h
  cases hf : Nat.beq f F_strings_IndexByte with
  | true =>
    rw [hf] at h
    exact .inl ⟨Nat.eq_of_beq_eq_true hf, (Option.some.inj h).symm⟩
  | false =>
    rw [hf] at h
    unfold findExt at h
    cases hf2 : Nat.beq f F_strings_Join with
    | true =>
      rw [hf2] at h
      exact .inr ⟨Nat.eq_of_beq_eq_true hf2, (Option.some.inj h).symm⟩
    | false => rw [hf2] at h; cases h
theorem codeOK : CodeOK Tryd.prog C where
  ty := types
  code := code_ok rfl codes_all
  ext := by
    intro f g l v hf hg κ B s w vs hi hG hB hv
    rcases ext_C f g hf with ⟨rfl, rfl⟩ | ⟨rfl, rfl⟩
    · unfold extIndexByte at hg
      split at hg
      · rename_i str c
        cases hg
        obtain ⟨v1, r1, rfl, h1, v2, r2, rfl, h2, h3⟩ := hv
        simp only [VRl] at h3
        subst h3
        simp only [VR] at h1 h2
        obtain ⟨z1, rfl, rfl⟩ := h1
        subst h2
        have he := enters_of Tryd.func18 (by kernel_rfl) (c := body Tryd.f18) (by kernel_rfl) #[.string z1, .int .u8 c] w
        refine .inr ⟨he, (callsIn_wide (n := 0).2 (Tryd.strings_IndexByte z1 c w)).mono fun e w' h => ?_⟩
        obtain ⟨h4, h5⟩ := h
        subst h4
        subst h5
        exact ⟨κ, .refl _ _, hi, by simp only [OutR, SR, VR]⟩
      · cases hg
    · unfold extJoin at hg
      split at hg
      · rename_i x sep
        obtain ⟨v1, r1, rfl, h1, v2, r2, rfl, h2, h3⟩ := hv
        simp only [VRl] at h3
        subst h3
        simp only [VR] at h2
        obtain ⟨z2, rfl, rfl⟩ := h2
        split at hg
        · rename_i l hl
          split at hg
          · rename_i ss hss
            split at hg
            · rename_i hlen
              cases hg
              have none' : ∀ (a : Option Addr) (c : Nat), ss = [] → v1 = .slice a 0 c → Called Tryd.prog F_strings_Join #[v1, .string z2] w (CPost C κ B w (.ret (.val (.str (Go.Lib.join ss z2.data.toList)))) s) := fun a c e1 e2 => by
                subst e1 e2
                have he := enters_of Tryd.func25 (by kernel_rfl) (c := body Tryd.f25) (by kernel_rfl) #[.slice a 0 c, .string z2] w
                refine .inr ⟨he, (callsIn_wide (n := 0).2 (Tryd.strings_Join_none a c z2 w)).mono fun e w' h => ?_⟩
                obtain ⟨h4, h5⟩ := h
                subst h4
                subst h5
                refine ⟨κ, .refl _ _, hi, ?_⟩
                simp only [OutR, SR, VR]
                exact ⟨_, rfl, rfl⟩
              cases x <;> simp only [Slot.list?] at hl <;> first | cases hl | skip
              · simp only [VR] at h1
                cases hss
                exact none' _ _ rfl h1
              · obtain ⟨a, n, c, rfl, g1, g2, g3, sz, us, g4, g5, g6, g7⟩ := VR_sl.1 h1
                obtain ⟨xs, rfl, hxs, hxl⟩ := strL_vr hss g7
                rcases Nat.eq_zero_or_pos n with hn | hn
                · subst hn
                  have : ss = [] := by
                    rw [← hxs, List.map_eq_nil_iff]
                    exact List.length_eq_zero_iff.1 (by omega)
                  exact none' _ _ this rfl
                · obtain ⟨bk, o, spot⟩ := a
                  have hsp := g3 hn
                  simp only at hsp
                  subst hsp
                  have hcells : ∀ (j : Nat) (y : ByteArray), xs[j]? = some y → w.cell? ⟨bk, o + j, none⟩ = some (.string y) := fun j y hy => hi.im _ _ _ (g5 j (.string y) (by rw [List.getElem?_map, hy]; rfl))
                  have hbk : bk < w.heap.size := by
                    have h0 : 0 < xs.length := by omega
                    exact hi.im_lt (g5 0 (.string xs[0]) (by rw [List.getElem?_map, List.getElem?_eq_getElem h0]; rfl))
                  have hlen2 : ss.length = xs.length := by rw [← hxs]; simp
                  have hnx : n = xs.length := by omega
                  subst hnx
                  have he := enters_of Tryd.func25 (by kernel_rfl) (c := body Tryd.f25) (by kernel_rfl) #[.slice (some ⟨bk, o, none⟩) xs.length c, .string z2] w
                  refine .inr ⟨he, (callsIn_wide (n := 0).2 (Tryd.strings_Join bk o c xs z2 w hcells hbk (by omega) g2 (by rw [hxs]; exact hlen.2))).mono fun e w' h => ?_⟩
                  obtain ⟨h4, h5⟩ := h
                  subst h4
                  refine ⟨κ, Mv.below hi h5, hi.below h5, ?_⟩
                  simp only [OutR, SR, VR]
                  exact ⟨_, by rw [hxs], rfl⟩
            · cases hg
          · cases hg
        · cases hg
      · cases hg
end Go.Proofs.YtadhckhgemongaaDoor

namespace Go.Proofs.YtadhckhgemongaaDoor
open Go Go.Am
set_option linter.unusedVariables false
theorem lex_digit_spec (n : Int) (s : St) : cw (.f F_lex_digit) [.int .u8 n] s = some (.ret (.val (.bool (digB n))), s) := by
  rw [lex_digit_eq]; simp only [go_sem, Nat.reduceAdd, Nat.reduceLeDiff, Nat.reduceSub, Nat.reduceMul, Nat.reduceEqDiff, Int.reduceEq, Int.reduceLT, Int.reduceLE, Int.reduceAdd, Int.reduceSub, Int.reduceNeg, Int.reduceGT, Int.reduceGE, Int.reduceNe, ne_eq, not_false_eq_true]; rfl
theorem lex_first_spec (n : Int) (s : St) : cw (.f F_lex_first) [.int .u8 n] s = some (.ret (.val (.bool (firB n))), s) := by
  rw [lex_first_eq]; simp only [go_sem, Nat.reduceAdd, Nat.reduceLeDiff, Nat.reduceSub, Nat.reduceMul, Nat.reduceEqDiff, Int.reduceEq, Int.reduceLT, Int.reduceLE, Int.reduceAdd, Int.reduceSub, Int.reduceNeg, Int.reduceGT, Int.reduceGE, Int.reduceNe, ne_eq, not_false_eq_true]; rfl
theorem lex_among_spec (n : Int) (s : St) : cw (.f F_lex_among) [.int .u8 n] s = some (.ret (.val (.bool (amoB n))), s) := by
  rw [lex_among_eq]; simp only [go_sem, Nat.reduceAdd, Nat.reduceLeDiff, Nat.reduceSub, Nat.reduceMul, Nat.reduceEqDiff, Int.reduceEq, Int.reduceLT, Int.reduceLE, Int.reduceAdd, Int.reduceSub, Int.reduceNeg, Int.reduceGT, Int.reduceGE, Int.reduceNe, ne_eq, not_false_eq_true, lex_first_spec, lex_digit_spec]
  unfold amoB
  cases firB n <;> cases digB n <;> rfl
theorem upto_loop (F : Nat) (p : Int → Bool) (hF : ∀ n s, cw (.f F) [.int .u8 n] s = some (.ret (.val (.bool (p n))), s)) (L : Str) (hl : L.length < 2^62) : ∀ (suf pre : Str) (s : St) (i : Nat), pre ++ suf = L → i = pre.length →
    lex_one_1_l0 (.val (.fn F [])) (.val (.cp [.str L])) (.val (.int .i64 (i : Int))) s = some (.ret (.val (.str (pre ++ suf.takeWhile fun c => p c.toNat))), s) := by
  intro suf
  induction suf with
  | nil =>
    intro pre s i h hi
    rw [List.append_nil] at h
    subst h hi
    rw [lex_one_1_l0_eq]
    simp only [go_sem, Nat.reduceAdd, Nat.reduceLeDiff, Nat.reduceSub, Nat.reduceMul, Nat.reduceEqDiff, Int.reduceEq, Int.reduceLT, Int.reduceLE, Int.reduceAdd, Int.reduceSub, Int.reduceNeg, Int.reduceGT, Int.reduceGE, Int.reduceNe, ne_eq, not_false_eq_true, Int.lt_irrefl, sliceS_to T_string_k (Nat.le_refl pre.length)]
    simp
  | cons c suf ih =>
    intro pre s i h hi
    subst hi
    have hc : L[pre.length]? = some c := by rw [← h]; simp
    have hlt : pre.length < L.length := by rw [← h]; simp
    have := ih (pre ++ [c]) s (pre ++ [c]).length (by simp [h]) rfl
    rw [lex_one_1_l0_eq]
    have hb : decide ((pre.length : Int) < (L.length : Int)) = true := by simpa using hlt
    simp only [go_sem, Nat.reduceAdd, Nat.reduceLeDiff, Nat.reduceSub, Nat.reduceMul, Nat.reduceEqDiff, Int.reduceEq, Int.reduceLT, Int.reduceLE, Int.reduceAdd, Int.reduceSub, Int.reduceNeg, Int.reduceGT, Int.reduceGE, Int.reduceNe, ne_eq, not_false_eq_true, hb, indexS_str T_string_k hc, hF]
    rw [wrap64 (by omega) (by omega)]
    have e : (pre.length : Int) + 1 = ((pre ++ [c]).length : Int) := by simp
    rw [e, this, List.takeWhile_cons]
    cases hp : p c.toNat
    · simp only [go_sem, Nat.reduceAdd, Nat.reduceLeDiff, Nat.reduceSub, Nat.reduceMul, Nat.reduceEqDiff, Int.reduceEq, Int.reduceLT, Int.reduceLE, Int.reduceAdd, Int.reduceSub, Int.reduceNeg, Int.reduceGT, Int.reduceGE, Int.reduceNe, ne_eq, not_false_eq_true, sliceS_to T_string_k (Nat.le_of_lt hlt)]
      rw [← h]; simp
    · simp only [go_sem, Nat.reduceAdd, Nat.reduceLeDiff, Nat.reduceSub, Nat.reduceMul, Nat.reduceEqDiff, Int.reduceEq, Int.reduceLT, Int.reduceLE, Int.reduceAdd, Int.reduceSub, Int.reduceNeg, Int.reduceGT, Int.reduceGE, Int.reduceNe, ne_eq, not_false_eq_true]
theorem upto_spec (F : Nat) (p : Int → Bool) (hF : ∀ n s, cw (.f F) [.int .u8 n] s = some (.ret (.val (.bool (p n))), s)) (pre suf : Str) (i : Nat) (hi : i = pre.length) (hl : (pre ++ suf).length < 2^62) (s : St) :
    cw (.f F_lex_one_1) [.int .i64 (i : Int), .fn F [], .cp [.str (pre ++ suf)]] s = some (.ret (.val (.str (pre ++ suf.takeWhile fun c => p c.toNat))), s) := by
  rw [lex_one_1_eq]
  exact upto_loop F p hF (pre ++ suf) hl suf pre s i rfl hi
theorem index_loop (x : Str) (L : List Str) (hl : L.length < 2^62) : ∀ (suf pre : List Str) (s : St) (i : Nat), pre ++ suf = L → i = pre.length →
    ∃ k : Int, slices_Index_Sstring_string_l0 (.val (.sl (L.map .str))) (.val (.str x)) (.val (.int .i64 L.length)) (.val (.int .i64 (i : Int))) s = some (.ret (.val (.int .i64 k)), s) ∧ decide (k ≥ 0) = hasL suf x := by
  intro suf
  induction suf with
  | nil =>
    intro pre s i h hi
    rw [List.append_nil] at h
    subst h hi
    rw [slices_Index_Sstring_string_l0_eq]
    simp only [go_sem, Nat.reduceAdd, Nat.reduceLeDiff, Nat.reduceSub, Nat.reduceMul, Nat.reduceEqDiff, Int.reduceEq, Int.reduceLT, Int.reduceLE, Int.reduceAdd, Int.reduceSub, Int.reduceNeg, Int.reduceGT, Int.reduceGE, Int.reduceNe, ne_eq, not_false_eq_true, Int.lt_irrefl]
    exact ⟨-1, rfl, rfl⟩
  | cons c suf ih =>
    intro pre s i h hi
    subst hi
    obtain ⟨f1, f2, f3⟩ := step_facts (f := AV.str) (x := .val (.sl (L.map .str))) (sz := 1) rfl h hl rfl (by decide)
    obtain ⟨k, h1, h2⟩ := ih (pre ++ [c]) s (pre.length + 1) (by simp [h]) (by simp)
    rw [slices_Index_Sstring_string_l0_eq]
    simp only [go_sem, Nat.reduceAdd, Nat.reduceLeDiff, Nat.reduceSub, Nat.reduceMul, Nat.reduceEqDiff, Int.reduceEq, Int.reduceLT, Int.reduceLE, Int.reduceAdd, Int.reduceSub, Int.reduceNeg, Int.reduceGT, Int.reduceGE, Int.reduceNe, ne_eq, not_false_eq_true, f1, f2, f3]
    rw [h1]
    simp only [hasL, List.any_cons]
    by_cases hx : x = c
    · subst hx
      simp only [go_sem, Nat.reduceAdd, Nat.reduceLeDiff, Nat.reduceSub, Nat.reduceMul, Nat.reduceEqDiff, Int.reduceEq, Int.reduceLT, Int.reduceLE, Int.reduceAdd, Int.reduceSub, Int.reduceNeg, Int.reduceGT, Int.reduceGE, Int.reduceNe, ne_eq, not_false_eq_true]
      exact ⟨_, rfl, by simp⟩
    · simp only [go_sem, Nat.reduceAdd, Nat.reduceLeDiff, Nat.reduceSub, Nat.reduceMul, Nat.reduceEqDiff, Int.reduceEq, Int.reduceLT, Int.reduceLE, Int.reduceAdd, Int.reduceSub, Int.reduceNeg, Int.reduceGT, Int.reduceGE, Int.reduceNe, ne_eq, not_false_eq_true, hx]
      exact ⟨k, rfl, h2⟩
theorem contains_spec (x : Str) (L : List Str) (hl : L.length < 2^62) (s : St) : cw (.f F_slices_Contains_Sstring_string) [.sl (L.map .str), .str x] s = some (.ret (.val (.bool (hasL L x))), s) := by
  rw [slices_Contains_Sstring_string_eq]
  obtain ⟨k, h1, h2⟩ := index_loop x L hl L [] s 0 rfl rfl
  have hi : cw (.f F_slices_Index_Sstring_string) [.sl (L.map .str), .str x] s = some (.ret (.val (.int .i64 k)), s) := by
    rw [slices_Index_Sstring_string_eq]
    simp only [go_sem, Nat.reduceAdd, Nat.reduceLeDiff, Nat.reduceSub, Nat.reduceMul, Nat.reduceEqDiff, Int.reduceEq, Int.reduceLT, Int.reduceLE, Int.reduceAdd, Int.reduceSub, Int.reduceNeg, Int.reduceGT, Int.reduceGE, Int.reduceNe, ne_eq, not_false_eq_true]
    exact h1
  simp only [go_sem, Nat.reduceAdd, Nat.reduceLeDiff, Nat.reduceSub, Nat.reduceMul, Nat.reduceEqDiff, Int.reduceEq, Int.reduceLT, Int.reduceLE, Int.reduceAdd, Int.reduceSub, Int.reduceNeg, Int.reduceGT, Int.reduceGE, Int.reduceNe, ne_eq, not_false_eq_true, hi, h2]
theorem hasPrefix_spec (a b : Str) (s : St) : cw (.f F_strings_HasPrefix) [.str a, .str b] s = some (.ret (.val (.bool (decide (b.length ≤ a.length) && decide (a.take b.length = b)))), s) := by
  have h : cw (.f F_internal_stringslite_HasPrefix) [.str a, .str b] s = some (.ret (.val (.bool (decide (b.length ≤ a.length) && decide (a.take b.length = b)))), s) := by
    rw [internal_stringslite_HasPrefix_eq]
    by_cases hb : b.length ≤ a.length
    · have hb' : decide ((a.length : Int) ≥ (b.length : Int)) = true := by simpa using hb
      simp only [go_sem, Nat.reduceAdd, Nat.reduceLeDiff, Nat.reduceSub, Nat.reduceMul, Nat.reduceEqDiff, Int.reduceEq, Int.reduceLT, Int.reduceLE, Int.reduceAdd, Int.reduceSub, Int.reduceNeg, Int.reduceGT, Int.reduceGE, Int.reduceNe, ne_eq, not_false_eq_true, hb', hb, sliceS_to T_string_k hb]
    · have hb' : decide ((a.length : Int) ≥ (b.length : Int)) = false := by simpa using hb
      simp only [go_sem, Nat.reduceAdd, Nat.reduceLeDiff, Nat.reduceSub, Nat.reduceMul, Nat.reduceEqDiff, Int.reduceEq, Int.reduceLT, Int.reduceLE, Int.reduceAdd, Int.reduceSub, Int.reduceNeg, Int.reduceGT, Int.reduceGE, Int.reduceNe, ne_eq, not_false_eq_true, hb', hb]
  rw [strings_HasPrefix_eq]
  simp only [go_sem, Nat.reduceAdd, Nat.reduceLeDiff, Nat.reduceSub, Nat.reduceMul, Nat.reduceEqDiff, Int.reduceEq, Int.reduceLT, Int.reduceLE, Int.reduceAdd, Int.reduceSub, Int.reduceNeg, Int.reduceGT, Int.reduceGE, Int.reduceNe, ne_eq, not_false_eq_true, h]
theorem indexByte_spec (a : Str) (c : UInt8) (s : St) : cw (.f F_strings_IndexByte) [.str a, .int .u8 c.toNat] s = some (.ret (.val (.int .i64 (Go.Lib.indexByte a c))), s) := by
  have e : C.ext F_strings_IndexByte = some extIndexByte := by kernel_rfl
  rw [cw, callw_f]; unfold callR; rw [e]; simp [extIndexByte]
theorem blank_eq (c : UInt8) : decide (Go.Lib.indexByte [32, 9, 10, 13] c ≥ 0) = blankC c := by
  simp only [Go.Lib.indexByte, blankC]
  by_cases h1 : c = 32
  · subst h1; rfl
  by_cases h2 : c = 9
  · subst h2; rfl
  by_cases h3 : c = 10
  · subst h3; rfl
  by_cases h4 : c = 13
  · subst h4; rfl
  have g : ∀ x : UInt8, c ≠ x → (x == c) = false := fun x h => by simp [Ne.symm h]
  simp [g _ h1, g _ h2, g _ h3, g _ h4, h1, h2, h3, h4]
theorem remark_loop (L : Str) (hl : L.length < 2^61) : ∀ (suf pre : Str) (d : Int) (s : St) (i : Nat), pre ++ suf = L → i = pre.length → -(pre.length : Int) ≤ d → d ≤ pre.length →
    lex_remark_l0 (.val (.str L)) (.val (.int .i64 (i : Int))) (.val (.int .i64 d)) s = some (.ret (.val (.int .i64 (match lxCom d suf with | some k => ((i + k : Nat) : Int) | none => -1))), s) := by
  intro suf
  generalize hn : suf.length = n
  induction n using Nat.strongRecOn generalizing suf with
  | ind n ih =>
    intro pre d s i h hi hd1 hd2
    subst hi
    have hL : pre.length + suf.length = L.length := by rw [← h]; simp
    rw [lex_remark_l0_eq]
    match suf, hn, h, hL with
    | [], _, h, hL =>
      simp only [List.length_nil, Nat.add_zero] at hL
      simp only [go_sem, Nat.reduceAdd, Nat.reduceLeDiff, Nat.reduceSub, Nat.reduceMul, Nat.reduceEqDiff, Int.reduceEq, Int.reduceLT, Int.reduceLE, Int.reduceAdd, Int.reduceSub, Int.reduceNeg, Int.reduceGT, Int.reduceGE, Int.reduceNe, ne_eq, not_false_eq_true]
      rw [wrap64 (by omega) (by omega)]
      have hb : decide ((pre.length : Int) + 1 < (L.length : Int)) = false := by simp; omega
      simp only [go_sem, Nat.reduceAdd, Nat.reduceLeDiff, Nat.reduceSub, Nat.reduceMul, Nat.reduceEqDiff, Int.reduceEq, Int.reduceLT, Int.reduceLE, Int.reduceAdd, Int.reduceSub, Int.reduceNeg, Int.reduceGT, Int.reduceGE, Int.reduceNe, ne_eq, not_false_eq_true, hb, lxCom]
    | [_], _, h, hL =>
      simp only [List.length_cons, List.length_nil] at hL
      simp only [go_sem, Nat.reduceAdd, Nat.reduceLeDiff, Nat.reduceSub, Nat.reduceMul, Nat.reduceEqDiff, Int.reduceEq, Int.reduceLT, Int.reduceLE, Int.reduceAdd, Int.reduceSub, Int.reduceNeg, Int.reduceGT, Int.reduceGE, Int.reduceNe, ne_eq, not_false_eq_true]
      rw [wrap64 (by omega) (by omega)]
      have hb : decide ((pre.length : Int) + 1 < (L.length : Int)) = false := by simp; omega
      simp only [go_sem, Nat.reduceAdd, Nat.reduceLeDiff, Nat.reduceSub, Nat.reduceMul, Nat.reduceEqDiff, Int.reduceEq, Int.reduceLT, Int.reduceLE, Int.reduceAdd, Int.reduceSub, Int.reduceNeg, Int.reduceGT, Int.reduceGE, Int.reduceNe, ne_eq, not_false_eq_true, hb, lxCom]
    | a :: b :: r, hn, h, hL =>
      simp only [List.length_cons] at hL hn
      simp only [go_sem, Nat.reduceAdd, Nat.reduceLeDiff, Nat.reduceSub, Nat.reduceMul, Nat.reduceEqDiff, Int.reduceEq, Int.reduceLT, Int.reduceLE, Int.reduceAdd, Int.reduceSub, Int.reduceNeg, Int.reduceGT, Int.reduceGE, Int.reduceNe, ne_eq, not_false_eq_true]
      rw [wrap64 (by omega) (by omega), wrap64 (by omega) (by omega)]
      have hb : decide ((pre.length : Int) + 1 < (L.length : Int)) = true := by simp; omega
      have hs := sliceS_mid (t := C.ti T_string) T_string_k (l := L) (i := pre.length) (j := pre.length + 2) (by omega) (by omega)
      have ht : (L.take (pre.length + 2)).drop pre.length = [a, b] := by rw [← h, mid_app]; rfl
      rw [ht] at hs
      have e2 : (pre.length : Int) + 2 = ((pre.length + 2 : Nat) : Int) := by omega
      rw [e2]
      simp only [go_sem, Nat.reduceAdd, Nat.reduceLeDiff, Nat.reduceSub, Nat.reduceMul, Nat.reduceEqDiff, Int.reduceEq, Int.reduceLT, Int.reduceLE, Int.reduceAdd, Int.reduceSub, Int.reduceNeg, Int.reduceGT, Int.reduceGE, Int.reduceNe, ne_eq, not_false_eq_true, hb, hs]
      rw [wrap64 (by omega) (by omega), wrap64 (by omega) (by omega)]
      have i1 := ih r.length (by omega) r rfl (pre ++ [a, b]) (d + 1) s (pre.length + 2) (by simp [h]) (by simp) (by simp; omega) (by simp; omega)
      have i2 := ih r.length (by omega) r rfl (pre ++ [a, b]) (d - 1) s (pre.length + 2) (by simp [h]) (by simp) (by simp; omega) (by simp; omega)
      have i3 := ih (r.length + 1) (by omega) (b :: r) (by simp) (pre ++ [a]) d s (pre.length + 1) (by simp [h]) (by simp) (by simp; omega) (by simp; omega)
      have e1 : (pre.length : Int) + 1 = ((pre.length + 1 : Nat) : Int) := by omega
      rw [e1, i1, i2, i3]
      rw [com_cons]
      have c1 : decide ([a, b] = [40, 42]) = (decide (a = 40) && decide (b = 42)) := by simp [Bool.decide_and]
      have c2 : decide ([a, b] = [42, 41]) = (decide (a = 42) && decide (b = 41)) := by simp [Bool.decide_and]
      rw [c1, c2]
      cases decide (a = 40) && decide (b = 42)
      · cases decide (a = 42) && decide (b = 41)
        · simp only [go_sem, Nat.reduceAdd, Nat.reduceLeDiff, Nat.reduceSub, Nat.reduceMul, Nat.reduceEqDiff, Int.reduceEq, Int.reduceLT, Int.reduceLE, Int.reduceAdd, Int.reduceSub, Int.reduceNeg, Int.reduceGT, Int.reduceGE, Int.reduceNe, ne_eq, not_false_eq_true]
          cases lxCom d (b :: r) <;> simp only [go_sem, Nat.reduceAdd, Nat.reduceLeDiff, Nat.reduceSub, Nat.reduceMul, Nat.reduceEqDiff, Int.reduceEq, Int.reduceLT, Int.reduceLE, Int.reduceAdd, Int.reduceSub, Int.reduceNeg, Int.reduceGT, Int.reduceGE, Int.reduceNe, ne_eq, not_false_eq_true]
          simp; omega
        · simp only [go_sem, Nat.reduceAdd, Nat.reduceLeDiff, Nat.reduceSub, Nat.reduceMul, Nat.reduceEqDiff, Int.reduceEq, Int.reduceLT, Int.reduceLE, Int.reduceAdd, Int.reduceSub, Int.reduceNeg, Int.reduceGT, Int.reduceGE, Int.reduceNe, ne_eq, not_false_eq_true]
          cases decide (d - 1 = 0)
          · simp only [go_sem, Nat.reduceAdd, Nat.reduceLeDiff, Nat.reduceSub, Nat.reduceMul, Nat.reduceEqDiff, Int.reduceEq, Int.reduceLT, Int.reduceLE, Int.reduceAdd, Int.reduceSub, Int.reduceNeg, Int.reduceGT, Int.reduceGE, Int.reduceNe, ne_eq, not_false_eq_true]
            cases lxCom (d - 1) r <;> simp only [go_sem, Nat.reduceAdd, Nat.reduceLeDiff, Nat.reduceSub, Nat.reduceMul, Nat.reduceEqDiff, Int.reduceEq, Int.reduceLT, Int.reduceLE, Int.reduceAdd, Int.reduceSub, Int.reduceNeg, Int.reduceGT, Int.reduceGE, Int.reduceNe, ne_eq, not_false_eq_true]
            simp; omega
          · simp only [go_sem, Nat.reduceAdd, Nat.reduceLeDiff, Nat.reduceSub, Nat.reduceMul, Nat.reduceEqDiff, Int.reduceEq, Int.reduceLT, Int.reduceLE, Int.reduceAdd, Int.reduceSub, Int.reduceNeg, Int.reduceGT, Int.reduceGE, Int.reduceNe, ne_eq, not_false_eq_true]
      · simp only [go_sem, Nat.reduceAdd, Nat.reduceLeDiff, Nat.reduceSub, Nat.reduceMul, Nat.reduceEqDiff, Int.reduceEq, Int.reduceLT, Int.reduceLE, Int.reduceAdd, Int.reduceSub, Int.reduceNeg, Int.reduceGT, Int.reduceGE, Int.reduceNe, ne_eq, not_false_eq_true]
        cases lxCom (d + 1) r <;> simp only [go_sem, Nat.reduceAdd, Nat.reduceLeDiff, Nat.reduceSub, Nat.reduceMul, Nat.reduceEqDiff, Int.reduceEq, Int.reduceLT, Int.reduceLE, Int.reduceAdd, Int.reduceSub, Int.reduceNeg, Int.reduceGT, Int.reduceGE, Int.reduceNe, ne_eq, not_false_eq_true]
        simp; omega
theorem lex_remark_spec (pre suf : Str) (hl : (pre ++ suf).length < 2^61) (s : St) : cw (.f F_lex_remark) [.str (pre ++ suf), .int .i64 (pre.length : Int)] s = some (.ret (.val (.int .i64 (match lxCom 0 suf with | some k => ((pre.length + k : Nat) : Int) | none => -1))), s) := by
  rw [lex_remark_eq]
  exact remark_loop (pre ++ suf) hl suf pre 0 s pre.length rfl rfl (by omega) (by omega)
end Go.Proofs.YtadhckhgemongaaDoor
