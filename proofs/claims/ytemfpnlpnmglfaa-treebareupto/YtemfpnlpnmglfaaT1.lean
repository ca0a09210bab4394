/- The program's trees: types, patterns, expressions, declarations; as the machine holds them. -/
import Derived.Test.YtemfpnlpnmglfaaA26
set_option linter.unusedVariables false
set_option linter.unusedSimpArgs false
namespace Go.Am
open Go

abbrev Str := List UInt8

/-! ### types -/

inductive Ty where
  | mk (kind n : Int) (name : Str) (args : List Ty) (nl : Bool)
  deriving Inhabited

namespace Ty
def kind : Ty → Int | mk k _ _ _ _ => k
def n : Ty → Int | mk _ n _ _ _ => n
def name : Ty → Str | mk _ _ s _ _ => s
def args : Ty → List Ty | mk _ _ _ l _ => l
def nl : Ty → Bool | mk _ _ _ _ b => b
mutual
def cells : Ty → List AV
  | mk k n s l b => [.int .i64 k, .int .i64 n, .str s, encS b (encs l)]
def encs : List Ty → List AV
  | [] => []
  | t :: l => .agg t.cells :: encs l
end
abbrev enc (t : Ty) : AV := .agg t.cells
theorem encs_map : ∀ l : List Ty, encs l = l.map enc
  | [] => rfl
  | t :: l => by rw [encs, encs_map l]; rfl
theorem cells_eq (t : Ty) : t.cells = [.int .i64 t.kind, .int .i64 t.n, .str t.name, encS t.nl (t.args.map enc)] := by
  cases t; rw [cells, encs_map]; rfl
@[go_sem] theorem cells_mk (k n : Int) (s : Str) (l : List Ty) (b : Bool) : (mk k n s l b).cells = [.int .i64 k, .int .i64 n, .str s, encS b (l.map enc)] := cells_eq _
@[go_sem] theorem cells_len (t : Ty) : t.cells.length = 4 := by rw [cells_eq]; rfl
mutual
def size : Ty → Nat
  | mk _ _ _ l _ => sizes l + 1
def sizes : List Ty → Nat
  | [] => 0
  | t :: l => t.size + sizes l
end
def zero : Ty := mk 0 0 [] [] true
end Ty

/-! ### patterns -/

inductive Pat where
  | mk (kind at_ : Int) (name : Str) (n : Int) (kids : List Pat) (kb : Bool)
  deriving Inhabited

namespace Pat
def kind : Pat → Int | mk k _ _ _ _ _ => k
def at_ : Pat → Int | mk _ a _ _ _ _ => a
def name : Pat → Str | mk _ _ s _ _ _ => s
def n : Pat → Int | mk _ _ _ n _ _ => n
def kids : Pat → List Pat | mk _ _ _ _ l _ => l
def kb : Pat → Bool | mk _ _ _ _ _ b => b
mutual
def cells : Pat → List AV
  | mk k a s n l b => [.int .i64 k, .int .i64 a, .str s, .int .i64 n, encS b (encs l)]
def encs : List Pat → List AV
  | [] => []
  | t :: l => .agg t.cells :: encs l
end
abbrev enc (t : Pat) : AV := .agg t.cells
theorem encs_map : ∀ l : List Pat, encs l = l.map enc
  | [] => rfl
  | t :: l => by rw [encs, encs_map l]; rfl
theorem cells_eq (t : Pat) : t.cells = [.int .i64 t.kind, .int .i64 t.at_, .str t.name, .int .i64 t.n, encS t.kb (t.kids.map enc)] := by
  cases t; rw [cells, encs_map]; rfl
@[go_sem] theorem cells_mk (k a : Int) (s : Str) (n : Int) (l : List Pat) (b : Bool) : (mk k a s n l b).cells = [.int .i64 k, .int .i64 a, .str s, .int .i64 n, encS b (l.map enc)] := cells_eq _
@[go_sem] theorem cells_len (t : Pat) : t.cells.length = 5 := by rw [cells_eq]; rfl
mutual
def size : Pat → Nat
  | mk _ _ _ _ l _ => sizes l + 1
def sizes : List Pat → Nat
  | [] => 0
  | t :: l => t.size + sizes l
end
def zero : Pat := mk 0 0 [] 0 [] true
end Pat

/-! ### constructors -/

structure Con where
  name : Str
  at_ : Int
  has : Bool
  arg : Ty
  deriving Inhabited

namespace Con
def cells (c : Con) : List AV := .str c.name :: .int .i64 c.at_ :: .bool c.has :: c.arg.cells
abbrev enc (c : Con) : AV := .agg c.cells
@[go_sem] theorem cells_len (c : Con) : c.cells.length = 7 := by simp [go_sem, cells]
def size (c : Con) : Nat := c.arg.size + 1
def sizes : List Con → Nat
  | [] => 0
  | c :: l => c.size + sizes l
def zero : Con := ⟨[], 0, false, .zero⟩
end Con

/-! ### expressions, declarations -/

mutual
inductive Exp where
  | mk (kind at_ : Int) (name : Str) (n : Int) (kids : List Exp) (kb : Bool) (cases : List Case) (cb : Bool) (decs : List Dec) (db : Bool)
inductive Case where
  | mk (pat : Pat) (exp : Exp)
inductive Dec where
  | mk (kind at_ : Int) (name : Str) (params : Int) (cons : List Con) (nb : Bool) (case : List Case) (cb : Bool) (funs : List Fun) (fb : Bool)
inductive Fun where
  | mk (name : Str) (at_ : Int) (case : Case)
end

namespace Exp
def kind : Exp → Int | mk k _ _ _ _ _ _ _ _ _ => k
def at_ : Exp → Int | mk _ a _ _ _ _ _ _ _ _ => a
def name : Exp → Str | mk _ _ s _ _ _ _ _ _ _ => s
def n : Exp → Int | mk _ _ _ n _ _ _ _ _ _ => n
def kids : Exp → List Exp | mk _ _ _ _ l _ _ _ _ _ => l
def kb : Exp → Bool | mk _ _ _ _ _ b _ _ _ _ => b
def cases : Exp → List Case | mk _ _ _ _ _ _ c _ _ _ => c
def cb : Exp → Bool | mk _ _ _ _ _ _ _ b _ _ => b
def decs : Exp → List Dec | mk _ _ _ _ _ _ _ _ d _ => d
def db : Exp → Bool | mk _ _ _ _ _ _ _ _ _ b => b
end Exp
namespace Case
def pat : Case → Pat | mk p _ => p
def exp : Case → Exp | mk _ e => e
end Case
namespace Dec
def kind : Dec → Int | mk k _ _ _ _ _ _ _ _ _ => k
def at_ : Dec → Int | mk _ a _ _ _ _ _ _ _ _ => a
def name : Dec → Str | mk _ _ s _ _ _ _ _ _ _ => s
def params : Dec → Int | mk _ _ _ p _ _ _ _ _ _ => p
def cons : Dec → List Con | mk _ _ _ _ l _ _ _ _ _ => l
def nb : Dec → Bool | mk _ _ _ _ _ b _ _ _ _ => b
def case : Dec → List Case | mk _ _ _ _ _ _ c _ _ _ => c
def cb : Dec → Bool | mk _ _ _ _ _ _ _ b _ _ => b
def funs : Dec → List Fun | mk _ _ _ _ _ _ _ _ f _ => f
def fb : Dec → Bool | mk _ _ _ _ _ _ _ _ _ b => b
end Dec
namespace Fun
def name : Fun → Str | mk s _ _ => s
def at_ : Fun → Int | mk _ a _ => a
def case : Fun → Case | mk _ _ c => c
end Fun

mutual
def Exp.cells : Exp → List AV
  | .mk k a s n l kb c cb d db => [.int .i64 k, .int .i64 a, .str s, .int .i64 n, encS kb (Exp.encs l), encS cb (Case.encs c), encS db (Dec.encs d)]
def Exp.encs : List Exp → List AV
  | [] => []
  | t :: l => .agg t.cells :: Exp.encs l
def Case.cells : Case → List AV
  | .mk p e => p.cells ++ e.cells
def Case.encs : List Case → List AV
  | [] => []
  | t :: l => .agg t.cells :: Case.encs l
def Dec.cells : Dec → List AV
  | .mk k a s p l nb c cb f fb => [.int .i64 k, .int .i64 a, .str s, .int .i64 p, encS nb (l.map Con.enc), encS cb (Case.encs c), encS fb (Fun.encs f)]
def Dec.encs : List Dec → List AV
  | [] => []
  | t :: l => .agg t.cells :: Dec.encs l
def Fun.cells : Fun → List AV
  | .mk s a c => .str s :: .int .i64 a :: c.cells
def Fun.encs : List Fun → List AV
  | [] => []
  | t :: l => .agg t.cells :: Fun.encs l
end
abbrev Exp.enc (t : Exp) : AV := .agg t.cells
abbrev Case.enc (t : Case) : AV := .agg t.cells
abbrev Dec.enc (t : Dec) : AV := .agg t.cells
abbrev Fun.enc (t : Fun) : AV := .agg t.cells
theorem Exp.encs_map : ∀ l : List Exp, Exp.encs l = l.map Exp.enc
  | [] => by rw [Exp.encs]; rfl
  | t :: l => by rw [Exp.encs, Exp.encs_map l]; rfl
theorem Case.encs_map : ∀ l : List Case, Case.encs l = l.map Case.enc
  | [] => by rw [Case.encs]; rfl
  | t :: l => by rw [Case.encs, Case.encs_map l]; rfl
theorem Dec.encs_map : ∀ l : List Dec, Dec.encs l = l.map Dec.enc
  | [] => by rw [Dec.encs]; rfl
  | t :: l => by rw [Dec.encs, Dec.encs_map l]; rfl
theorem Fun.encs_map : ∀ l : List Fun, Fun.encs l = l.map Fun.enc
  | [] => by rw [Fun.encs]; rfl
  | t :: l => by rw [Fun.encs, Fun.encs_map l]; rfl
@[go_sem] theorem Exp.cells_mk (k a : Int) (s : Str) (n : Int) (l : List Exp) (kb : Bool) (c : List Case) (cb : Bool) (d : List Dec) (db : Bool) : (Exp.mk k a s n l kb c cb d db).cells = [.int .i64 k, .int .i64 a, .str s, .int .i64 n, encS kb (l.map Exp.enc), encS cb (c.map Case.enc), encS db (d.map Dec.enc)] := by
  rw [Exp.cells, Exp.encs_map, Case.encs_map, Dec.encs_map]
@[go_sem] theorem Case.cells_mk (p : Pat) (e : Exp) : (Case.mk p e).cells = p.cells ++ e.cells := by rw [Case.cells]
@[go_sem] theorem Dec.cells_mk (k a : Int) (s : Str) (p : Int) (l : List Con) (nb : Bool) (c : List Case) (cb : Bool) (f : List Fun) (fb : Bool) : (Dec.mk k a s p l nb c cb f fb).cells = [.int .i64 k, .int .i64 a, .str s, .int .i64 p, encS nb (l.map Con.enc), encS cb (c.map Case.enc), encS fb (f.map Fun.enc)] := by
  rw [Dec.cells, Case.encs_map, Fun.encs_map]
@[go_sem] theorem Fun.cells_mk (s : Str) (a : Int) (c : Case) : (Fun.mk s a c).cells = .str s :: .int .i64 a :: c.cells := by rw [Fun.cells]
theorem Exp.cells_eq (t : Exp) : t.cells = [.int .i64 t.kind, .int .i64 t.at_, .str t.name, .int .i64 t.n, encS t.kb (t.kids.map Exp.enc), encS t.cb (t.cases.map Case.enc), encS t.db (t.decs.map Dec.enc)] := by
  cases t; rw [Exp.cells_mk]; rfl
theorem Dec.cells_eq (t : Dec) : t.cells = [.int .i64 t.kind, .int .i64 t.at_, .str t.name, .int .i64 t.params, encS t.nb (t.cons.map Con.enc), encS t.cb (t.case.map Case.enc), encS t.fb (t.funs.map Fun.enc)] := by
  cases t; rw [Dec.cells_mk]; rfl
theorem Case.cells_eq (t : Case) : t.cells = t.pat.cells ++ t.exp.cells := by cases t; rw [Case.cells_mk]; rfl
theorem Fun.cells_eq (t : Fun) : t.cells = .str t.name :: .int .i64 t.at_ :: t.case.cells := by cases t; rw [Fun.cells_mk]; rfl
@[go_sem] theorem Exp.cells_len (t : Exp) : t.cells.length = 7 := by rw [Exp.cells_eq]; rfl
@[go_sem] theorem Dec.cells_len (t : Dec) : t.cells.length = 7 := by rw [Dec.cells_eq]; rfl
@[go_sem] theorem Case.cells_len (t : Case) : t.cells.length = 12 := by rw [Case.cells_eq]; simp [go_sem]
@[go_sem] theorem Fun.cells_len (t : Fun) : t.cells.length = 14 := by rw [Fun.cells_eq]; simp [go_sem]

mutual
def Exp.size : Exp → Nat
  | .mk _ _ _ _ l _ c _ d _ => Exp.sizes l + Case.sizes c + Dec.sizes d + 1
def Exp.sizes : List Exp → Nat
  | [] => 0
  | t :: l => t.size + Exp.sizes l
def Case.size : Case → Nat
  | .mk p e => p.size + e.size + 1
def Case.sizes : List Case → Nat
  | [] => 0
  | t :: l => t.size + Case.sizes l
def Dec.size : Dec → Nat
  | .mk _ _ _ _ l _ c _ f _ => Con.sizes l + Case.sizes c + Fun.sizes f + 1
def Dec.sizes : List Dec → Nat
  | [] => 0
  | t :: l => t.size + Dec.sizes l
def Fun.size : Fun → Nat
  | .mk _ _ c => c.size + 1
def Fun.sizes : List Fun → Nat
  | [] => 0
  | t :: l => t.size + Fun.sizes l
end

def Exp.zero : Exp := .mk 0 0 [] 0 [] true [] true [] true
def Case.zero : Case := .mk .zero .zero
def Dec.zero : Dec := .mk 0 0 [] 0 [] true [] true [] true
def Fun.zero : Fun := .mk [] 0 .zero

theorem Ty.len_sizes : ∀ l : List Ty, l.length ≤ Ty.sizes l
  | [] => Nat.le_refl _
  | .mk _ _ _ _ _ :: l => by have := Ty.len_sizes l; simp only [Ty.sizes, Ty.size, List.length_cons]; omega
theorem Pat.len_sizes : ∀ l : List Pat, l.length ≤ Pat.sizes l
  | [] => Nat.le_refl _
  | .mk _ _ _ _ _ _ :: l => by have := Pat.len_sizes l; simp only [Pat.sizes, Pat.size, List.length_cons]; omega
theorem Con.len_sizes : ∀ l : List Con, l.length ≤ Con.sizes l
  | [] => Nat.le_refl _
  | c :: l => by have := Con.len_sizes l; simp only [Con.sizes, Con.size, List.length_cons]; omega
theorem Exp.len_sizes : ∀ l : List Exp, l.length ≤ Exp.sizes l
  | [] => Nat.zero_le _
  | .mk _ _ _ _ _ _ _ _ _ _ :: l => by have := Exp.len_sizes l; simp only [Exp.sizes, Exp.size, List.length_cons]; omega
theorem Case.len_sizes : ∀ l : List Case, l.length ≤ Case.sizes l
  | [] => Nat.zero_le _
  | .mk _ _ :: l => by have := Case.len_sizes l; simp only [Case.sizes, Case.size, List.length_cons]; omega
theorem Dec.len_sizes : ∀ l : List Dec, l.length ≤ Dec.sizes l
  | [] => Nat.zero_le _
  | .mk _ _ _ _ _ _ _ _ _ _ :: l => by have := Dec.len_sizes l; simp only [Dec.sizes, Dec.size, List.length_cons]; omega
theorem Fun.len_sizes : ∀ l : List Fun, l.length ≤ Fun.sizes l
  | [] => Nat.zero_le _
  | .mk _ _ _ :: l => by have := Fun.len_sizes l; simp only [Fun.sizes, Fun.size, List.length_cons]; omega

theorem Ty.mem_sizes : ∀ {l : List Ty} {t : Ty}, t ∈ l → t.size ≤ Ty.sizes l
  | x :: l, t, h => by
    simp only [Ty.sizes]
    rcases List.mem_cons.1 h with rfl | h
    · omega
    · have := Ty.mem_sizes h; omega
theorem Pat.mem_sizes : ∀ {l : List Pat} {t : Pat}, t ∈ l → t.size ≤ Pat.sizes l
  | x :: l, t, h => by
    simp only [Pat.sizes]
    rcases List.mem_cons.1 h with rfl | h
    · omega
    · have := Pat.mem_sizes h; omega
theorem Con.mem_sizes : ∀ {l : List Con} {t : Con}, t ∈ l → t.size ≤ Con.sizes l
  | x :: l, t, h => by
    simp only [Con.sizes]
    rcases List.mem_cons.1 h with rfl | h
    · omega
    · have := Con.mem_sizes h; omega
theorem Exp.mem_sizes : ∀ {l : List Exp} {t : Exp}, t ∈ l → t.size ≤ Exp.sizes l
  | x :: l, t, h => by
    simp only [Exp.sizes]
    rcases List.mem_cons.1 h with rfl | h
    · omega
    · have := Exp.mem_sizes h; omega
theorem Case.mem_sizes : ∀ {l : List Case} {t : Case}, t ∈ l → t.size ≤ Case.sizes l
  | x :: l, t, h => by
    simp only [Case.sizes]
    rcases List.mem_cons.1 h with rfl | h
    · omega
    · have := Case.mem_sizes h; omega
theorem Dec.mem_sizes : ∀ {l : List Dec} {t : Dec}, t ∈ l → t.size ≤ Dec.sizes l
  | x :: l, t, h => by
    simp only [Dec.sizes]
    rcases List.mem_cons.1 h with rfl | h
    · omega
    · have := Dec.mem_sizes h; omega
theorem Fun.mem_sizes : ∀ {l : List Fun} {t : Fun}, t ∈ l → t.size ≤ Fun.sizes l
  | x :: l, t, h => by
    simp only [Fun.sizes]
    rcases List.mem_cons.1 h with rfl | h
    · omega
    · have := Fun.mem_sizes h; omega

end Go.Am
