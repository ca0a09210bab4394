/- Arguments of a struct's type. -/
import Derived.Test.YtemfpnlpnmglfaaRBase
set_option linter.unusedVariables false
set_option linter.unusedSimpArgs false
namespace Go.Proofs.Ytemfpnlpnmglfaa
open Go Go.Am Go.RowKit

theorem laid_nil (P : Program) (W : World) : laidMet P [] W := ⟨[], rfl, by simp, by simp⟩

theorem arg_agg {P : Program} {W : World} {r : Reach} {base : Nat} {t : TypeId} {v : Value} (hu : (match P.underlying t with | some (.struct _) => true | _ => false) = true) (h : Value.okWide P W r base t v) : ∃ cs, v = .agg cs := by
  cases hs : P.underlying t with
  | none => rw [hs] at hu; cases hu
  | some d =>
    rw [hs] at hu
    cases d <;> first | (cases hu; done) | exact arg_struct hs h

theorem vr_agg {κ : Kn} {l : List AV} {cs : Array Value} (h : VRl κ l cs.toList) (ho : Ones cs.toList) : VR κ (.agg l) (.agg cs) := by
  simp only [VR]
  exact ⟨cs.toList, h, ho, by rw [Array.toArray_toList]⟩

theorem vrl_cons {κ : Kn} {a : AV} {l : List AV} {v : Value} {vs : List Value} (h : VR κ a v) (g : VRl κ l vs) : VRl κ (a :: l) (v :: vs) := ⟨v, vs, rfl, h, g⟩

def valE : Value := .agg #[.int .i64 0, .int .i64 0, .string ByteArray.empty, .int .i64 0, .slice none 0 0, .slice none 0 0, .slice none 0 0]
def valP : Value := .agg #[.int .i64 0, .int .i64 0, .string ByteArray.empty, .int .i64 0, .slice none 0 0]
def datE {H : Type} : DataW H := .agg [.lit (.int .i64 0), .lit (.int .i64 0), .lit (.string []), .lit (.int .i64 0), .nil, .nil, .nil]
def datP {H : Type} : DataW H := .agg [.lit (.int .i64 0), .lit (.int .i64 0), .lit (.string []), .lit (.int .i64 0), .nil]

end Go.Proofs.Ytemfpnlpnmglfaa
