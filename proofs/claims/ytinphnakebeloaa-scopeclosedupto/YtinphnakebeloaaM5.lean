/- A part of the proof: K. -/
import Derived.Test.YtinphnakebeloaaM4
set_option linter.unusedVariables false
set_option linter.unusedSimpArgs false
namespace Go.Proofs.Ytinphnakebeloaa
open Go Go.Am
set_option linter.unusedVariables false
theorem QoV : okFn C 3 Try.f3 = true := by kernel_rfl
theorem QoW : okFn C 4 Try.f4 = true := by kernel_rfl
theorem QoX : okFn C 5 Try.f5 = true := by kernel_rfl
theorem QoY : okFn C 6 Try.f6 = true := by kernel_rfl
theorem QoZ : okFn C 7 Try.f7 = true := by kernel_rfl
theorem Qp0 : okFn C 8 Try.f8 = true := by kernel_rfl
theorem Qp1 : okFn C 9 Try.f9 = true := by kernel_rfl
theorem Qlt : okFn C 10 Try.f10 = true := by kernel_rfl
theorem Qlu : okFn C 11 Try.f11 = true := by kernel_rfl
theorem Qlv : okFn C 12 Try.f12 = true := by kernel_rfl
theorem Qlw : okFn C 13 Try.f13 = true := by kernel_rfl
theorem Qlx : okFn C 14 Try.f14 = true := by kernel_rfl
theorem Qly : okFn C 15 Try.f15 = true := by kernel_rfl
theorem Qlz : okFn C 16 Try.f16 = true := by kernel_rfl
theorem QlA : okFn C 17 Try.f17 = true := by kernel_rfl
theorem QlB : okFn C 18 Try.f18 = true := by kernel_rfl
theorem QlC : okFn C 19 Try.f19 = true := by kernel_rfl
theorem QlD : okFn C 20 Try.f20 = true := by kernel_rfl
theorem QlE : okFn C 21 Try.f21 = true := by kernel_rfl
theorem QlF : okFn C 22 Try.f22 = true := by kernel_rfl
theorem QlG : okFn C 23 Try.f23 = true := by kernel_rfl
theorem QlH : okFn C 24 Try.f24 = true := by kernel_rfl
theorem QlI : okFn C 25 Try.f25 = true := by kernel_rfl
theorem QlJ : okFn C 26 Try.f26 = true := by kernel_rfl
theorem QlK : okFn C 27 Try.f27 = true := by kernel_rfl
theorem QlL : okFn C 28 Try.f28 = true := by kernel_rfl
theorem QlM : okFn C 29 Try.f29 = true := by kernel_rfl
theorem QlN : okFn C 30 Try.f30 = true := by kernel_rfl
theorem QlO : okFn C 31 Try.f31 = true := by kernel_rfl
theorem QlP : okFn C 32 Try.f32 = true := by kernel_rfl
theorem QlQ : okFn C 33 Try.f33 = true := by kernel_rfl
theorem QlR : okFn C 34 Try.f34 = true := by kernel_rfl
theorem QlS : okFn C 35 Try.f35 = true := by kernel_rfl
theorem QlT : okFn C 36 Try.f36 = true := by kernel_rfl
theorem QlU : okFn C 37 Try.f37 = true := by kernel_rfl
theorem QlV : okFn C 38 Try.f38 = true := by kernel_rfl
theorem QlW : okFn C 39 Try.f39 = true := by kernel_rfl
theorem QlX : okFn C 40 Try.f40 = true := by kernel_rfl
theorem QlY : okFn C 41 Try.f41 = true := by kernel_rfl
theorem QlZ : okFn C 42 Try.f42 = true := by kernel_rfl
theorem Qm0 : okFn C 43 Try.f43 = true := by kernel_rfl
theorem Qm1 : okFn C 44 Try.f44 = true := by kernel_rfl
theorem Qm2 : okFn C 45 Try.f45 = true := by kernel_rfl
theorem Qm3 : okFn C 46 Try.f46 = true := by kernel_rfl
theorem Qm4 : okFn C 47 Try.f47 = true := by kernel_rfl
theorem Qm5 : okFn C 48 Try.f48 = true := by kernel_rfl
theorem Qm6 : okFn C 49 Try.f49 = true := by kernel_rfl
theorem Qm7 : okFn C 50 Try.f50 = true := by kernel_rfl
theorem Qm8 : okFn C 51 Try.f51 = true := by kernel_rfl
theorem Qm9 : okFn C 52 Try.f52 = true := by kernel_rfl
theorem Qma : okFn C 53 Try.f53 = true := by kernel_rfl
theorem Qmb : okFn C 54 Try.f54 = true := by kernel_rfl
theorem Qmc : okFn C 55 Try.f55 = true := by kernel_rfl
theorem Qmd : okFn C 56 Try.f56 = true := by kernel_rfl
theorem Qme : okFn C 57 Try.f57 = true := by kernel_rfl
theorem Qmf : okFn C 58 Try.f58 = true := by kernel_rfl
theorem Qmg : okFn C 59 Try.f59 = true := by kernel_rfl
theorem Qmh : okFn C 60 Try.f60 = true := by kernel_rfl
theorem Qmi : okFn C 61 Try.f61 = true := by kernel_rfl
theorem Qmj : okFn C 62 Try.f62 = true := by kernel_rfl
theorem Qmk : okFn C 63 Try.f63 = true := by kernel_rfl
theorem Qml : okFn C 64 Try.f64 = true := by kernel_rfl
theorem Qmm : okFn C 65 Try.f65 = true := by kernel_rfl
theorem Qmn : okFn C 66 Try.f66 = true := by kernel_rfl
theorem Qmo : okFn C 67 Try.f67 = true := by kernel_rfl
theorem Qmp : okFn C 68 Try.f68 = true := by kernel_rfl
theorem Qmq : okFn C 69 Try.f69 = true := by kernel_rfl
theorem Qmr : okFn C 70 Try.f70 = true := by kernel_rfl
theorem Qms : okFn C 71 Try.f71 = true := by kernel_rfl
theorem Qmt : okFn C 72 Try.f72 = true := by kernel_rfl
theorem Qmu : okFn C 73 Try.f73 = true := by kernel_rfl
theorem Qmv : okFn C 74 Try.f74 = true := by kernel_rfl
theorem Qmw : okFn C 75 Try.f75 = true := by kernel_rfl
theorem Qmx : okFn C 76 Try.f76 = true := by kernel_rfl
theorem Qmy : okFn C 77 Try.f77 = true := by kernel_rfl
theorem Qmz : okFn C 78 Try.f78 = true := by kernel_rfl
theorem QmA : okFn C 79 Try.f79 = true := by kernel_rfl
theorem QmB : okFn C 80 Try.f80 = true := by kernel_rfl
theorem QmC : okFn C 81 Try.f81 = true := by kernel_rfl
theorem QmD : okFn C 82 Try.f82 = true := by kernel_rfl
theorem QmE : okFn C 83 Try.f83 = true := by kernel_rfl
theorem QmF : okFn C 84 Try.f84 = true := by kernel_rfl
theorem QmG : okFn C 85 Try.f85 = true := by kernel_rfl
theorem QmH : okFn C 86 Try.f86 = true := by kernel_rfl
theorem QmI : okFn C 88 Try.f88 = true := by kernel_rfl
theorem QmJ : okFn C 89 Try.f89 = true := by kernel_rfl
theorem QmK : okFn C 90 Try.f90 = true := by kernel_rfl
theorem QmL : okFn C 91 Try.f91 = true := by kernel_rfl
theorem QmM : okFn C 92 Try.f92 = true := by kernel_rfl
theorem QfE : AllP (FnOK Try.prog C) codes := ⟨⟨Try.func3, QoV⟩, ⟨Try.func4, QoW⟩, ⟨Try.func5, QoX⟩, ⟨Try.func6, QoY⟩, ⟨Try.func7, QoZ⟩, ⟨Try.func8, Qp0⟩, ⟨Try.func9, Qp1⟩, ⟨Try.func10, Qlt⟩, ⟨Try.func11, Qlu⟩, ⟨Try.func12, Qlv⟩, ⟨Try.func13, Qlw⟩, ⟨Try.func14, Qlx⟩, ⟨Try.func15, Qly⟩, ⟨Try.func16, Qlz⟩, ⟨Try.func17, QlA⟩, ⟨Try.func18, QlB⟩, ⟨Try.func19, QlC⟩, ⟨Try.func20, QlD⟩, ⟨Try.func21, QlE⟩, ⟨Try.func22, QlF⟩, ⟨Try.func23, QlG⟩, ⟨Try.func24, QlH⟩, ⟨Try.func25, QlI⟩, ⟨Try.func26, QlJ⟩, ⟨Try.func27, QlK⟩, ⟨Try.func28, QlL⟩, ⟨Try.func29, QlM⟩, ⟨Try.func30, QlN⟩, ⟨Try.func31, QlO⟩, ⟨Try.func32, QlP⟩, ⟨Try.func33, QlQ⟩, ⟨Try.func34, QlR⟩, ⟨Try.func35, QlS⟩, ⟨Try.func36, QlT⟩, ⟨Try.func37, QlU⟩, ⟨Try.func38, QlV⟩, ⟨Try.func39, QlW⟩, ⟨Try.func40, QlX⟩, ⟨Try.func41, QlY⟩, ⟨Try.func42, QlZ⟩, ⟨Try.func43, Qm0⟩, ⟨Try.func44, Qm1⟩, ⟨Try.func45, Qm2⟩, ⟨Try.func46, Qm3⟩, ⟨Try.func47, Qm4⟩, ⟨Try.func48, Qm5⟩, ⟨Try.func49, Qm6⟩, ⟨Try.func50, Qm7⟩, ⟨Try.func51, Qm8⟩, ⟨Try.func52, Qm9⟩, ⟨Try.func53, Qma⟩, ⟨Try.func54, Qmb⟩, ⟨Try.func55, Qmc⟩, ⟨Try.func56, Qmd⟩, ⟨Try.func57, Qme⟩, ⟨Try.func58, Qmf⟩, ⟨Try.func59, Qmg⟩, ⟨Try.func60, Qmh⟩, ⟨Try.func61, Qmi⟩, ⟨Try.func62, Qmj⟩, ⟨Try.func63, Qmk⟩, ⟨Try.func64, Qml⟩, ⟨Try.func65, Qmm⟩, ⟨Try.func66, Qmn⟩, ⟨Try.func67, Qmo⟩, ⟨Try.func68, Qmp⟩, ⟨Try.func69, Qmq⟩, ⟨Try.func70, Qmr⟩, ⟨Try.func71, Qms⟩, ⟨Try.func72, Qmt⟩, ⟨Try.func73, Qmu⟩, ⟨Try.func74, Qmv⟩, ⟨Try.func75, Qmw⟩, ⟨Try.func76, Qmx⟩, ⟨Try.func77, Qmy⟩, ⟨Try.func78, Qmz⟩, ⟨Try.func79, QmA⟩, ⟨Try.func80, QmB⟩, ⟨Try.func81, QmC⟩, ⟨Try.func82, QmD⟩, ⟨Try.func83, QmE⟩, ⟨Try.func84, QmF⟩, ⟨Try.func85, QmG⟩, ⟨Try.func86, QmH⟩, ⟨Try.func88, QmI⟩, ⟨Try.func89, QmJ⟩, ⟨Try.func90, QmK⟩, ⟨Try.func91, QmL⟩, ⟨Try.func92, QmM⟩, trivial⟩
theorem Qgg : allTo (tyB Try.prog C.ti) tis.length = true := by kernel_rfl
end Go.Proofs.Ytinphnakebeloaa