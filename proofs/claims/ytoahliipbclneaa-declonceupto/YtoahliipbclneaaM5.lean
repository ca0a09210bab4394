/- A part of the proof: K. -/
import Derived.Test.YtoahliipbclneaaM4
set_option linter.unusedVariables false
set_option linter.unusedSimpArgs false
namespace Go.Proofs.Ytoahliipbclneaa
open Go Go.Am
set_option linter.unusedVariables false
theorem Qnc : okFn C 3 Try.f3 = true := by kernel_rfl
theorem Qnd : okFn C 4 Try.f4 = true := by kernel_rfl
theorem Qne : okFn C 5 Try.f5 = true := by kernel_rfl
theorem Qnf : okFn C 6 Try.f6 = true := by kernel_rfl
theorem Qng : okFn C 7 Try.f7 = true := by kernel_rfl
theorem Qnh : okFn C 8 Try.f8 = true := by kernel_rfl
theorem Qni : okFn C 9 Try.f9 = true := by kernel_rfl
theorem QjX : okFn C 10 Try.f10 = true := by kernel_rfl
theorem QjY : okFn C 11 Try.f11 = true := by kernel_rfl
theorem QjZ : okFn C 12 Try.f12 = true := by kernel_rfl
theorem Qk0 : okFn C 13 Try.f13 = true := by kernel_rfl
theorem Qk1 : okFn C 14 Try.f14 = true := by kernel_rfl
theorem Qk2 : okFn C 15 Try.f15 = true := by kernel_rfl
theorem Qk3 : okFn C 16 Try.f16 = true := by kernel_rfl
theorem Qk4 : okFn C 17 Try.f17 = true := by kernel_rfl
theorem Qk5 : okFn C 18 Try.f18 = true := by kernel_rfl
theorem Qk6 : okFn C 19 Try.f19 = true := by kernel_rfl
theorem Qk7 : okFn C 20 Try.f20 = true := by kernel_rfl
theorem Qk8 : okFn C 21 Try.f21 = true := by kernel_rfl
theorem Qk9 : okFn C 22 Try.f22 = true := by kernel_rfl
theorem Qka : okFn C 23 Try.f23 = true := by kernel_rfl
theorem Qkb : okFn C 24 Try.f24 = true := by kernel_rfl
theorem Qkc : okFn C 25 Try.f25 = true := by kernel_rfl
theorem Qkd : okFn C 26 Try.f26 = true := by kernel_rfl
theorem Qke : okFn C 27 Try.f27 = true := by kernel_rfl
theorem Qkf : okFn C 28 Try.f28 = true := by kernel_rfl
theorem Qkg : okFn C 29 Try.f29 = true := by kernel_rfl
theorem Qkh : okFn C 30 Try.f30 = true := by kernel_rfl
theorem Qki : okFn C 31 Try.f31 = true := by kernel_rfl
theorem Qkj : okFn C 32 Try.f32 = true := by kernel_rfl
theorem Qkk : okFn C 33 Try.f33 = true := by kernel_rfl
theorem Qkl : okFn C 34 Try.f34 = true := by kernel_rfl
theorem Qkm : okFn C 35 Try.f35 = true := by kernel_rfl
theorem Qkn : okFn C 36 Try.f36 = true := by kernel_rfl
theorem Qko : okFn C 37 Try.f37 = true := by kernel_rfl
theorem Qkp : okFn C 38 Try.f38 = true := by kernel_rfl
theorem Qkq : okFn C 39 Try.f39 = true := by kernel_rfl
theorem Qkr : okFn C 40 Try.f40 = true := by kernel_rfl
theorem Qks : okFn C 41 Try.f41 = true := by kernel_rfl
theorem Qkt : okFn C 42 Try.f42 = true := by kernel_rfl
theorem Qku : okFn C 43 Try.f43 = true := by kernel_rfl
theorem Qkv : okFn C 44 Try.f44 = true := by kernel_rfl
theorem Qkw : okFn C 45 Try.f45 = true := by kernel_rfl
theorem Qkx : okFn C 46 Try.f46 = true := by kernel_rfl
theorem Qky : okFn C 47 Try.f47 = true := by kernel_rfl
theorem Qkz : okFn C 48 Try.f48 = true := by kernel_rfl
theorem QkA : okFn C 49 Try.f49 = true := by kernel_rfl
theorem QkB : okFn C 50 Try.f50 = true := by kernel_rfl
theorem QkC : okFn C 51 Try.f51 = true := by kernel_rfl
theorem QkD : okFn C 52 Try.f52 = true := by kernel_rfl
theorem QkE : okFn C 53 Try.f53 = true := by kernel_rfl
theorem QkF : okFn C 54 Try.f54 = true := by kernel_rfl
theorem QkG : okFn C 55 Try.f55 = true := by kernel_rfl
theorem QkH : okFn C 56 Try.f56 = true := by kernel_rfl
theorem QkI : okFn C 57 Try.f57 = true := by kernel_rfl
theorem QkJ : okFn C 58 Try.f58 = true := by kernel_rfl
theorem QkK : okFn C 59 Try.f59 = true := by kernel_rfl
theorem QkL : okFn C 60 Try.f60 = true := by kernel_rfl
theorem QkM : okFn C 61 Try.f61 = true := by kernel_rfl
theorem QkN : okFn C 62 Try.f62 = true := by kernel_rfl
theorem QkO : okFn C 63 Try.f63 = true := by kernel_rfl
theorem QkP : okFn C 64 Try.f64 = true := by kernel_rfl
theorem QkQ : okFn C 65 Try.f65 = true := by kernel_rfl
theorem QkR : okFn C 66 Try.f66 = true := by kernel_rfl
theorem QkS : okFn C 67 Try.f67 = true := by kernel_rfl
theorem QkT : okFn C 68 Try.f68 = true := by kernel_rfl
theorem QkU : okFn C 69 Try.f69 = true := by kernel_rfl
theorem QkV : okFn C 70 Try.f70 = true := by kernel_rfl
theorem QkW : okFn C 71 Try.f71 = true := by kernel_rfl
theorem QkX : okFn C 73 Try.f73 = true := by kernel_rfl
theorem QkY : okFn C 74 Try.f74 = true := by kernel_rfl
theorem QkZ : okFn C 75 Try.f75 = true := by kernel_rfl
theorem Ql0 : okFn C 76 Try.f76 = true := by kernel_rfl
theorem Ql1 : okFn C 77 Try.f77 = true := by kernel_rfl
theorem Ql2 : okFn C 78 Try.f78 = true := by kernel_rfl
theorem Ql3 : okFn C 79 Try.f79 = true := by kernel_rfl
theorem QdV : AllP (FnOK Try.prog C) codes := ⟨⟨Try.func3, Qnc⟩, ⟨Try.func4, Qnd⟩, ⟨Try.func5, Qne⟩, ⟨Try.func6, Qnf⟩, ⟨Try.func7, Qng⟩, ⟨Try.func8, Qnh⟩, ⟨Try.func9, Qni⟩, ⟨Try.func10, QjX⟩, ⟨Try.func11, QjY⟩, ⟨Try.func12, QjZ⟩, ⟨Try.func13, Qk0⟩, ⟨Try.func14, Qk1⟩, ⟨Try.func15, Qk2⟩, ⟨Try.func16, Qk3⟩, ⟨Try.func17, Qk4⟩, ⟨Try.func18, Qk5⟩, ⟨Try.func19, Qk6⟩, ⟨Try.func20, Qk7⟩, ⟨Try.func21, Qk8⟩, ⟨Try.func22, Qk9⟩, ⟨Try.func23, Qka⟩, ⟨Try.func24, Qkb⟩, ⟨Try.func25, Qkc⟩, ⟨Try.func26, Qkd⟩, ⟨Try.func27, Qke⟩, ⟨Try.func28, Qkf⟩, ⟨Try.func29, Qkg⟩, ⟨Try.func30, Qkh⟩, ⟨Try.func31, Qki⟩, ⟨Try.func32, Qkj⟩, ⟨Try.func33, Qkk⟩, ⟨Try.func34, Qkl⟩, ⟨Try.func35, Qkm⟩, ⟨Try.func36, Qkn⟩, ⟨Try.func37, Qko⟩, ⟨Try.func38, Qkp⟩, ⟨Try.func39, Qkq⟩, ⟨Try.func40, Qkr⟩, ⟨Try.func41, Qks⟩, ⟨Try.func42, Qkt⟩, ⟨Try.func43, Qku⟩, ⟨Try.func44, Qkv⟩, ⟨Try.func45, Qkw⟩, ⟨Try.func46, Qkx⟩, ⟨Try.func47, Qky⟩, ⟨Try.func48, Qkz⟩, ⟨Try.func49, QkA⟩, ⟨Try.func50, QkB⟩, ⟨Try.func51, QkC⟩, ⟨Try.func52, QkD⟩, ⟨Try.func53, QkE⟩, ⟨Try.func54, QkF⟩, ⟨Try.func55, QkG⟩, ⟨Try.func56, QkH⟩, ⟨Try.func57, QkI⟩, ⟨Try.func58, QkJ⟩, ⟨Try.func59, QkK⟩, ⟨Try.func60, QkL⟩, ⟨Try.func61, QkM⟩, ⟨Try.func62, QkN⟩, ⟨Try.func63, QkO⟩, ⟨Try.func64, QkP⟩, ⟨Try.func65, QkQ⟩, ⟨Try.func66, QkR⟩, ⟨Try.func67, QkS⟩, ⟨Try.func68, QkT⟩, ⟨Try.func69, QkU⟩, ⟨Try.func70, QkV⟩, ⟨Try.func71, QkW⟩, ⟨Try.func73, QkX⟩, ⟨Try.func74, QkY⟩, ⟨Try.func75, QkZ⟩, ⟨Try.func76, Ql0⟩, ⟨Try.func77, Ql1⟩, ⟨Try.func78, Ql2⟩, ⟨Try.func79, Ql3⟩, trivial⟩
theorem QeL : allTo (tyB Try.prog C.ti) tis.length = true := by kernel_rfl
end Go.Proofs.Ytoahliipbclneaa