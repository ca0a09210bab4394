/- A part of the proof: K. -/
import Derived.Test.YtoahliipbclneaaM4
set_option linter.unusedVariables false
set_option linter.unusedSimpArgs false
namespace Go.Proofs.Ytoahliipbclneaa
open Go Go.Am
set_option linter.unusedVariables false
theorem Qkf : okFn C 3 Try.f3 = true := by kernel_rfl
theorem Qkg : okFn C 4 Try.f4 = true := by kernel_rfl
theorem Qkh : okFn C 5 Try.f5 = true := by kernel_rfl
theorem Qki : okFn C 6 Try.f6 = true := by kernel_rfl
theorem Qkj : okFn C 7 Try.f7 = true := by kernel_rfl
theorem Qkk : okFn C 8 Try.f8 = true := by kernel_rfl
theorem Qkl : okFn C 9 Try.f9 = true := by kernel_rfl
theorem QgZ : okFn C 10 Try.f10 = true := by kernel_rfl
theorem Qh0 : okFn C 11 Try.f11 = true := by kernel_rfl
theorem Qh1 : okFn C 12 Try.f12 = true := by kernel_rfl
theorem Qh2 : okFn C 13 Try.f13 = true := by kernel_rfl
theorem Qh3 : okFn C 14 Try.f14 = true := by kernel_rfl
theorem Qh4 : okFn C 15 Try.f15 = true := by kernel_rfl
theorem Qh5 : okFn C 16 Try.f16 = true := by kernel_rfl
theorem Qh6 : okFn C 17 Try.f17 = true := by kernel_rfl
theorem Qh7 : okFn C 18 Try.f18 = true := by kernel_rfl
theorem Qh8 : okFn C 19 Try.f19 = true := by kernel_rfl
theorem Qh9 : okFn C 20 Try.f20 = true := by kernel_rfl
theorem Qha : okFn C 21 Try.f21 = true := by kernel_rfl
theorem Qhb : okFn C 22 Try.f22 = true := by kernel_rfl
theorem Qhc : okFn C 23 Try.f23 = true := by kernel_rfl
theorem Qhd : okFn C 24 Try.f24 = true := by kernel_rfl
theorem Qhe : okFn C 25 Try.f25 = true := by kernel_rfl
theorem Qhf : okFn C 26 Try.f26 = true := by kernel_rfl
theorem Qhg : okFn C 27 Try.f27 = true := by kernel_rfl
theorem Qhh : okFn C 28 Try.f28 = true := by kernel_rfl
theorem Qhi : okFn C 29 Try.f29 = true := by kernel_rfl
theorem Qhj : okFn C 30 Try.f30 = true := by kernel_rfl
theorem Qhk : okFn C 31 Try.f31 = true := by kernel_rfl
theorem Qhl : okFn C 32 Try.f32 = true := by kernel_rfl
theorem Qhm : okFn C 33 Try.f33 = true := by kernel_rfl
theorem Qhn : okFn C 34 Try.f34 = true := by kernel_rfl
theorem Qho : okFn C 35 Try.f35 = true := by kernel_rfl
theorem Qhp : okFn C 36 Try.f36 = true := by kernel_rfl
theorem Qhq : okFn C 37 Try.f37 = true := by kernel_rfl
theorem Qhr : okFn C 38 Try.f38 = true := by kernel_rfl
theorem Qhs : okFn C 39 Try.f39 = true := by kernel_rfl
theorem Qht : okFn C 40 Try.f40 = true := by kernel_rfl
theorem Qhu : okFn C 41 Try.f41 = true := by kernel_rfl
theorem Qhv : okFn C 42 Try.f42 = true := by kernel_rfl
theorem Qhw : okFn C 43 Try.f43 = true := by kernel_rfl
theorem Qhx : okFn C 44 Try.f44 = true := by kernel_rfl
theorem Qhy : okFn C 45 Try.f45 = true := by kernel_rfl
theorem Qhz : okFn C 46 Try.f46 = true := by kernel_rfl
theorem QhA : okFn C 47 Try.f47 = true := by kernel_rfl
theorem QhB : okFn C 48 Try.f48 = true := by kernel_rfl
theorem QhC : okFn C 49 Try.f49 = true := by kernel_rfl
theorem QhD : okFn C 50 Try.f50 = true := by kernel_rfl
theorem QhE : okFn C 51 Try.f51 = true := by kernel_rfl
theorem QhF : okFn C 52 Try.f52 = true := by kernel_rfl
theorem QhG : okFn C 53 Try.f53 = true := by kernel_rfl
theorem QhH : okFn C 54 Try.f54 = true := by kernel_rfl
theorem QhI : okFn C 55 Try.f55 = true := by kernel_rfl
theorem QhJ : okFn C 56 Try.f56 = true := by kernel_rfl
theorem QhK : okFn C 57 Try.f57 = true := by kernel_rfl
theorem QhL : okFn C 58 Try.f58 = true := by kernel_rfl
theorem QhM : okFn C 59 Try.f59 = true := by kernel_rfl
theorem QhN : okFn C 60 Try.f60 = true := by kernel_rfl
theorem QhO : okFn C 61 Try.f61 = true := by kernel_rfl
theorem QhP : okFn C 62 Try.f62 = true := by kernel_rfl
theorem QhQ : okFn C 63 Try.f63 = true := by kernel_rfl
theorem QhR : okFn C 64 Try.f64 = true := by kernel_rfl
theorem QhS : okFn C 65 Try.f65 = true := by kernel_rfl
theorem QhT : okFn C 66 Try.f66 = true := by kernel_rfl
theorem QhU : okFn C 67 Try.f67 = true := by kernel_rfl
theorem QhV : okFn C 68 Try.f68 = true := by kernel_rfl
theorem QhW : okFn C 69 Try.f69 = true := by kernel_rfl
theorem QhX : okFn C 70 Try.f70 = true := by kernel_rfl
theorem QhY : okFn C 71 Try.f71 = true := by kernel_rfl
theorem QhZ : okFn C 73 Try.f73 = true := by kernel_rfl
theorem Qi0 : okFn C 74 Try.f74 = true := by kernel_rfl
theorem Qi1 : okFn C 75 Try.f75 = true := by kernel_rfl
theorem Qi2 : okFn C 76 Try.f76 = true := by kernel_rfl
theorem Qi3 : okFn C 77 Try.f77 = true := by kernel_rfl
theorem Qi4 : okFn C 78 Try.f78 = true := by kernel_rfl
theorem Qi5 : okFn C 79 Try.f79 = true := by kernel_rfl
theorem Qb9 : AllP (FnOK Try.prog C) codes := ⟨⟨Try.func3, Qkf⟩, ⟨Try.func4, Qkg⟩, ⟨Try.func5, Qkh⟩, ⟨Try.func6, Qki⟩, ⟨Try.func7, Qkj⟩, ⟨Try.func8, Qkk⟩, ⟨Try.func9, Qkl⟩, ⟨Try.func10, QgZ⟩, ⟨Try.func11, Qh0⟩, ⟨Try.func12, Qh1⟩, ⟨Try.func13, Qh2⟩, ⟨Try.func14, Qh3⟩, ⟨Try.func15, Qh4⟩, ⟨Try.func16, Qh5⟩, ⟨Try.func17, Qh6⟩, ⟨Try.func18, Qh7⟩, ⟨Try.func19, Qh8⟩, ⟨Try.func20, Qh9⟩, ⟨Try.func21, Qha⟩, ⟨Try.func22, Qhb⟩, ⟨Try.func23, Qhc⟩, ⟨Try.func24, Qhd⟩, ⟨Try.func25, Qhe⟩, ⟨Try.func26, Qhf⟩, ⟨Try.func27, Qhg⟩, ⟨Try.func28, Qhh⟩, ⟨Try.func29, Qhi⟩, ⟨Try.func30, Qhj⟩, ⟨Try.func31, Qhk⟩, ⟨Try.func32, Qhl⟩, ⟨Try.func33, Qhm⟩, ⟨Try.func34, Qhn⟩, ⟨Try.func35, Qho⟩, ⟨Try.func36, Qhp⟩, ⟨Try.func37, Qhq⟩, ⟨Try.func38, Qhr⟩, ⟨Try.func39, Qhs⟩, ⟨Try.func40, Qht⟩, ⟨Try.func41, Qhu⟩, ⟨Try.func42, Qhv⟩, ⟨Try.func43, Qhw⟩, ⟨Try.func44, Qhx⟩, ⟨Try.func45, Qhy⟩, ⟨Try.func46, Qhz⟩, ⟨Try.func47, QhA⟩, ⟨Try.func48, QhB⟩, ⟨Try.func49, QhC⟩, ⟨Try.func50, QhD⟩, ⟨Try.func51, QhE⟩, ⟨Try.func52, QhF⟩, ⟨Try.func53, QhG⟩, ⟨Try.func54, QhH⟩, ⟨Try.func55, QhI⟩, ⟨Try.func56, QhJ⟩, ⟨Try.func57, QhK⟩, ⟨Try.func58, QhL⟩, ⟨Try.func59, QhM⟩, ⟨Try.func60, QhN⟩, ⟨Try.func61, QhO⟩, ⟨Try.func62, QhP⟩, ⟨Try.func63, QhQ⟩, ⟨Try.func64, QhR⟩, ⟨Try.func65, QhS⟩, ⟨Try.func66, QhT⟩, ⟨Try.func67, QhU⟩, ⟨Try.func68, QhV⟩, ⟨Try.func69, QhW⟩, ⟨Try.func70, QhX⟩, ⟨Try.func71, QhY⟩, ⟨Try.func73, QhZ⟩, ⟨Try.func74, Qi0⟩, ⟨Try.func75, Qi1⟩, ⟨Try.func76, Qi2⟩, ⟨Try.func77, Qi3⟩, ⟨Try.func78, Qi4⟩, ⟨Try.func79, Qi5⟩, trivial⟩
theorem QbQ : allTo (tyB Try.prog C.ti) tis.length = true := by kernel_rfl
end Go.Proofs.Ytoahliipbclneaa