/- A part of the proof: K, G2. -/
import Derived.Test.YtinphnakebeloaaGreatM3
set_option linter.unusedVariables false
set_option linter.unusedSimpArgs false
namespace Go.Proofs.YtinphnakebeloaaGreat
open Go Go.Am
set_option linter.unusedVariables false
theorem ok_3 : okFn C 3 Go.Proofs.Tryz.f3 = true := by kernel_rfl
theorem ok_4 : okFn C 4 Go.Proofs.Tryz.f4 = true := by kernel_rfl
theorem ok_5 : okFn C 5 Go.Proofs.Tryz.f5 = true := by kernel_rfl
theorem ok_6 : okFn C 6 Go.Proofs.Tryz.f6 = true := by kernel_rfl
theorem ok_7 : okFn C 7 Go.Proofs.Tryz.f7 = true := by kernel_rfl
theorem ok_8 : okFn C 8 Go.Proofs.Tryz.f8 = true := by kernel_rfl
theorem ok_9 : okFn C 9 Go.Proofs.Tryz.f9 = true := by kernel_rfl
theorem ok_10 : okFn C 10 Go.Proofs.Tryz.f10 = true := by kernel_rfl
theorem ok_11 : okFn C 11 Go.Proofs.Tryz.f11 = true := by kernel_rfl
theorem ok_12 : okFn C 12 Go.Proofs.Tryz.f12 = true := by kernel_rfl
theorem ok_13 : okFn C 13 Go.Proofs.Tryz.f13 = true := by kernel_rfl
theorem ok_14 : okFn C 14 Go.Proofs.Tryz.f14 = true := by kernel_rfl
theorem ok_15 : okFn C 15 Go.Proofs.Tryz.f15 = true := by kernel_rfl
theorem ok_16 : okFn C 16 Go.Proofs.Tryz.f16 = true := by kernel_rfl
theorem ok_17 : okFn C 17 Go.Proofs.Tryz.f17 = true := by kernel_rfl
theorem ok_18 : okFn C 18 Go.Proofs.Tryz.f18 = true := by kernel_rfl
theorem ok_19 : okFn C 19 Go.Proofs.Tryz.f19 = true := by kernel_rfl
theorem ok_20 : okFn C 20 Go.Proofs.Tryz.f20 = true := by kernel_rfl
theorem ok_21 : okFn C 21 Go.Proofs.Tryz.f21 = true := by kernel_rfl
theorem ok_22 : okFn C 22 Go.Proofs.Tryz.f22 = true := by kernel_rfl
theorem ok_23 : okFn C 23 Go.Proofs.Tryz.f23 = true := by kernel_rfl
theorem ok_24 : okFn C 24 Go.Proofs.Tryz.f24 = true := by kernel_rfl
theorem ok_25 : okFn C 25 Go.Proofs.Tryz.f25 = true := by kernel_rfl
theorem ok_26 : okFn C 26 Go.Proofs.Tryz.f26 = true := by kernel_rfl
theorem ok_27 : okFn C 27 Go.Proofs.Tryz.f27 = true := by kernel_rfl
theorem ok_28 : okFn C 28 Go.Proofs.Tryz.f28 = true := by kernel_rfl
theorem ok_29 : okFn C 29 Go.Proofs.Tryz.f29 = true := by kernel_rfl
theorem ok_30 : okFn C 30 Go.Proofs.Tryz.f30 = true := by kernel_rfl
theorem ok_31 : okFn C 31 Go.Proofs.Tryz.f31 = true := by kernel_rfl
theorem ok_32 : okFn C 32 Go.Proofs.Tryz.f32 = true := by kernel_rfl
theorem ok_33 : okFn C 33 Go.Proofs.Tryz.f33 = true := by kernel_rfl
theorem ok_34 : okFn C 34 Go.Proofs.Tryz.f34 = true := by kernel_rfl
theorem ok_35 : okFn C 35 Go.Proofs.Tryz.f35 = true := by kernel_rfl
theorem ok_36 : okFn C 36 Go.Proofs.Tryz.f36 = true := by kernel_rfl
theorem ok_37 : okFn C 37 Go.Proofs.Tryz.f37 = true := by kernel_rfl
theorem ok_38 : okFn C 38 Go.Proofs.Tryz.f38 = true := by kernel_rfl
theorem ok_39 : okFn C 39 Go.Proofs.Tryz.f39 = true := by kernel_rfl
theorem ok_40 : okFn C 40 Go.Proofs.Tryz.f40 = true := by kernel_rfl
theorem ok_41 : okFn C 41 Go.Proofs.Tryz.f41 = true := by kernel_rfl
theorem ok_42 : okFn C 42 Go.Proofs.Tryz.f42 = true := by kernel_rfl
theorem ok_43 : okFn C 43 Go.Proofs.Tryz.f43 = true := by kernel_rfl
theorem ok_44 : okFn C 44 Go.Proofs.Tryz.f44 = true := by kernel_rfl
theorem ok_45 : okFn C 45 Go.Proofs.Tryz.f45 = true := by kernel_rfl
theorem ok_46 : okFn C 46 Go.Proofs.Tryz.f46 = true := by kernel_rfl
theorem ok_47 : okFn C 47 Go.Proofs.Tryz.f47 = true := by kernel_rfl
theorem ok_48 : okFn C 48 Go.Proofs.Tryz.f48 = true := by kernel_rfl
theorem ok_49 : okFn C 49 Go.Proofs.Tryz.f49 = true := by kernel_rfl
theorem ok_50 : okFn C 50 Go.Proofs.Tryz.f50 = true := by kernel_rfl
theorem ok_51 : okFn C 51 Go.Proofs.Tryz.f51 = true := by kernel_rfl
theorem ok_52 : okFn C 52 Go.Proofs.Tryz.f52 = true := by kernel_rfl
theorem ok_53 : okFn C 53 Go.Proofs.Tryz.f53 = true := by kernel_rfl
theorem ok_54 : okFn C 54 Go.Proofs.Tryz.f54 = true := by kernel_rfl
theorem ok_55 : okFn C 55 Go.Proofs.Tryz.f55 = true := by kernel_rfl
theorem ok_56 : okFn C 56 Go.Proofs.Tryz.f56 = true := by kernel_rfl
theorem ok_57 : okFn C 57 Go.Proofs.Tryz.f57 = true := by kernel_rfl
theorem ok_58 : okFn C 58 Go.Proofs.Tryz.f58 = true := by kernel_rfl
theorem ok_59 : okFn C 59 Go.Proofs.Tryz.f59 = true := by kernel_rfl
theorem ok_60 : okFn C 60 Go.Proofs.Tryz.f60 = true := by kernel_rfl
theorem ok_61 : okFn C 61 Go.Proofs.Tryz.f61 = true := by kernel_rfl
theorem ok_62 : okFn C 62 Go.Proofs.Tryz.f62 = true := by kernel_rfl
theorem ok_63 : okFn C 63 Go.Proofs.Tryz.f63 = true := by kernel_rfl
theorem ok_64 : okFn C 64 Go.Proofs.Tryz.f64 = true := by kernel_rfl
theorem ok_65 : okFn C 65 Go.Proofs.Tryz.f65 = true := by kernel_rfl
theorem ok_66 : okFn C 66 Go.Proofs.Tryz.f66 = true := by kernel_rfl
theorem ok_67 : okFn C 67 Go.Proofs.Tryz.f67 = true := by kernel_rfl
theorem ok_68 : okFn C 68 Go.Proofs.Tryz.f68 = true := by kernel_rfl
theorem ok_69 : okFn C 69 Go.Proofs.Tryz.f69 = true := by kernel_rfl
theorem ok_70 : okFn C 70 Go.Proofs.Tryz.f70 = true := by kernel_rfl
theorem ok_71 : okFn C 71 Go.Proofs.Tryz.f71 = true := by kernel_rfl
theorem ok_72 : okFn C 72 Go.Proofs.Tryz.f72 = true := by kernel_rfl
theorem ok_73 : okFn C 73 Go.Proofs.Tryz.f73 = true := by kernel_rfl
theorem ok_74 : okFn C 74 Go.Proofs.Tryz.f74 = true := by kernel_rfl
theorem ok_75 : okFn C 75 Go.Proofs.Tryz.f75 = true := by kernel_rfl
theorem ok_76 : okFn C 76 Go.Proofs.Tryz.f76 = true := by kernel_rfl
theorem ok_77 : okFn C 77 Go.Proofs.Tryz.f77 = true := by kernel_rfl
theorem ok_78 : okFn C 78 Go.Proofs.Tryz.f78 = true := by kernel_rfl
theorem ok_79 : okFn C 79 Go.Proofs.Tryz.f79 = true := by kernel_rfl
theorem ok_80 : okFn C 80 Go.Proofs.Tryz.f80 = true := by kernel_rfl
theorem ok_81 : okFn C 81 Go.Proofs.Tryz.f81 = true := by kernel_rfl
theorem ok_82 : okFn C 82 Go.Proofs.Tryz.f82 = true := by kernel_rfl
theorem ok_83 : okFn C 83 Go.Proofs.Tryz.f83 = true := by kernel_rfl
theorem ok_84 : okFn C 84 Go.Proofs.Tryz.f84 = true := by kernel_rfl
theorem ok_85 : okFn C 85 Go.Proofs.Tryz.f85 = true := by kernel_rfl
theorem ok_86 : okFn C 86 Go.Proofs.Tryz.f86 = true := by kernel_rfl
theorem ok_87 : okFn C 87 Go.Proofs.Tryz.f87 = true := by kernel_rfl
theorem ok_88 : okFn C 88 Go.Proofs.Tryz.f88 = true := by kernel_rfl
theorem ok_89 : okFn C 89 Go.Proofs.Tryz.f89 = true := by kernel_rfl
theorem ok_90 : okFn C 90 Go.Proofs.Tryz.f90 = true := by kernel_rfl
theorem ok_91 : okFn C 91 Go.Proofs.Tryz.f91 = true := by kernel_rfl
theorem ok_92 : okFn C 92 Go.Proofs.Tryz.f92 = true := by kernel_rfl
theorem ok_93 : okFn C 93 Go.Proofs.Tryz.f93 = true := by kernel_rfl
theorem ok_94 : okFn C 94 Go.Proofs.Tryz.f94 = true := by kernel_rfl
theorem ok_95 : okFn C 95 Go.Proofs.Tryz.f95 = true := by kernel_rfl
theorem ok_96 : okFn C 96 Go.Proofs.Tryz.f96 = true := by kernel_rfl
theorem ok_97 : okFn C 97 Go.Proofs.Tryz.f97 = true := by kernel_rfl
theorem ok_98 : okFn C 98 Go.Proofs.Tryz.f98 = true := by kernel_rfl
theorem ok_99 : okFn C 99 Go.Proofs.Tryz.f99 = true := by kernel_rfl
theorem ok_100 : okFn C 100 Go.Proofs.Tryz.f100 = true := by kernel_rfl
theorem ok_101 : okFn C 101 Go.Proofs.Tryz.f101 = true := by kernel_rfl
theorem ok_102 : okFn C 102 Go.Proofs.Tryz.f102 = true := by kernel_rfl
theorem ok_103 : okFn C 103 Go.Proofs.Tryz.f103 = true := by kernel_rfl
theorem ok_104 : okFn C 104 Go.Proofs.Tryz.f104 = true := by kernel_rfl
theorem ok_105 : okFn C 105 Go.Proofs.Tryz.f105 = true := by kernel_rfl
theorem ok_106 : okFn C 106 Go.Proofs.Tryz.f106 = true := by kernel_rfl
theorem ok_107 : okFn C 107 Go.Proofs.Tryz.f107 = true := by kernel_rfl
theorem ok_108 : okFn C 108 Go.Proofs.Tryz.f108 = true := by kernel_rfl
theorem ok_109 : okFn C 109 Go.Proofs.Tryz.f109 = true := by kernel_rfl
theorem ok_110 : okFn C 110 Go.Proofs.Tryz.f110 = true := by kernel_rfl
theorem ok_111 : okFn C 111 Go.Proofs.Tryz.f111 = true := by kernel_rfl
theorem ok_112 : okFn C 112 Go.Proofs.Tryz.f112 = true := by kernel_rfl
theorem ok_113 : okFn C 113 Go.Proofs.Tryz.f113 = true := by kernel_rfl
theorem ok_114 : okFn C 114 Go.Proofs.Tryz.f114 = true := by kernel_rfl
theorem ok_115 : okFn C 115 Go.Proofs.Tryz.f115 = true := by kernel_rfl
theorem ok_116 : okFn C 116 Go.Proofs.Tryz.f116 = true := by kernel_rfl
theorem ok_117 : okFn C 117 Go.Proofs.Tryz.f117 = true := by kernel_rfl
theorem ok_118 : okFn C 118 Go.Proofs.Tryz.f118 = true := by kernel_rfl
theorem ok_119 : okFn C 119 Go.Proofs.Tryz.f119 = true := by kernel_rfl
theorem ok_120 : okFn C 120 Go.Proofs.Tryz.f120 = true := by kernel_rfl
theorem ok_121 : okFn C 121 Go.Proofs.Tryz.f121 = true := by kernel_rfl
theorem ok_122 : okFn C 122 Go.Proofs.Tryz.f122 = true := by kernel_rfl
theorem ok_123 : okFn C 123 Go.Proofs.Tryz.f123 = true := by kernel_rfl
theorem ok_124 : okFn C 124 Go.Proofs.Tryz.f124 = true := by kernel_rfl
theorem ok_125 : okFn C 125 Go.Proofs.Tryz.f125 = true := by kernel_rfl
theorem ok_126 : okFn C 126 Go.Proofs.Tryz.f126 = true := by kernel_rfl
theorem ok_127 : okFn C 127 Go.Proofs.Tryz.f127 = true := by kernel_rfl
theorem ok_128 : okFn C 128 Go.Proofs.Tryz.f128 = true := by kernel_rfl
theorem ok_129 : okFn C 129 Go.Proofs.Tryz.f129 = true := by kernel_rfl
theorem ok_130 : okFn C 130 Go.Proofs.Tryz.f130 = true := by kernel_rfl
theorem ok_131 : okFn C 131 Go.Proofs.Tryz.f131 = true := by kernel_rfl
theorem ok_132 : okFn C 132 Go.Proofs.Tryz.f132 = true := by kernel_rfl
theorem ok_133 : okFn C 133 Go.Proofs.Tryz.f133 = true := by kernel_rfl
theorem ok_134 : okFn C 134 Go.Proofs.Tryz.f134 = true := by kernel_rfl
theorem ok_135 : okFn C 135 Go.Proofs.Tryz.f135 = true := by kernel_rfl
theorem ok_136 : okFn C 136 Go.Proofs.Tryz.f136 = true := by kernel_rfl
theorem ok_137 : okFn C 137 Go.Proofs.Tryz.f137 = true := by kernel_rfl
theorem ok_139 : okFn C 139 Go.Proofs.Tryz.f139 = true := by kernel_rfl
theorem ok_140 : okFn C 140 Go.Proofs.Tryz.f140 = true := by kernel_rfl
theorem ok_141 : okFn C 141 Go.Proofs.Tryz.f141 = true := by kernel_rfl
theorem ok_142 : okFn C 142 Go.Proofs.Tryz.f142 = true := by kernel_rfl
theorem ok_143 : okFn C 143 Go.Proofs.Tryz.f143 = true := by kernel_rfl
theorem ok_144 : okFn C 144 Go.Proofs.Tryz.f144 = true := by kernel_rfl
theorem ok_145 : okFn C 145 Go.Proofs.Tryz.f145 = true := by kernel_rfl
theorem ok_146 : okFn C 146 Go.Proofs.Tryz.f146 = true := by kernel_rfl
theorem codes_all : AllP (FnOK Go.Proofs.Tryz.prog C) codes := ⟨⟨Go.Proofs.Tryz.func3, ok_3⟩, ⟨Go.Proofs.Tryz.func4, ok_4⟩, ⟨Go.Proofs.Tryz.func5, ok_5⟩, ⟨Go.Proofs.Tryz.func6, ok_6⟩, ⟨Go.Proofs.Tryz.func7, ok_7⟩, ⟨Go.Proofs.Tryz.func8, ok_8⟩, ⟨Go.Proofs.Tryz.func9, ok_9⟩, ⟨Go.Proofs.Tryz.func10, ok_10⟩, ⟨Go.Proofs.Tryz.func11, ok_11⟩, ⟨Go.Proofs.Tryz.func12, ok_12⟩, ⟨Go.Proofs.Tryz.func13, ok_13⟩, ⟨Go.Proofs.Tryz.func14, ok_14⟩, ⟨Go.Proofs.Tryz.func15, ok_15⟩, ⟨Go.Proofs.Tryz.func16, ok_16⟩, ⟨Go.Proofs.Tryz.func17, ok_17⟩, ⟨Go.Proofs.Tryz.func18, ok_18⟩, ⟨Go.Proofs.Tryz.func19, ok_19⟩, ⟨Go.Proofs.Tryz.func20, ok_20⟩, ⟨Go.Proofs.Tryz.func21, ok_21⟩, ⟨Go.Proofs.Tryz.func22, ok_22⟩, ⟨Go.Proofs.Tryz.func23, ok_23⟩, ⟨Go.Proofs.Tryz.func24, ok_24⟩, ⟨Go.Proofs.Tryz.func25, ok_25⟩, ⟨Go.Proofs.Tryz.func26, ok_26⟩, ⟨Go.Proofs.Tryz.func27, ok_27⟩, ⟨Go.Proofs.Tryz.func28, ok_28⟩, ⟨Go.Proofs.Tryz.func29, ok_29⟩, ⟨Go.Proofs.Tryz.func30, ok_30⟩, ⟨Go.Proofs.Tryz.func31, ok_31⟩, ⟨Go.Proofs.Tryz.func32, ok_32⟩, ⟨Go.Proofs.Tryz.func33, ok_33⟩, ⟨Go.Proofs.Tryz.func34, ok_34⟩, ⟨Go.Proofs.Tryz.func35, ok_35⟩, ⟨Go.Proofs.Tryz.func36, ok_36⟩, ⟨Go.Proofs.Tryz.func37, ok_37⟩, ⟨Go.Proofs.Tryz.func38, ok_38⟩, ⟨Go.Proofs.Tryz.func39, ok_39⟩, ⟨Go.Proofs.Tryz.func40, ok_40⟩, ⟨Go.Proofs.Tryz.func41, ok_41⟩, ⟨Go.Proofs.Tryz.func42, ok_42⟩, ⟨Go.Proofs.Tryz.func43, ok_43⟩, ⟨Go.Proofs.Tryz.func44, ok_44⟩, ⟨Go.Proofs.Tryz.func45, ok_45⟩, ⟨Go.Proofs.Tryz.func46, ok_46⟩, ⟨Go.Proofs.Tryz.func47, ok_47⟩, ⟨Go.Proofs.Tryz.func48, ok_48⟩, ⟨Go.Proofs.Tryz.func49, ok_49⟩, ⟨Go.Proofs.Tryz.func50, ok_50⟩, ⟨Go.Proofs.Tryz.func51, ok_51⟩, ⟨Go.Proofs.Tryz.func52, ok_52⟩, ⟨Go.Proofs.Tryz.func53, ok_53⟩, ⟨Go.Proofs.Tryz.func54, ok_54⟩, ⟨Go.Proofs.Tryz.func55, ok_55⟩, ⟨Go.Proofs.Tryz.func56, ok_56⟩, ⟨Go.Proofs.Tryz.func57, ok_57⟩, ⟨Go.Proofs.Tryz.func58, ok_58⟩, ⟨Go.Proofs.Tryz.func59, ok_59⟩, ⟨Go.Proofs.Tryz.func60, ok_60⟩, ⟨Go.Proofs.Tryz.func61, ok_61⟩, ⟨Go.Proofs.Tryz.func62, ok_62⟩, ⟨Go.Proofs.Tryz.func63, ok_63⟩, ⟨Go.Proofs.Tryz.func64, ok_64⟩, ⟨Go.Proofs.Tryz.func65, ok_65⟩, ⟨Go.Proofs.Tryz.func66, ok_66⟩, ⟨Go.Proofs.Tryz.func67, ok_67⟩, ⟨Go.Proofs.Tryz.func68, ok_68⟩, ⟨Go.Proofs.Tryz.func69, ok_69⟩, ⟨Go.Proofs.Tryz.func70, ok_70⟩, ⟨Go.Proofs.Tryz.func71, ok_71⟩, ⟨Go.Proofs.Tryz.func72, ok_72⟩, ⟨Go.Proofs.Tryz.func73, ok_73⟩, ⟨Go.Proofs.Tryz.func74, ok_74⟩, ⟨Go.Proofs.Tryz.func75, ok_75⟩, ⟨Go.Proofs.Tryz.func76, ok_76⟩, ⟨Go.Proofs.Tryz.func77, ok_77⟩, ⟨Go.Proofs.Tryz.func78, ok_78⟩, ⟨Go.Proofs.Tryz.func79, ok_79⟩, ⟨Go.Proofs.Tryz.func80, ok_80⟩, ⟨Go.Proofs.Tryz.func81, ok_81⟩, ⟨Go.Proofs.Tryz.func82, ok_82⟩, ⟨Go.Proofs.Tryz.func83, ok_83⟩, ⟨Go.Proofs.Tryz.func84, ok_84⟩, ⟨Go.Proofs.Tryz.func85, ok_85⟩, ⟨Go.Proofs.Tryz.func86, ok_86⟩, ⟨Go.Proofs.Tryz.func87, ok_87⟩, ⟨Go.Proofs.Tryz.func88, ok_88⟩, ⟨Go.Proofs.Tryz.func89, ok_89⟩, ⟨Go.Proofs.Tryz.func90, ok_90⟩, ⟨Go.Proofs.Tryz.func91, ok_91⟩, ⟨Go.Proofs.Tryz.func92, ok_92⟩, ⟨Go.Proofs.Tryz.func93, ok_93⟩, ⟨Go.Proofs.Tryz.func94, ok_94⟩, ⟨Go.Proofs.Tryz.func95, ok_95⟩, ⟨Go.Proofs.Tryz.func96, ok_96⟩, ⟨Go.Proofs.Tryz.func97, ok_97⟩, ⟨Go.Proofs.Tryz.func98, ok_98⟩, ⟨Go.Proofs.Tryz.func99, ok_99⟩, ⟨Go.Proofs.Tryz.func100, ok_100⟩, ⟨Go.Proofs.Tryz.func101, ok_101⟩, ⟨Go.Proofs.Tryz.func102, ok_102⟩, ⟨Go.Proofs.Tryz.func103, ok_103⟩, ⟨Go.Proofs.Tryz.func104, ok_104⟩, ⟨Go.Proofs.Tryz.func105, ok_105⟩, ⟨Go.Proofs.Tryz.func106, ok_106⟩, ⟨Go.Proofs.Tryz.func107, ok_107⟩, ⟨Go.Proofs.Tryz.func108, ok_108⟩, ⟨Go.Proofs.Tryz.func109, ok_109⟩, ⟨Go.Proofs.Tryz.func110, ok_110⟩, ⟨Go.Proofs.Tryz.func111, ok_111⟩, ⟨Go.Proofs.Tryz.func112, ok_112⟩, ⟨Go.Proofs.Tryz.func113, ok_113⟩, ⟨Go.Proofs.Tryz.func114, ok_114⟩, ⟨Go.Proofs.Tryz.func115, ok_115⟩, ⟨Go.Proofs.Tryz.func116, ok_116⟩, ⟨Go.Proofs.Tryz.func117, ok_117⟩, ⟨Go.Proofs.Tryz.func118, ok_118⟩, ⟨Go.Proofs.Tryz.func119, ok_119⟩, ⟨Go.Proofs.Tryz.func120, ok_120⟩, ⟨Go.Proofs.Tryz.func121, ok_121⟩, ⟨Go.Proofs.Tryz.func122, ok_122⟩, ⟨Go.Proofs.Tryz.func123, ok_123⟩, ⟨Go.Proofs.Tryz.func124, ok_124⟩, ⟨Go.Proofs.Tryz.func125, ok_125⟩, ⟨Go.Proofs.Tryz.func126, ok_126⟩, ⟨Go.Proofs.Tryz.func127, ok_127⟩, ⟨Go.Proofs.Tryz.func128, ok_128⟩, ⟨Go.Proofs.Tryz.func129, ok_129⟩, ⟨Go.Proofs.Tryz.func130, ok_130⟩, ⟨Go.Proofs.Tryz.func131, ok_131⟩, ⟨Go.Proofs.Tryz.func132, ok_132⟩, ⟨Go.Proofs.Tryz.func133, ok_133⟩, ⟨Go.Proofs.Tryz.func134, ok_134⟩, ⟨Go.Proofs.Tryz.func135, ok_135⟩, ⟨Go.Proofs.Tryz.func136, ok_136⟩, ⟨Go.Proofs.Tryz.func137, ok_137⟩, ⟨Go.Proofs.Tryz.func139, ok_139⟩, ⟨Go.Proofs.Tryz.func140, ok_140⟩, ⟨Go.Proofs.Tryz.func141, ok_141⟩, ⟨Go.Proofs.Tryz.func142, ok_142⟩, ⟨Go.Proofs.Tryz.func143, ok_143⟩, ⟨Go.Proofs.Tryz.func144, ok_144⟩, ⟨Go.Proofs.Tryz.func145, ok_145⟩, ⟨Go.Proofs.Tryz.func146, ok_146⟩, trivial⟩
theorem types_all : allTo (tyB Go.Proofs.Tryz.prog C.ti) tis.length = true := by kernel_rfl
end Go.Proofs.YtinphnakebeloaaGreat

namespace Go.Proofs.YtinphnakebeloaaGreat
open Go Go.Am
set_option linter.unusedVariables false
/- 3 camlet/camletlaw12.ScopeChecks -/
/- 4 camlet/camletlaw12.ScopeFree -/
/- 5 camlet/camletlaw12.ScopeLet -/
noncomputable def law12_ScopeLet_l0 : Slot → Slot → Slot → Slot → St → Res := fun x0 x15 x16 x17 s => lpD F_law12_ScopeLet [.seqR, .seqR, .seqL, .seqR, .block] Go.Proofs.Tryz.f5 [(0, .s x0), (15, .s x15), (16, .s x16), (17, .s x17)] s
theorem law12_ScopeLet_l0_eq : ∀ x0 x15 x16 x17 s_3, law12_ScopeLet_l0 x0 x15 x16 x17 s_3 =
 bn T_int .lss x17 x16 fun v18 =>
 condS v18 (
 ix T_Dec x15 x17 fun v19 =>
 ld T_Dec s_3 v19 fun v20 =>
 bx T_Dec v20 fun c =>
 pZ T_Dec c fun c4 =>
 gC T_DecKind 0 c4 fun v22 =>
 bn T_DecKind .neq v22 (.val (.int .i64 1)) fun v23 =>
 bindB (Slot.isB v23 true) fun w_3 =>
 bindB (Slot.isB v23 true) fun w_4 =>
 bind1 (gd w_4 (bif w_3 then (ofSlots (C.ti T_DecKind) (List.take (C.ti T_DecKind).size (List.drop 0 c4))) else none)) fun v26 =>
 bindB (Slot.isB v23 true) fun w_5 =>
 bind1 (gd w_5 (binS (C.ti T_DecKind) .neq v26 (.val (.int .i64 2)))) fun v27 =>
 bind1 (pickS v23 v27 (.val (.bool false))) fun v28 =>
 condS v28 (
 ca F_law12_knows [] s_3 fun v29 s_4 =>
 some (.ret v29, s_4)) (
 nx x17 fun v30 =>
 law12_ScopeLet_l0 x0 x15 x16 v30 s_3)) (
 bind1 (buildS (C.ti T_Pat).zero [(0, (C.ti T_PatKind).size, (.val (.int .i64 1)))]) fun v31 =>
 bind1 (buildS (C.ti T_Exp).zero [(0, (C.ti T_ExpKind).size, (.val (.int .i64 1)))]) fun v33 =>
 bind1 (bslF (C.ti T_Exp).size [v33]) fun v34 =>
 bind1 (buildS (C.ti T_Exp).zero [(0, (C.ti T_ExpKind).size, (.val (.int .i64 7))), (6, (C.ti T_S_Dec).size, x0), (4, (C.ti T_S_Exp).size, v34)]) fun v35 =>
 ca F_law12_val [v31, v35] s_3 fun v36 s_5 =>
 bind1 (bslF (C.ti T_Dec).size [v36]) fun v37 =>
 ca F_ref05_Right [x0] s_5 fun v39 s_6 =>
 bind1 (fieldS (C.ti T_Bad) (C.ti T_Errno) 0 v39) fun v40 =>
 bn T_Errno .neq v40 (.val (.int .i64 0)) fun v41 =>
 bindB (Slot.isB v41 false) fun w_6 =>
 bindB (Slot.isB v41 false) fun w_7 =>
 cg w_7 F_ref05_Right [(gdV w_6 v37)] s_6 fun v44 s_7 =>
 bindB (Slot.isB v41 false) fun w_8 =>
 bind1 (gd w_8 (fieldS (C.ti T_Bad) (C.ti T_Errno) 0 v44)) fun v45 =>
 bindB (Slot.isB v41 false) fun w_9 =>
 bind1 (gd w_9 (binS (C.ti T_Errno) .neq v45 (.val (.int .i64 0)))) fun v46 =>
 bind1 (pickS v41 (.val (.bool true)) v46) fun v47 =>
 condS v47 (
 ca F_law12_knows [] s_7 fun v48 s_8 =>
 some (.ret v48, s_8)) (
 ca F_scope_Check [x0] s_7 fun v50 s_9 =>
 ca F_scope_Check [v37] s_9 fun v52 s_10 =>
 bn T_Bad .eql v50 v52 fun v53 =>
 bindB (Slot.isB v53 true) fun w_10 =>
 cg w_10 F_law12_knows [] s_10 fun v55 s_11 =>
 bind1 (pickS v53 v55 (.val (.bool false))) fun v56 =>
 some (.ret v56, s_11))) := by intros; unfold law12_ScopeLet_l0; exact (loopR_eq _ _ _ _ _ _).trans (by kernel_rfl)
theorem law12_ScopeLet_eq (a0 : AV) (s : St) : cw (.f F_law12_ScopeLet) [a0] s =
 ca F_law12_few [(.val a0)] s fun v7 s_1 =>
 bind1 (unS .not v7) fun v8 =>
 bindB (Slot.isB v8 false) fun w =>
 bindB (Slot.isB v8 false) fun w_1 =>
 bind1 (gd w_1 (lenS (C.ti T_S_Dec) (gdV w (.val a0)))) fun v11 =>
 bindB (Slot.isB v8 false) fun w_2 =>
 bind1 (gd w_2 (binS (C.ti T_int) .eql v11 (.val (.int .i64 0)))) fun v12 =>
 bind1 (pickS v8 (.val (.bool true)) v12) fun v13 =>
 condS v13 (
 ca F_law12_knows [] s_1 fun v14 s_2 =>
 some (.ret v14, s_2)) (
 ln T_S_Dec (.val a0) fun v16 =>
 law12_ScopeLet_l0 (.val a0) (.val a0) v16 (.val (.int .i64 0)) s_1) := (callw_f _ _ _).trans (by kernel_rfl)
/- 6 camlet/camletlaw12.few -/
theorem law12_few_eq (a0 : AV) (s : St) : cw (.f F_law12_few) [a0] s =
 ln T_S_Dec (.val a0) fun v4 =>
 bn T_int .leq v4 (.val (.int .i64 12)) fun v5 =>
 bindB (Slot.isB v5 true) fun w =>
 bindB (Slot.isB v5 true) fun w_1 =>
 cg w_1 F_ref05_Size [(gdV w (.val a0))] s fun v8 s_1 =>
 bindB (Slot.isB v5 true) fun w_2 =>
 bind1 (gd w_2 (binS (C.ti T_int) .leq v8 (.val (.int .i64 300)))) fun v9 =>
 bind1 (pickS v5 v9 (.val (.bool false))) fun v10 =>
 some (.ret v10, s_1) := (callw_f _ _ _).trans (by kernel_rfl)
/- 7 camlet/camletlaw12.knows -/
theorem law12_knows_eq (s : St) : cw (.f F_law12_knows) [] s =
 bind1 (buildS (C.ti T_Pat).zero [(0, (C.ti T_PatKind).size, (.val (.int .i64 2))), (2, (C.ti T_string).size, (.val (.str [120])))]) fun v5 =>
 bind1 (buildS (C.ti T_Exp).zero [(0, (C.ti T_ExpKind).size, (.val (.int .i64 2))), (1, (C.ti T_int).size, (.val (.int .i64 8))), (2, (C.ti T_string).size, (.val (.str [120])))]) fun v6 =>
 bx T_Pat v5 fun c =>
 pZ T_Pat c fun c1 =>
 bx T_Exp v6 fun c_1 =>
 pZ T_Exp c_1 fun c2 =>
 gA T_Pat c1 fun v7 =>
 gA T_Exp c2 fun v8 =>
 ca F_law12_val [v7, v8] s fun v9 s_1 =>
 bind1 (bslF (C.ti T_Dec).size [v9]) fun v10 =>
 ca F_scope_Check [v10] s_1 fun v11 s_2 =>
 bx T_Bad v11 fun c_2 =>
 pZ T_Bad c_2 fun c3 =>
 gA T_Pat c1 fun v12 =>
 bind1 (buildS (C.ti T_Exp).zero [(0, (C.ti T_ExpKind).size, (.val (.int .i64 1)))]) fun v13 =>
 cn F_law12_val [v12, v13] s_2 fun v14 s_3 =>
 gA T_Pat c1 fun v15 =>
 gA T_Exp c2 fun v16 =>
 cn F_law12_val [v15, v16] s_3 fun v17 s_4 =>
 bind1 (bslF (C.ti T_Dec).size [v14, v17]) fun v18 =>
 cn F_scope_Check [v18] s_4 fun v19 s_5 =>
 bx T_Bad v19 fun c_3 =>
 pZ T_Bad c_3 fun c4 =>
 gA T_Bad c3 fun v20 =>
 bind1 (buildS (C.ti T_Bad).zero [(0, (C.ti T_Errno).size, (.val (.int .i64 16))), (1, (C.ti T_int).size, (.val (.int .i64 8))), (2, (C.ti T_string).size, (.val (.str [120])))]) fun v21 =>
 bn T_Bad .eql v20 v21 fun v22 =>
 bindB (Slot.isB v22 true) fun w =>
 bindB (Slot.isB v22 true) fun w_1 =>
 bind1 (gd w_1 (bif w then (ofSlots (C.ti T_Errno) (List.take (C.ti T_Errno).size (List.drop 0 c4))) else none)) fun v25 =>
 bindB (Slot.isB v22 true) fun w_2 =>
 bind1 (gd w_2 (binS (C.ti T_Errno) .eql v25 (.val (.int .i64 0)))) fun v26 =>
 bind1 (pickS v22 v26 (.val (.bool false))) fun v27 =>
 bindB (Slot.isB v27 true) fun w_3 =>
 bind1 (gd w_3 (ofSlots (C.ti T_Exp) (List.take (C.ti T_Exp).size c2))) fun v29 =>
 bindB (Slot.isB v27 true) fun w_4 =>
 cg w_4 F_scope_Free [v29] s_5 fun v30 s_6 =>
 bindB (Slot.isB v27 true) fun w_5 =>
 bind1 (gd w_5 (bslF (C.ti T_string).size [(.val (.str [120]))])) fun v31 =>
 bindB (Slot.isB v27 true) fun w_6 =>
 cg w_6 F_ref12_Same [v30, v31] s_6 fun v32 s_7 =>
 bind1 (pickS v27 v32 (.val (.bool false))) fun v33 =>
 bindB (Slot.isB v33 true) fun w_7 =>
 bind1 (gd w_7 (ofSlots (C.ti T_Pat) (List.take (C.ti T_Pat).size c1))) fun v35 =>
 bindB (Slot.isB v33 true) fun w_8 =>
 bind1 (gd w_8 (ofSlots (C.ti T_Exp) (List.take (C.ti T_Exp).size c2))) fun v36 =>
 bindB (Slot.isB v33 true) fun w_9 =>
 cg w_9 F_law12_val [v35, v36] s_7 fun v37 s_8 =>
 bindB (Slot.isB v33 true) fun w_10 =>
 cg w_10 F_scope_Binds [v37] s_8 fun v38 s_9 =>
 bindB (Slot.isB v33 true) fun w_11 =>
 bind1 (gd w_11 (bslF (C.ti T_string).size [(.val (.str [120]))])) fun v39 =>
 bindB (Slot.isB v33 true) fun w_12 =>
 cg w_12 F_ref12_Same [v38, v39] s_9 fun v40 s_10 =>
 bind1 (pickS v33 v40 (.val (.bool false))) fun v41 =>
 some (.ret v41, s_10) := (callw_f _ _ _).trans (by kernel_rfl)
/- 8 camlet/scope.Check -/
noncomputable def scope_Check_l0 : List Slot → Slot → Slot → Slot → Slot → Slot → St → Res := fun x2 x6 x7 x37 x38 x39 s => lpD F_scope_Check [.seqR, .seqR, .seqR, .seqR, .seqR, .seqR, .seqR, .seqL, .seqR, .block] Go.Proofs.Tryz.f8 [(2, .var x2), (6, .s x6), (7, .s x7), (37, .s x37), (38, .s x38), (39, .s x39)] s
theorem scope_Check_l0_eq : ∀ x2 x6 x7 x37 x38 x39 s_8, scope_Check_l0 x2 x6 x7 x37 x38 x39 s_8 =
 bn T_int .lss x39 x38 fun v40 =>
 condS v40 (
 ix T_Dec x37 x39 fun v41 =>
 ld T_Dec s_8 v41 fun v42 =>
 bx T_Dec v42 fun c_8 =>
 pZ T_Dec c_8 fun c9 =>
 ld T_P_walk s_8 x7 fun v43 =>
 gA T_Dec c9 fun v44 =>
 ca F_scope_walk_dec [v43, v44] s_8 fun v45 s_9 =>
 ld T_Table s_9 x6 fun v47 =>
 gA T_Dec c9 fun v48 =>
 ca F_decl_Add [v47, v48] s_9 fun v49 s_10 =>
 bind1 (extractS v49 0) fun v50 =>
 bind1 (extractS v49 1) fun v51 =>
 bx T_Table v50 fun c_9 =>
 bindS (stV s_10 x6 c_9) fun s_11 =>
 nx x39 fun v52 =>
 scope_Check_l0 x2 x6 x7 x37 x38 v52 s_11) (
 ld T_P_walk s_8 x7 fun v53 =>
 bind1 (nilCheckV v53) fun v54 =>
 bind1 (faV 1 v54) fun v55 =>
 ld T_Bad s_8 v55 fun v56 =>
 bx T_Bad v56 fun c_10 =>
 bindL (putAt x2 0 c_10) fun c2_2 =>
 gA T_Bad c2_2 fun v => some (.ret v, s_8)) := by intros; unfold scope_Check_l0; exact (loopR_eq _ _ _ _ _ _).trans (by kernel_rfl)
theorem scope_Check_eq (a0 : AV) (s : St) : cw (.f F_scope_Check) [a0] s =
 ca F_tree_Right [(.val a0)] s fun v11 s_1 =>
 bx T_Bad v11 fun c =>
 pZ T_Bad c fun c3 =>
 gA T_Bad c3 fun v12 =>
 bind1 (buildS (C.ti T_Bad).zero []) fun v13 =>
 bn T_Bad .neq v12 v13 fun v14 =>
 condS v14 (
 gA T_Bad c3 fun v15 =>
 bx T_Bad v15 fun c_1 =>
 pZ T_Bad c_1 fun c2 =>
 gA T_Bad c2 fun v => some (.ret v, s_1)) (
 ca F_decl_Of [(.val a0)] s_1 fun v18 s_2 =>
 bind1 (extractS v18 0) fun v19 =>
 bind1 (extractS v18 1) fun v20 =>
 bx T_Bad v20 fun c_2 =>
 pZ T_Bad c_2 fun c5 =>
 gA T_Bad c5 fun v21 =>
 bind1 (buildS (C.ti T_Bad).zero []) fun v22 =>
 bn T_Bad .neq v21 v22 fun v23 =>
 condS v23 (
 gA T_Bad c5 fun v24 =>
 bx T_Bad v24 fun c_3 =>
 pZ T_Bad c_3 fun c2_1 =>
 gA T_Bad c2_1 fun v => some (.ret v, s_2)) (
 ca F_decl_Start [] s_2 fun v25 s_3 =>
 bx T_Table v25 fun c_4 =>
 bindS (stV (St.addLoc s_3 (.var (List.map .val (C.ti T_Table).zero))) (.val (.vp s_3.locs.length 0)) c_4) fun s_4 =>
 bind1 (buildS (C.ti T_walk).zero [(0, (C.ti T_x_map_string_int).size, (.val (.mp s_4.locs.length)))]) fun v27 =>
 bx T_walk v27 fun c28 =>
 bx T_P_walk (.val (.vp (St.addLoc s_4 (.map [] 0)).locs.length 0)) fun c_5 =>
 bindS (stV (St.addLoc (St.addLoc (St.addLoc s_4 (.map [] 0)) (.var c28)) (.var (List.map .val (C.ti T_P_walk).zero))) (.val (.vp (St.addLoc (St.addLoc s_4 (.map [] 0)) (.var c28)).locs.length 0)) c_5) fun s_5 =>
 ld T_P_walk s_5 (.val (.vp (St.addLoc (St.addLoc s_4 (.map [] 0)) (.var c28)).locs.length 0)) fun v29 =>
 bind1 (fnS F_scope_Check_1 [(.val (.vp (St.addLoc (St.addLoc s_4 (.map [] 0)) (.var c28)).locs.length 0))]) fun v30 =>
 bind1 (nilCheckV v29) fun v31 =>
 bind1 (faV 5 v31) fun v32 =>
 bx T_x_func_string_int v30 fun c_6 =>
 bindS (stV s_5 v32 c_6) fun s_6 =>
 ld T_P_walk s_6 (.val (.vp (St.addLoc (St.addLoc s_4 (.map [] 0)) (.var c28)).locs.length 0)) fun v33 =>
 bind1 (fnS F_scope_Check_2 [(.val (.vp s_3.locs.length 0)), (.val (.vp (St.addLoc (St.addLoc s_4 (.map [] 0)) (.var c28)).locs.length 0))]) fun v34 =>
 bind1 (nilCheckV v33) fun v35 =>
 bind1 (faV 4 v35) fun v36 =>
 bx T_x_func_string_int_int v34 fun c_7 =>
 bindS (stV s_6 v36 c_7) fun s_7 =>
 ln T_S_Dec (.val a0) fun v38 =>
 scope_Check_l0 ((List.map .val (C.ti T_Bad).zero)) (.val (.vp s_3.locs.length 0)) ((.val (.vp (St.addLoc (St.addLoc s_4 (.map [] 0)) (.var c28)).locs.length 0))) (.val a0) v38 (.val (.int .i64 0)) s_7)) := (callw_f _ _ _).trans (by kernel_rfl)
/- 9 camlet/camletref12.Check -/
/- 10 camlet/camletlaw12.val -/
theorem law12_val_eq (a0 : AV) (a1 : AV) (s : St) : cw (.f F_law12_val) [a0, a1] s =
 bx T_Pat (.val a0) fun c2 =>
 bx T_Exp (.val a1) fun c3 =>
 gA T_Pat c2 fun v5 =>
 gA T_Exp c3 fun v6 =>
 bind1 (buildS (C.ti T_Case).zero [(0, (C.ti T_Pat).size, v5), (5, (C.ti T_Exp).size, v6)]) fun v7 =>
 bind1 (bslF (C.ti T_Case).size [v7]) fun v8 =>
 bind1 (buildS (C.ti T_Dec).zero [(0, (C.ti T_DecKind).size, (.val (.int .i64 1))), (5, (C.ti T_S_Case).size, v8)]) fun v9 =>
 bx T_Dec v9 fun c =>
 pZ T_Dec c fun c4 =>
 gA T_Dec c4 fun v => some (.ret v, s) := (callw_f _ _ _).trans (by kernel_rfl)
/- 11 camlet/camletref12.Same -/
noncomputable def ref12_Same_l0 : Slot → Slot → Slot → St → Res := fun x0 x1 x5 s => lpD F_ref12_Same [.seqR, .seqR, .seqL, .seqR, .block] Go.Proofs.Tryz.f11 [(0, .s x0), (1, .s x1), (5, .s x5)] s
theorem ref12_Same_l0_eq : ∀ x0 x1 x5 s_1, ref12_Same_l0 x0 x1 x5 s_1 =
 ln T_S_string x0 fun v13 =>
 bn T_int .lss x5 v13 fun v14 =>
 condS v14 (
 ix T_string x0 x5 fun v19 =>
 ld T_string s_1 v19 fun v20 =>
 ix T_string x1 x5 fun v23 =>
 ld T_string s_1 v23 fun v24 =>
 bn T_string .neq v20 v24 fun v25 =>
 condS v25 (
 some (.ret (.val (.bool false)), s_1)) (
 nx x5 fun v16 =>
 ref12_Same_l0 x0 x1 v16 s_1)) (
 some (.ret (.val (.bool true)), s_1)) := by intros; unfold ref12_Same_l0; exact (loopR_eq _ _ _ _ _ _).trans (by kernel_rfl)
theorem ref12_Same_eq (a0 : AV) (a1 : AV) (s : St) : cw (.f F_ref12_Same) [a0, a1] s =
 ln T_S_string (.val a0) fun v7 =>
 ln T_S_string (.val a1) fun v9 =>
 bn T_int .neq v7 v9 fun v10 =>
 condS v10 (
 some (.ret (.val (.bool false)), s)) (
 ref12_Same_l0 (.val a0) (.val a1) (.val (.int .i64 0)) s) := (callw_f _ _ _).trans (by kernel_rfl)
/- 12 camlet/scope.Free -/
theorem scope_Free_eq (a0 : AV) (s : St) : cw (.f F_scope_Free) [a0] s =
 bx T_Exp (.val a0) fun c1 =>
 gA T_Exp c1 fun v5 =>
 ca F_tree_RightExp [v5] s fun v6 s_1 =>
 bind1 (buildS (C.ti T_Bad).zero []) fun v7 =>
 bn T_Bad .neq v6 v7 fun v8 =>
 condS v8 (
 some (.ret (.val (.nils)), s_1)) (
 bind1 (buildS (C.ti T_walk).zero [(0, (C.ti T_x_map_string_int).size, (.val (.mp (St.addLoc s_1 (.var (List.map .val (C.ti T_S_string).zero))).locs.length)))]) fun v10 =>
 bx T_walk v10 fun c11 =>
 bind1 (fnS F_scope_Free_1 [(.val (.vp s_1.locs.length 0))]) fun v13 =>
 bind1 (nilCheckV (.val (.vp (St.addLoc (St.addLoc s_1 (.var (List.map .val (C.ti T_S_string).zero))) (.map [] 0)).locs.length 0))) fun v14 =>
 bind1 (faV 5 v14) fun v15 =>
 bx T_x_func_string_int v13 fun c =>
 bindS (stV (St.addLoc (St.addLoc (St.addLoc s_1 (.var (List.map .val (C.ti T_S_string).zero))) (.map [] 0)) (.var c11)) v15 c) fun s_2 =>
 bind1 (nilCheckV (.val (.vp (St.addLoc (St.addLoc s_1 (.var (List.map .val (C.ti T_S_string).zero))) (.map [] 0)).locs.length 0))) fun v17 =>
 bind1 (faV 4 v17) fun v18 =>
 bx T_x_func_string_int_int (.val (.fn F_scope_Free_2 [])) fun c_1 =>
 bindS (stV s_2 v18 c_1) fun s_3 =>
 bind1 (nilCheckV (.val (.vp (St.addLoc (St.addLoc s_1 (.var (List.map .val (C.ti T_S_string).zero))) (.map [] 0)).locs.length 0))) fun v20 =>
 bind1 (faV 7 v20) fun v21 =>
 bx T_bool (.val (.bool true)) fun c_2 =>
 bindS (stV s_3 v21 c_2) fun s_4 =>
 gA T_Exp c1 fun v23 =>
 ca F_scope_walk_exp [(.val (.vp (St.addLoc (St.addLoc s_1 (.var (List.map .val (C.ti T_S_string).zero))) (.map [] 0)).locs.length 0)), v23] s_4 fun v24 s_5 =>
 ld T_S_string s_5 (.val (.vp s_1.locs.length 0)) fun v25 =>
 some (.ret v25, s_5)) := (callw_f _ _ _).trans (by kernel_rfl)
/- 13 camlet/camletref12.Free -/
/- 14 camlet/scope.Binds -/
theorem scope_Binds_eq (a0 : AV) (s : St) : cw (.f F_scope_Binds) [a0] s =
 bx T_Dec (.val a0) fun c1 =>
 gA T_Dec c1 fun v3 =>
 bind1 (bslF (C.ti T_Dec).size [v3]) fun v4 =>
 ca F_tree_Right [v4] s fun v5 s_1 =>
 bind1 (buildS (C.ti T_Bad).zero []) fun v6 =>
 bn T_Bad .neq v5 v6 fun v7 =>
 condS v7 (
 some (.ret (.val (.nils)), s_1)) (
 gA T_Dec c1 fun v8 =>
 ca F_scope_names [v8] s_1 fun v9 s_2 =>
 some (.ret v9, s_2)) := (callw_f _ _ _).trans (by kernel_rfl)
/- 15 camlet/camletref12.Binds -/
/- 16 camlet/camletref05.Right -/
theorem ref05_Right_eq (a0 : AV) (s : St) : cw (.f F_ref05_Right) [a0] s =
 ca F_ref05_Of [(.val a0)] s fun v4 s_1 =>
 ca F_ref05_Deep [(.val a0)] s_1 fun v6 s_2 =>
 ca F_ref05_first [v4, v6] s_2 fun v7 s_3 =>
 bx T_Bad v7 fun c =>
 pZ T_Bad c fun c2 =>
 gA T_Bad c2 fun v => some (.ret v, s_3) := (callw_f _ _ _).trans (by kernel_rfl)
/- 17 camlet/camletref05.Size -/
theorem ref05_Size_eq (a0 : AV) (s : St) : cw (.f F_ref05_Size) [a0] s =
 ca F_ref05_Of [(.val a0)] s fun v4 s_1 =>
 ca F_ref05_count [v4] s_1 fun v5 s_2 =>
 some (.ret v5, s_2) := (callw_f _ _ _).trans (by kernel_rfl)
/- 18 camlet/tree.Right -/
theorem tree_Right_eq (a0 : AV) (s : St) : cw (.f F_tree_Right) [a0] s =
 bx T_S_Dec (.val a0) fun c1 =>
 bindA (avs c1) fun l1 =>
 ld T_S_Dec s (.val (.cp l1)) fun v3 =>
 ca F_tree_program [v3] s fun v4 s_1 =>
 bind1 (fnS F_tree_Right_1 [(.val (.cp l1))]) fun v5 =>
 ca F_tree_right [v4, v5] s_1 fun v6 s_2 =>
 bx T_Bad v6 fun c =>
 pZ T_Bad c fun c2 =>
 gA T_Bad c2 fun v => some (.ret v, s_2) := (callw_f _ _ _).trans (by kernel_rfl)
/- 19 camlet/decl.Of -/
noncomputable def decl_Of_l0 : List Slot → Slot → Slot → Slot → Slot → St → Res := fun x3 x4 x10 x11 x12 s => lpD F_decl_Of [.seqR, .seqR, .seqL, .seqR, .block] Go.Proofs.Tryz.f19 [(3, .var x3), (4, .s x4), (10, .s x10), (11, .s x11), (12, .s x12)] s
theorem decl_Of_l0_eq : ∀ x3 x4 x10 x11 x12 s_2, decl_Of_l0 x3 x4 x10 x11 x12 s_2 =
 bn T_int .lss x12 x11 fun v13 =>
 condS v13 (
 ix T_Dec x10 x12 fun v14 =>
 ld T_Dec s_2 v14 fun v15 =>
 bx T_Dec v15 fun c =>
 pZ T_Dec c fun c6 =>
 gA T_Dec c6 fun v18 =>
 ca F_decl_Add [x4, v18] s_2 fun v19 s_3 =>
 bind1 (extractS v19 0) fun v20 =>
 bind1 (extractS v19 1) fun v21 =>
 bx T_Bad v21 fun c_1 =>
 pZ T_Bad c_1 fun c8 =>
 gC T_Errno 0 c8 fun v23 =>
 bn T_Errno .neq v23 (.val (.int .i64 0)) fun v24 =>
 condS v24 (
 gA T_Bad c8 fun v25 =>
 bx T_Bad v25 fun c_2 =>
 bindL (putAt x3 0 c_2) fun c3 =>
 bind1 (tupS [(some (.val (.nils))), (ofSlots (C.ti T_Bad) (List.take (C.ti T_Bad).size c3))]) fun v => some (.ret v, s_3)) (
 nx x12 fun v27 =>
 decl_Of_l0 x3 v20 x10 x11 v27 s_3)) (
 bind1 (buildS (C.ti T_Bad).zero []) fun v29 =>
 bx T_Bad v29 fun c_3 =>
 bindL (putAt x3 0 c_3) fun c3_1 =>
 bind1 (tupS [(some x4), (ofSlots (C.ti T_Bad) (List.take (C.ti T_Bad).size c3_1))]) fun v => some (.ret v, s_2)) := by intros; unfold decl_Of_l0; exact (loopR_eq _ _ _ _ _ _).trans (by kernel_rfl)
theorem decl_Of_eq (a0 : AV) (s : St) : cw (.f F_decl_Of) [a0] s =
 ca F_decl_Start [] s fun v9 s_1 =>
 ln T_S_Dec (.val a0) fun v11 =>
 decl_Of_l0 ((List.map .val (C.ti T_Bad).zero)) v9 (.val a0) v11 (.val (.int .i64 0)) s_1 := (callw_f _ _ _).trans (by kernel_rfl)
/- 20 camlet/decl.Start -/
theorem decl_Start_eq (s : St) : cw (.f F_decl_Start) [] s =
 ca F_decl_place [(.val (.str [40, 41])), (.val (.str [117, 110, 105, 116])), (.val (.int .i64 0)), (.val (.int .i64 1))] s fun v1 s_1 =>
 ca F_decl_place [(.val (.str [102, 97, 108, 115, 101])), (.val (.str [98, 111, 111, 108])), (.val (.int .i64 0)), (.val (.int .i64 2))] s_1 fun v2 s_2 =>
 ca F_decl_place [(.val (.str [116, 114, 117, 101])), (.val (.str [98, 111, 111, 108])), (.val (.int .i64 1)), (.val (.int .i64 2))] s_2 fun v3 s_3 =>
 ca F_decl_place [(.val (.str [68, 105, 118])), (.val (.str [101, 120, 110])), (.val (.int .i64 0)), (.val (.int .i64 0))] s_3 fun v4 s_4 =>
 ca F_decl_place [(.val (.str [69, 111, 102])), (.val (.str [101, 120, 110])), (.val (.int .i64 1)), (.val (.int .i64 0))] s_4 fun v5 s_5 =>
 ca F_decl_place [(.val (.str [77, 97, 116, 99, 104])), (.val (.str [101, 120, 110])), (.val (.int .i64 2)), (.val (.int .i64 0))] s_5 fun v6 s_6 =>
 bind1 (bslF (C.ti T_Place).size [v1, v2, v3, v4, v5, v6]) fun v7 =>
 some (.ret v7, s_6) := (callw_f _ _ _).trans (by kernel_rfl)
/- 21 camlet/scope.Check$1 -/
theorem scope_Check_1_eq (a0 : AV) (a1 : AV) (a2 : AV) (s : St) : cw (.f F_scope_Check_1) [a0, a1, a2] s =
 ld T_P_walk s (.val a2) fun v5 =>
 ca F_scope_walk_fail [v5, (.val (.int .i64 16)), (.val a1), (.val a0)] s fun v8 s_1 =>
 bind1 (tupS []) fun v => some (.ret v, s_1) := (callw_f _ _ _).trans (by kernel_rfl)
/- 22 (*camlet/scope.walk).fail -/
theorem scope_walk_fail_eq (a0 : AV) (a1 : AV) (a2 : AV) (a3 : AV) (s : St) : cw (.f F_scope_walk_fail) [a0, a1, a2, a3] s =
 bind1 (nilCheckV (.val a0)) fun v9 =>
 bind1 (faV 6 v9) fun v10 =>
 ld T_bool s v10 fun v11 =>
 bind1 (unS .not v11) fun v12 =>
 bindB (Slot.isB v12 true) fun w =>
 bindB (Slot.isB v12 true) fun w_1 =>
 bind1 (gd w_1 (nilCheckV (gdV w (.val a0)))) fun v15 =>
 bindB (Slot.isB v12 true) fun w_2 =>
 bind1 (gd w_2 (faV 7 v15)) fun v16 =>
 bindB (Slot.isB v12 true) fun w_3 =>
 bind1 (gd w_3 (ldV (C.ti T_bool) false s v16)) fun v17 =>
 bindB (Slot.isB v12 true) fun w_4 =>
 bind1 (gd w_4 (unS .not v17)) fun v18 =>
 bind1 (pickS v12 v18 (.val (.bool false))) fun v19 =>
 condS v19 (
 bind1 (buildS (C.ti T_Bad).zero [(0, (C.ti T_Errno).size, (.val a1)), (1, (C.ti T_int).size, (.val a2)), (2, (C.ti T_string).size, (.val a3))]) fun v25 =>
 bind1 (nilCheckV (.val a0)) fun v26 =>
 bind1 (faV 1 v26) fun v27 =>
 bx T_Bad v25 fun c =>
 bindS (stV s v27 c) fun s_1 =>
 bind1 (nilCheckV (.val a0)) fun v28 =>
 bind1 (faV 6 v28) fun v29 =>
 bx T_bool (.val (.bool true)) fun c_1 =>
 bindS (stV s_1 v29 c_1) fun s_2 =>
 bind1 (tupS []) fun v => some (.ret v, s_2)) (
 bind1 (tupS []) fun v => some (.ret v, s)) := (callw_f _ _ _).trans (by kernel_rfl)
/- 23 camlet/scope.Check$2 -/
theorem scope_Check_2_eq (a0 : AV) (a1 : AV) (a2 : AV) (a3 : AV) (a4 : AV) (s : St) : cw (.f F_scope_Check_2) [a0, a1, a2, a3, a4] s =
 ld T_Table s (.val a3) fun v11 =>
 ca F_decl_Find [v11, (.val a0)] s fun v13 s_1 =>
 bind1 (extractS v13 0) fun v14 =>
 bind1 (extractS v13 1) fun v15 =>
 bx T_Place v14 fun c =>
 pZ T_Place c fun c8 =>
 bind1 (unS .not v15) fun v18 =>
 condS v18 (
 ld T_P_walk s_1 (.val a4) fun v19 =>
 ca F_scope_walk_fail [v19, (.val (.int .i64 17)), (.val a1), (.val a0)] s_1 fun v22 s_2 =>
 bind1 (tupS []) fun v => some (.ret v, s_2)) (
 gC T_bool 4 c8 fun v25 =>
 bn T_int .gtr (.val a2) (.val (.int .i64 0)) fun v27 =>
 bn T_bool .neq v25 v27 fun v28 =>
 condS v28 (
 ld T_P_walk s_1 (.val a4) fun v29 =>
 ca F_scope_walk_fail [v29, (.val (.int .i64 19)), (.val a1), (.val a0)] s_1 fun v32 s_3 =>
 bind1 (tupS []) fun v => some (.ret v, s_3)) (
 bind1 (tupS []) fun v => some (.ret v, s_1))) := (callw_f _ _ _).trans (by kernel_rfl)
/- 24 camlet/decl.Find -/
noncomputable def decl_Find_l0 : Slot → List Slot → Slot → Slot → Slot → St → Res := fun x1 x4 x8 x9 x10 s => lpD F_decl_Find [.seqR, .seqL, .seqR, .block] Go.Proofs.Tryz.f24 [(1, .s x1), (4, .var x4), (8, .s x8), (9, .s x9), (10, .s x10)] s
theorem decl_Find_l0_eq : ∀ x1 x4 x8 x9 x10 s_1, decl_Find_l0 x1 x4 x8 x9 x10 s_1 =
 bn T_int .lss x10 x9 fun v11 =>
 condS v11 (
 ix T_Place x8 x10 fun v12 =>
 ld T_Place s_1 v12 fun v13 =>
 bx T_Place v13 fun c =>
 pZ T_Place c fun c7 =>
 gC T_string 0 c7 fun v15 =>
 bn T_string .eql v15 x1 fun v17 =>
 condS v17 (
 gC T_Ty 6 c7 fun v20 =>
 ca F_decl_clone [v20] s_1 fun v21 s_2 =>
 bx T_Ty v21 fun c_1 =>
 bindL (putAt c7 6 c_1) fun c7_1 =>
 gA T_Place c7_1 fun v24 =>
 bx T_Place v24 fun c_2 =>
 bindL (putAt x4 0 c_2) fun c4 =>
 bind1 (tupS [(ofSlots (C.ti T_Place) (List.take (C.ti T_Place).size c4)), (some (.val (.bool true)))]) fun v => some (.ret v, s_2)) (
 nx x10 fun v25 =>
 decl_Find_l0 x1 x4 x8 x9 v25 s_1)) (
 bind1 (buildS (C.ti T_Place).zero []) fun v26 =>
 bx T_Place v26 fun c_3 =>
 bindL (putAt x4 0 c_3) fun c4_1 =>
 bind1 (tupS [(ofSlots (C.ti T_Place) (List.take (C.ti T_Place).size c4_1)), (some (.val (.bool false)))]) fun v => some (.ret v, s_1)) := by intros; unfold decl_Find_l0; exact (loopR_eq _ _ _ _ _ _).trans (by kernel_rfl)
theorem decl_Find_eq (a0 : AV) (a1 : AV) (s : St) : cw (.f F_decl_Find) [a0, a1] s =
 ln T_Table (.val a0) fun v9 =>
 decl_Find_l0 (.val a1) ((List.map .val (C.ti T_Place).zero)) (.val a0) v9 (.val (.int .i64 0)) s := (callw_f _ _ _).trans (by kernel_rfl)
/- 25 (*camlet/scope.walk).dec -/
noncomputable def scope_walk_dec_l0 : Slot → List Slot → Slot → Slot → Slot → St → Res := fun x0 x3 x16 x17 x18 s => lpD F_scope_walk_dec [.seqR, .seqL, .seqR, .block, .seqR, .thn, .seqL, .seqR, .block] Go.Proofs.Tryz.f25 [(0, .s x0), (3, .var x3), (16, .s x16), (17, .s x17), (18, .s x18)] s
noncomputable def scope_walk_dec_l1 : Slot → Slot → Slot → Slot → Slot → Slot → St → Res := fun x0_1 x7 x8 x44 x45 x46 s => lpD F_scope_walk_dec [.seqR, .seqL, .seqR, .block, .seqR, .els, .seqR, .thn, .seqR, .seqR, .seqL, .seqR, .block] Go.Proofs.Tryz.f25 [(0, .s x0_1), (7, .s x7), (8, .s x8), (44, .s x44), (45, .s x45), (46, .s x46)] s
theorem scope_walk_dec_l0_eq : ∀ x0 x3 x16 x17 x18 s_1, scope_walk_dec_l0 x0 x3 x16 x17 x18 s_1 =
 bn T_int .lss x18 x17 fun v19 =>
 condS v19 (
 ix T_Case x16 x18 fun v20 =>
 ld T_Case s_1 v20 fun v21 =>
 bx T_Case v21 fun c =>
 pZ T_Case c fun c6 =>
 gC T_Pat 0 c6 fun v24 =>
 ca F_scope_walk_pat [x0, v24, (.val (.mp s_1.locs.length))] (St.addLoc s_1 (.map [] 0)) fun v26 s_2 =>
 gC T_Exp 5 c6 fun v29 =>
 ca F_scope_walk_exp [x0, v29] s_2 fun v30 s_3 =>
 nx x18 fun v31 =>
 scope_walk_dec_l0 x0 x3 x16 x17 v31 s_3) (
 gA T_Dec x3 fun v33 =>
 ca F_scope_names [v33] s_1 fun v34 s_4 =>
 ca F_scope_walk_bind [x0, v34] s_4 fun v35 s_5 =>
 some (.ret v35, s_5)) := by intros; unfold scope_walk_dec_l0; exact (loopR_eq _ _ _ _ _ _).trans (by kernel_rfl)
theorem scope_walk_dec_l1_eq : ∀ x0_1 x7 x8 x44 x45 x46 s_8, scope_walk_dec_l1 x0_1 x7 x8 x44 x45 x46 s_8 =
 bn T_int .lss x46 x45 fun v47 =>
 condS v47 (
 ix T_Fun x44 x46 fun v48 =>
 ld T_Fun s_8 v48 fun v49 =>
 bx T_Fun v49 fun c_1 =>
 pZ T_Fun c_1 fun c10 =>
 gC T_string 0 c10 fun v52 =>
 bind1 (lookupS (C.ti T_string) (C.ti T_int) s_8 x8 v52 false) fun v53 =>
 nx v53 fun v54 =>
 bind2 (updateS (C.ti T_string) (C.ti T_int) s_8 x8 v52 v54) fun _ s_9 =>
 gC T_string 0 c10 fun v57 =>
 bind1 (lookupS (C.ti T_string) (C.ti T_int) s_9 x8 v57 false) fun v58 =>
 bn T_int .gtr v58 (.val (.int .i64 1)) fun v59 =>
 condS v59 (
 gC T_int 1 c10 fun v62 =>
 gC T_string 0 c10 fun v64 =>
 ca F_scope_walk_fail [x0_1, (.val (.int .i64 9)), v62, v64] s_9 fun v65 s_10 =>
 gC T_Case 2 c10 fun v68 =>
 ca F_scope_walk_kase [x0_1, v68] s_10 fun v69 s_11 =>
 nx x46 fun v70 =>
 scope_walk_dec_l1 x0_1 x7 x8 x44 x45 v70 s_11) (
 gC T_Case 2 c10 fun v68_1 =>
 ca F_scope_walk_kase [x0_1, v68_1] s_9 fun v69_1 s_12 =>
 nx x46 fun v70_1 =>
 scope_walk_dec_l1 x0_1 x7 x8 x44 x45 v70_1 s_12)) (
 some (.ret x7, s_8)) := by intros; unfold scope_walk_dec_l1; exact (loopR_eq _ _ _ _ _ _).trans (by kernel_rfl)
theorem scope_walk_dec_eq (a0 : AV) (a1 : AV) (s : St) : cw (.f F_scope_walk_dec) [a0, a1] s =
 bx T_Dec (.val a1) fun c3 =>
 gC T_DecKind 0 c3 fun v12 =>
 bn T_DecKind .eql v12 (.val (.int .i64 1)) fun v14 =>
 condS v14 (
 gC T_S_Case 5 c3 fun v16 =>
 ln T_S_Case v16 fun v17 =>
 scope_walk_dec_l0 (.val a0) c3 v16 v17 (.val (.int .i64 0)) s) (
 bn T_DecKind .eql v12 (.val (.int .i64 2)) fun v37 =>
 condS v37 (
 gA T_Dec c3 fun v39 =>
 ca F_scope_names [v39] s fun v40 s_6 =>
 ca F_scope_walk_bind [(.val a0), v40] s_6 fun v41 s_7 =>
 gC T_S_Fun 6 c3 fun v44 =>
 ln T_S_Fun v44 fun v45 =>
 scope_walk_dec_l1 (.val a0) v41 (.val (.mp s_7.locs.length)) v44 v45 (.val (.int .i64 0)) (St.addLoc s_7 (.map [] 0))) (
 some (.ret (.val (.fn F_scope_walk_dec_1 [])), s))) := (callw_f _ _ _).trans (by kernel_rfl)
/- 26 camlet/decl.Add -/
noncomputable def decl_Add_j2 : List Slot → Slot → List Slot → St → Res := fun x5_4 x6_4 x18_2 s => pw (run C false F_decl_Add (codeAt [.seqR, .scope, .seqR, .seqR, .seqR, .seqR, .seqR, .seqR, .seqR, .seqR, .seqR, .seqR, .seqR] (body Go.Proofs.Tryz.f26)) [(5, .var x5_4), (6, .s x6_4), (18, .var x18_2)] s (ctxR C false F_decl_Add [.seqR, .scope, .seqR, .seqR, .seqR, .seqR, .seqR, .seqR, .seqR, .seqR, .seqR, .seqR, .seqR] (body Go.Proofs.Tryz.f26) (outK C (Go.Proofs.Tryz.f26).results.toList)))
noncomputable def decl_Add_j3 : List Slot → List Slot → Slot → Slot → Slot → Slot → Slot → Slot → List Slot → Slot → List Slot → List Slot → List Slot → Slot → Slot → Slot → St → Res := fun x3_4 x5_5 x6_5 x7_4 x8_4 x9_4 x10_4 x13_3 x16_2 x17_2 x18_3 x20_1 x25 x90_2 x91_2 x92_2 s => pw (run C false F_decl_Add (codeAt [.seqR, .scope, .seqR, .seqR, .seqR, .seqR, .seqR, .seqR, .seqR, .seqR, .seqR, .seqR, .seqL, .seqR, .block, .loop, .seqR, .seqR, .seqL, .block, .seqR, .seqR, .seqR, .seqR, .seqR, .seqR, .seqR, .seqR] (body Go.Proofs.Tryz.f26)) [(3, .var x3_4), (5, .var x5_5), (6, .s x6_5), (7, .s x7_4), (8, .s x8_4), (9, .s x9_4), (10, .s x10_4), (13, .s x13_3), (16, .var x16_2), (17, .s x17_2), (18, .var x18_3), (20, .var x20_1), (25, .var x25), (90, .s x90_2), (91, .s x91_2), (92, .s x92_2)] s (ctxR C false F_decl_Add [.seqR, .scope, .seqR, .seqR, .seqR, .seqR, .seqR, .seqR, .seqR, .seqR, .seqR, .seqR, .seqL, .seqR, .block, .loop, .seqR, .seqR, .seqL, .block, .seqR, .seqR, .seqR, .seqR, .seqR, .seqR, .seqR, .seqR] (body Go.Proofs.Tryz.f26) (outK C (Go.Proofs.Tryz.f26).results.toList)))
noncomputable def decl_Add_j1 : List Slot → List Slot → Slot → Slot → Slot → Slot → Slot → Slot → List Slot → Slot → List Slot → List Slot → Slot → Slot → Slot → Slot → Slot → St → Res := fun x3_3 x5_3 x6_3 x7_3 x8_3 x9_3 x10_3 x13_2 x16_1 x17_1 x18_1 x20 x21 x22 x90_1 x91_1 x92_1 s => pw (run C false F_decl_Add (codeAt [.seqR, .scope, .seqR, .seqR, .seqR, .seqR, .seqR, .seqR, .seqR, .seqR, .seqR, .seqR, .seqL, .seqR, .block, .loop, .seqR, .seqR, .seqL, .block, .seqR, .seqR, .seqR, .seqR] (body Go.Proofs.Tryz.f26)) [(3, .var x3_3), (5, .var x5_3), (6, .s x6_3), (7, .s x7_3), (8, .s x8_3), (9, .s x9_3), (10, .s x10_3), (13, .s x13_2), (16, .var x16_1), (17, .s x17_1), (18, .var x18_1), (20, .var x20), (21, .s x21), (22, .s x22), (90, .s x90_1), (91, .s x91_1), (92, .s x92_1)] s (ctxR C false F_decl_Add [.seqR, .scope, .seqR, .seqR, .seqR, .seqR, .seqR, .seqR, .seqR, .seqR, .seqR, .seqR, .seqL, .seqR, .block, .loop, .seqR, .seqR, .seqL, .block, .seqR, .seqR, .seqR, .seqR] (body Go.Proofs.Tryz.f26) (outK C (Go.Proofs.Tryz.f26).results.toList)))
noncomputable def decl_Add_l1 : List Slot → List Slot → Slot → Slot → Slot → Slot → Slot → Slot → List Slot → Slot → List Slot → Slot → Slot → Slot → St → Res := fun x3_2 x5_2 x6_2 x7_2 x8_2 x9_2 x10_2 x13_1 x16 x17 x18 x90 x91 x92 s => lpD F_decl_Add [.seqR, .scope, .seqR, .seqR, .seqR, .seqR, .seqR, .seqR, .seqR, .seqR, .seqR, .seqR, .seqL, .seqR, .block] Go.Proofs.Tryz.f26 [(3, .var x3_2), (5, .var x5_2), (6, .s x6_2), (7, .s x7_2), (8, .s x8_2), (9, .s x9_2), (10, .s x10_2), (13, .s x13_1), (16, .var x16), (17, .s x17), (18, .var x18), (90, .s x90), (91, .s x91), (92, .s x92)] s
noncomputable def decl_Add_j0 : List Slot → List Slot → Slot → Slot → Slot → Slot → Slot → Slot → St → Res := fun x3_1 x5_1 x6_1 x7_1 x8_1 x9_1 x10_1 x13 s => pw (run C false F_decl_Add (codeAt [.seqR, .scope, .seqR, .seqR, .seqR, .seqR, .seqR, .seqR, .seqR] (body Go.Proofs.Tryz.f26)) [(3, .var x3_1), (5, .var x5_1), (6, .s x6_1), (7, .s x7_1), (8, .s x8_1), (9, .s x9_1), (10, .s x10_1), (13, .s x13)] s (ctxR C false F_decl_Add [.seqR, .scope, .seqR, .seqR, .seqR, .seqR, .seqR, .seqR, .seqR] (body Go.Proofs.Tryz.f26) (outK C (Go.Proofs.Tryz.f26).results.toList)))
noncomputable def decl_Add_l0 : List Slot → List Slot → Slot → Slot → Slot → Slot → Slot → Slot → Slot → Slot → St → Res := fun x3 x5 x6 x7 x8 x9 x10 x34 x35 x36 s => lpD F_decl_Add [.seqR, .scope, .seqR, .seqR, .seqR, .seqR, .seqL, .seqR, .block] Go.Proofs.Tryz.f26 [(3, .var x3), (5, .var x5), (6, .s x6), (7, .s x7), (8, .s x8), (9, .s x9), (10, .s x10), (34, .s x34), (35, .s x35), (36, .s x36)] s
theorem decl_Add_j2_eq : ∀ x5_4 x6_4 x18_2 s_10, decl_Add_j2 x5_4 x6_4 x18_2 s_10 =
 gC T_Errno 0 x18_2 fun v165 =>
 bn T_Errno .neq v165 (.val (.int .i64 0)) fun v166 =>
 condS v166 (
 gA T_Bad x18_2 fun v167 =>
 bx T_Bad v167 fun c_5 =>
 bindL (putAt x5_4 0 c_5) fun c5_1 =>
 bind1 (tupS [(some (.val (.nils))), (ofSlots (C.ti T_Bad) (List.take (C.ti T_Bad).size c5_1))]) fun v => some (.ret v, s_10)) (
 bind1 (buildS (C.ti T_Bad).zero []) fun v169 =>
 bx T_Bad v169 fun c_6 =>
 bindL (putAt x5_4 0 c_6) fun c5_2 =>
 bind1 (tupS [(some x6_4), (ofSlots (C.ti T_Bad) (List.take (C.ti T_Bad).size c5_2))]) fun v => some (.ret v, s_10)) := by intros; unfold decl_Add_j2; exact (pw_eq _).trans (by kernel_rfl)
theorem decl_Add_j3_eq : ∀ x3_4 x5_5 x6_5 x7_4 x8_4 x9_4 x10_4 x13_3 x16_2 x17_2 x18_3 x20_1 x25 x90_2 x91_2 x92_2 s_14, decl_Add_j3 x3_4 x5_5 x6_5 x7_4 x8_4 x9_4 x10_4 x13_3 x16_2 x17_2 x18_3 x20_1 x25 x90_2 x91_2 x92_2 s_14 =
 gC T_string 0 x20_1 fun v149 =>
 gC T_bool 2 x20_1 fun v154 =>
 gA T_Ty x25 fun v156 =>
 bind1 (buildS (C.ti T_Scheme).zero [(0, (C.ti T_int).size, x17_2), (1, (C.ti T_Ty).size, v156)]) fun v157 =>
 bind1 (buildS (C.ti T_Place).zero [(0, (C.ti T_string).size, v149), (1, (C.ti T_string).size, x13_3), (2, (C.ti T_int).size, x9_4), (3, (C.ti T_int).size, x10_4), (4, (C.ti T_bool).size, v154), (5, (C.ti T_Scheme).size, v157)]) fun v158 =>
 bind1 (bslF (C.ti T_Place).size [v158]) fun v159 =>
 bind2 (appendS T_Place (C.ti T_Place) s_14 x6_5 v159) fun v160 s_15 =>
 nx x9_4 fun v162 =>
 nx x92_2 fun v163 =>
 decl_Add_l1 x3_4 x5_5 v160 x7_4 x8_4 v162 x10_4 x13_3 x16_2 x17_2 x18_3 x90_2 x91_2 v163 s_15 := by intros; unfold decl_Add_j3; exact (pw_eq _).trans (by kernel_rfl)
theorem decl_Add_j1_eq : ∀ x3_3 x5_3 x6_3 x7_3 x8_3 x9_3 x10_3 x13_2 x16_1 x17_1 x18_1 x20 x21 x22 x90_1 x91_1 x92_1 s_9, decl_Add_j1 x3_3 x5_3 x6_3 x7_3 x8_3 x9_3 x10_3 x13_2 x16_1 x17_1 x18_1 x20 x21 x22 x90_1 x91_1 x92_1 s_9 =
 bn T_Errno .neq x21 (.val (.int .i64 0)) fun v128 =>
 condS v128 (
 gC T_int 1 x20 fun v131 =>
 bind1 (buildS (C.ti T_Bad).zero [(0, (C.ti T_Errno).size, x21), (1, (C.ti T_int).size, v131), (2, (C.ti T_string).size, x22)]) fun v133 =>
 bx T_Bad v133 fun c_4 =>
 bindL (putAt x18_1 0 c_4) fun c18 =>
 decl_Add_j2 x5_3 x6_3 c18 s_9) (
 gC T_string 0 x20 fun v136 =>
 bind1 (lookupS (C.ti T_string) (C.ti T_int) s_9 x8_3 v136 false) fun v137 =>
 nx v137 fun v138 =>
 bind2 (updateS (C.ti T_string) (C.ti T_int) s_9 x8_3 v136 v138) fun _ s_11 =>
 gA T_Ty x16_1 fun v139 =>
 ca F_ty_Put [v139, (.val (.nils))] s_11 fun v140 s_12 =>
 bx T_Ty v140 fun c_7 =>
 pZ T_Ty c_7 fun c25 =>
 gC T_bool 2 x20 fun v142 =>
 condS v142 (
 gC T_Ty 3 x20 fun v144 =>
 gA T_Ty x16_1 fun v145 =>
 ca F_ty_Fn [v144, v145] s_12 fun v146 s_13 =>
 bx T_Ty v146 fun c_8 =>
 bindL (putAt c25 0 c_8) fun c25_1 =>
 decl_Add_j3 x3_3 x5_3 x6_3 x7_3 x8_3 x9_3 x10_3 x13_2 x16_1 x17_1 x18_1 x20 c25_1 x90_1 x91_1 x92_1 s_13) (
 decl_Add_j3 x3_3 x5_3 x6_3 x7_3 x8_3 x9_3 x10_3 x13_2 x16_1 x17_1 x18_1 x20 c25 x90_1 x91_1 x92_1 s_12)) := by intros; unfold decl_Add_j1; exact (pw_eq _).trans (by kernel_rfl)
theorem decl_Add_l1_eq : ∀ x3_2 x5_2 x6_2 x7_2 x8_2 x9_2 x10_2 x13_1 x16 x17 x18 x90 x91 x92 s_8, decl_Add_l1 x3_2 x5_2 x6_2 x7_2 x8_2 x9_2 x10_2 x13_1 x16 x17 x18 x90 x91 x92 s_8 =
 bn T_int .lss x92 x91 fun v93 =>
 condS v93 (
 ix T_Con x90 x92 fun v94 =>
 ld T_Con s_8 v94 fun v95 =>
 bx T_Con v95 fun c_3 =>
 pZ T_Con c_3 fun c20 =>
 gC T_string 0 c20 fun v97 =>
 gC T_string 0 c20 fun v101 =>
 bind1 (lookupS (C.ti T_string) (C.ti T_int) s_8 x8_2 v101 false) fun v102 =>
 bn T_int .gtr v102 (.val (.int .i64 0)) fun v103 =>
 condS v103 (
 decl_Add_j1 x3_2 x5_2 x6_2 x7_2 x8_2 x9_2 x10_2 x13_1 x16 x17 x18 c20 (.val (.int .i64 9)) v97 x90 x91 x92 s_8) (
 gC T_DecKind 0 x3_2 fun v106 =>
 bn T_DecKind .eql v106 (.val (.int .i64 4)) fun v107 =>
 bindB (Slot.isB v107 true) fun w_3 =>
 bindB (Slot.isB v107 true) fun w_4 =>
 bind1 (gd w_4 (binS (C.ti T_int) .gtr (gdV w_3 x9_2) (.val (.int .i64 1023)))) fun v110 =>
 bind1 (pickS v107 v110 (.val (.bool false))) fun v111 =>
 condS v111 (
 decl_Add_j1 x3_2 x5_2 x6_2 x7_2 x8_2 x9_2 x10_2 x13_1 x16 x17 x18 c20 (.val (.int .i64 19)) v97 x90 x91 x92 s_8) (
 gC T_bool 2 c20 fun v114 =>
 condS v114 (
 gC T_Ty 3 c20 fun v119 =>
 ca F_decl_wrong [x7_2, x17, v119] s_8 fun v120 s_16 =>
 bind1 (extractS v120 0) fun v121 =>
 bind1 (extractS v120 1) fun v122 =>
 bn T_Errno .neq v121 (.val (.int .i64 0)) fun v124 =>
 condS v124 (
 decl_Add_j1 x3_2 x5_2 x6_2 x7_2 x8_2 x9_2 x10_2 x13_1 x16 x17 x18 c20 v121 v122 x90 x91 x92 s_16) (
 decl_Add_j1 x3_2 x5_2 x6_2 x7_2 x8_2 x9_2 x10_2 x13_1 x16 x17 x18 c20 (.val (.int .i64 0)) v97 x90 x91 x92 s_16)) (
 decl_Add_j1 x3_2 x5_2 x6_2 x7_2 x8_2 x9_2 x10_2 x13_1 x16 x17 x18 c20 (.val (.int .i64 0)) v97 x90 x91 x92 s_8)))) (
 decl_Add_j2 x5_2 x6_2 x18 s_8) := by intros; unfold decl_Add_l1; exact (loopR_eq _ _ _ _ _ _).trans (by kernel_rfl)
theorem decl_Add_j0_eq : ∀ x3_1 x5_1 x6_1 x7_1 x8_1 x9_1 x10_1 x13 s_6, decl_Add_j0 x3_1 x5_1 x6_1 x7_1 x8_1 x9_1 x10_1 x13 s_6 =
 gA T_Dec x3_1 fun v85 =>
 ca F_decl_head [v85] s_6 fun v86 s_7 =>
 bind1 (extractS v86 0) fun v87 =>
 bind1 (extractS v86 1) fun v88 =>
 bx T_Ty v87 fun c_2 =>
 pZ T_Ty c_2 fun c16 =>
 gC T_S_Con 4 x3_1 fun v90 =>
 ln T_S_Con v90 fun v91 =>
 decl_Add_l1 x3_1 x5_1 x6_1 x7_1 x8_1 x9_1 x10_1 x13 c16 v88 ((List.map .val (C.ti T_Bad).zero)) v90 v91 (.val (.int .i64 0)) s_7 := by intros; unfold decl_Add_j0; exact (pw_eq _).trans (by kernel_rfl)
theorem decl_Add_l0_eq : ∀ x3 x5 x6 x7 x8 x9 x10 x34 x35 x36 s_3, decl_Add_l0 x3 x5 x6 x7 x8 x9 x10 x34 x35 x36 s_3 =
 bn T_int .lss x36 x35 fun v37 =>
 condS v37 (
 ix T_Place x34 x36 fun v38 =>
 ld T_Place s_3 v38 fun v39 =>
 bx T_Place v39 fun c =>
 pZ T_Place c fun c12 =>
 gC T_string 0 c12 fun v42 =>
 bind1 (lookupS (C.ti T_string) (C.ti T_int) s_3 x8 v42 false) fun v43 =>
 nx v43 fun v44 =>
 bind2 (updateS (C.ti T_string) (C.ti T_int) s_3 x8 v42 v44) fun _ s_4 =>
 gC T_DecKind 0 x3 fun v46 =>
 bn T_DecKind .eql v46 (.val (.int .i64 4)) fun v47 =>
 bindB (Slot.isB v47 true) fun w =>
 bindB (Slot.isB v47 true) fun w_1 =>
 bind1 (gd w_1 (bif w then (ofSlots (C.ti T_string) (List.take (C.ti T_string).size (List.drop 1 c12))) else none)) fun v50 =>
 bindB (Slot.isB v47 true) fun w_2 =>
 bind1 (gd w_2 (binS (C.ti T_string) .eql v50 (.val (.str [101, 120, 110])))) fun v51 =>
 bind1 (pickS v47 v51 (.val (.bool false))) fun v52 =>
 condS v52 (
 nx x9 fun v54 =>
 nx x36 fun v55 =>
 decl_Add_l0 x3 x5 x6 x7 x8 v54 x10 x34 x35 v55 s_4) (
 nx x36 fun v55_1 =>
 decl_Add_l0 x3 x5 x6 x7 x8 x9 x10 x34 x35 v55_1 s_4)) (
 gC T_string 2 x3 fun v57 =>
 gC T_DecKind 0 x3 fun v59 =>
 bn T_DecKind .eql v59 (.val (.int .i64 3)) fun v63 =>
 condS v63 (
 gC T_string 2 x3 fun v67 =>
 bind1 (lookupS (C.ti T_string) (C.ti T_int) s_3 x7 v67 true) fun v68 =>
 bind1 (extractS v68 0) fun v69 =>
 bind1 (extractS v68 1) fun v70 =>
 condS v70 (
 gC T_int 1 x3 fun v73 =>
 gC T_string 2 x3 fun v75 =>
 bind1 (buildS (C.ti T_Bad).zero [(0, (C.ti T_Errno).size, (.val (.int .i64 9))), (1, (C.ti T_int).size, v73), (2, (C.ti T_string).size, v75)]) fun v76 =>
 bx T_Bad v76 fun c_1 =>
 bindL (putAt x5 0 c_1) fun c5 =>
 bind1 (tupS [(some (.val (.nils))), (ofSlots (C.ti T_Bad) (List.take (C.ti T_Bad).size c5))]) fun v => some (.ret v, s_3)) (
 gC T_string 2 x3 fun v79 =>
 gC T_int 3 x3 fun v81 =>
 bind2 (updateS (C.ti T_string) (C.ti T_int) s_3 x7 v79 v81) fun _ s_5 =>
 decl_Add_j0 x3 x5 x6 x7 x8 x9 x10 v57 s_5)) (
 bn T_DecKind .eql v59 (.val (.int .i64 4)) fun v83 =>
 condS v83 (
 decl_Add_j0 x3 x5 x6 x7 x8 x9 (.val (.int .i64 0)) (.val (.str [101, 120, 110])) s_3) (
 bind1 (buildS (C.ti T_Bad).zero []) fun v61 =>
 bx T_Bad v61 fun c_9 =>
 bindL (putAt x5 0 c_9) fun c5_3 =>
 bind1 (tupS [(some x6), (ofSlots (C.ti T_Bad) (List.take (C.ti T_Bad).size c5_3))]) fun v => some (.ret v, s_3)))) := by intros; unfold decl_Add_l0; exact (loopR_eq _ _ _ _ _ _).trans (by kernel_rfl)
theorem decl_Add_eq (a0 : AV) (a1 : AV) (s : St) : cw (.f F_decl_Add) [a0, a1] s =
 bx T_Dec (.val a1) fun c3 =>
 ca F_decl_double [(.val a0)] s fun v27 s_1 =>
 ca F_decl_known [(.val a0)] s_1 fun v29 s_2 =>
 gC T_S_Con 4 c3 fun v32 =>
 ln T_S_Con v32 fun v33 =>
 ln T_Table (.val a0) fun v35 =>
 decl_Add_l0 c3 ((List.map .val (C.ti T_Bad).zero)) v27 v29 (.val (.mp s_2.locs.length)) (.val (.int .i64 0)) v33 (.val a0) v35 (.val (.int .i64 0)) (St.addLoc s_2 (.map [] 0)) := (callw_f _ _ _).trans (by kernel_rfl)
/- 27 camlet/camletref12.none -/
/- 28 camlet/camletref11.Of -/
/- 29 camlet/camletref11.Start -/
/- 30 camlet/camletref12.dec -/
/- 31 camlet/camletref12.Or -/
/- 32 camlet/camletref12.Names -/
/- 33 camlet/camletref11.Add -/
/- 34 camlet/tree.RightExp -/
theorem tree_RightExp_eq (a0 : AV) (s : St) : cw (.f F_tree_RightExp) [a0] s =
 bx T_Exp (.val a0) fun c1 =>
 bindA (avs c1) fun l1 =>
 ld T_Exp s (.val (.cp l1)) fun v3 =>
 ca F_tree_expression [v3] s fun v4 s_1 =>
 bind1 (fnS F_tree_RightExp_1 [(.val (.cp l1))]) fun v5 =>
 ca F_tree_right [v4, v5] s_1 fun v6 s_2 =>
 bx T_Bad v6 fun c =>
 pZ T_Bad c fun c2 =>
 gA T_Bad c2 fun v => some (.ret v, s_2) := (callw_f _ _ _).trans (by kernel_rfl)
/- 35 camlet/scope.Free$1 -/
theorem scope_Free_1_eq (a0 : AV) (a1 : AV) (a2 : AV) (s : St) : cw (.f F_scope_Free_1) [a0, a1, a2] s =
 ld T_S_string s (.val a2) fun v5 =>
 ca F_slices_Contains_Sstring_string [v5, (.val a0)] s fun v7 s_1 =>
 bind1 (unS .not v7) fun v8 =>
 condS v8 (
 ld T_S_string s_1 (.val a2) fun v9 =>
 bind1 (bslF (C.ti T_string).size [(.val a0)]) fun v11 =>
 bind2 (appendS T_string (C.ti T_string) s_1 v9 v11) fun v12 s_2 =>
 bx T_S_string v12 fun c =>
 bindS (stV s_2 (.val a2) c) fun s_3 =>
 bind1 (tupS []) fun v => some (.ret v, s_3)) (
 bind1 (tupS []) fun v => some (.ret v, s_1)) := (callw_f _ _ _).trans (by kernel_rfl)
/- 36 slices.Contains[[]string,string] -/
theorem slices_Contains_Sstring_string_eq (a0 : AV) (a1 : AV) (s : St) : cw (.f F_slices_Contains_Sstring_string) [a0, a1] s =
 ca F_slices_Index_Sstring_string [(.val a0), (.val a1)] s fun v7 s_1 =>
 bn T_int .geq v7 (.val (.int .i64 0)) fun v8 =>
 some (.ret v8, s_1) := (callw_f _ _ _).trans (by kernel_rfl)
/- 37 camlet/scope.Free$2 -/
theorem scope_Free_2_eq (a0 : AV) (a1 : AV) (a2 : AV) (s : St) : cw (.f F_scope_Free_2) [a0, a1, a2] s =
 bind1 (tupS []) fun v => some (.ret v, s) := (callw_f _ _ _).trans (by kernel_rfl)
/- 38 (*camlet/scope.walk).exp -/
noncomputable def scope_walk_exp_l3 : Slot → Slot → Slot → St → Res := fun x88 x89 x90 s => lpD F_scope_walk_exp [.seqR, .seqR, .seqR, .seqR, .seqR, .seqR, .seqR, .seqR, .block] Go.Proofs.Tryz.f38 [(88, .s x88), (89, .s x89), (90, .s x90)] s
noncomputable def scope_walk_exp_l2 : Slot → Slot → Slot → Slot → Slot → St → Res := fun x0_3 x4_2 x78 x79 x80 s => lpD F_scope_walk_exp [.seqR, .seqR, .seqR, .seqR, .seqR, .seqR, .seqL, .seqR, .block] Go.Proofs.Tryz.f38 [(0, .s x0_3), (4, .s x4_2), (78, .s x78), (79, .s x79), (80, .s x80)] s
noncomputable def scope_walk_exp_l1 : Slot → List Slot → Slot → Slot → Slot → Slot → St → Res := fun x0_2 x3_2 x4_1 x67 x68 x69 s => lpD F_scope_walk_exp [.seqR, .seqR, .seqR, .seqR, .seqR, .seqL, .seqR, .block] Go.Proofs.Tryz.f38 [(0, .s x0_2), (3, .var x3_2), (4, .s x4_1), (67, .s x67), (68, .s x68), (69, .s x69)] s
noncomputable def scope_walk_exp_l0 : Slot → List Slot → Slot → Slot → Slot → Slot → St → Res := fun x0_1 x3_1 x4 x53 x54 x55 s => lpD F_scope_walk_exp [.seqR, .seqR, .seqR, .seqR, .seqL, .seqR, .block] Go.Proofs.Tryz.f38 [(0, .s x0_1), (3, .var x3_1), (4, .s x4), (53, .s x53), (54, .s x54), (55, .s x55)] s
noncomputable def scope_walk_exp_j0 : Slot → List Slot → St → Res := fun x0 x3 s => pw (run C false F_scope_walk_exp (codeAt [.seqR, .seqR, .seqR] (body Go.Proofs.Tryz.f38)) [(0, .s x0), (3, .var x3)] s (ctxR C false F_scope_walk_exp [.seqR, .seqR, .seqR] (body Go.Proofs.Tryz.f38) (outK C (Go.Proofs.Tryz.f38).results.toList)))
theorem scope_walk_exp_l3_eq : ∀ x88 x89 x90 s_10, scope_walk_exp_l3 x88 x89 x90 s_10 =
 bn T_int .lss x90 x89 fun v91 =>
 condS v91 (
 ix T_x_func x88 x90 fun v92 =>
 ld T_x_func s_10 v92 fun v93 =>
 back (cal cw true (tgtV v93 []) s_10) fun v95 s_11 =>
 nx x90 fun v96 =>
 scope_walk_exp_l3 x88 x89 v96 s_11) (
 bind1 (tupS []) fun v => some (.ret v, s_10)) := by intros; unfold scope_walk_exp_l3; exact (loopR_eq _ _ _ _ _ _).trans (by kernel_rfl)
theorem scope_walk_exp_l2_eq : ∀ x0_3 x4_2 x78 x79 x80 s_8, scope_walk_exp_l2 x0_3 x4_2 x78 x79 x80 s_8 =
 bn T_int .lss x80 x79 fun v81 =>
 condS v81 (
 ix T_Case x78 x80 fun v82 =>
 ld T_Case s_8 v82 fun v83 =>
 bx T_Case v83 fun c_2 =>
 pZ T_Case c_2 fun c10 =>
 gA T_Case c10 fun v85 =>
 ca F_scope_walk_kase [x0_3, v85] s_8 fun v86 s_9 =>
 nx x80 fun v87 =>
 scope_walk_exp_l2 x0_3 x4_2 x78 x79 v87 s_9) (
 ln T_x_S_func x4_2 fun v89 =>
 scope_walk_exp_l3 x4_2 v89 (.val (.int .i64 0)) s_8) := by intros; unfold scope_walk_exp_l2; exact (loopR_eq _ _ _ _ _ _).trans (by kernel_rfl)
theorem scope_walk_exp_l1_eq : ∀ x0_2 x3_2 x4_1 x67 x68 x69 s_6, scope_walk_exp_l1 x0_2 x3_2 x4_1 x67 x68 x69 s_6 =
 bn T_int .lss x69 x68 fun v70 =>
 condS v70 (
 ix T_Exp x67 x69 fun v71 =>
 ld T_Exp s_6 v71 fun v72 =>
 bx T_Exp v72 fun c_1 =>
 pZ T_Exp c_1 fun c8 =>
 gA T_Exp c8 fun v74 =>
 ca F_scope_walk_exp [x0_2, v74] s_6 fun v75 s_7 =>
 nx x69 fun v76 =>
 scope_walk_exp_l1 x0_2 x3_2 x4_1 x67 x68 v76 s_7) (
 gC T_S_Case 5 x3_2 fun v78 =>
 ln T_S_Case v78 fun v79 =>
 scope_walk_exp_l2 x0_2 x4_1 v78 v79 (.val (.int .i64 0)) s_6) := by intros; unfold scope_walk_exp_l1; exact (loopR_eq _ _ _ _ _ _).trans (by kernel_rfl)
theorem scope_walk_exp_l0_eq : ∀ x0_1 x3_1 x4 x53 x54 x55 s_3, scope_walk_exp_l0 x0_1 x3_1 x4 x53 x54 x55 s_3 =
 bn T_int .lss x55 x54 fun v56 =>
 condS v56 (
 ix T_Dec x53 x55 fun v57 =>
 ld T_Dec s_3 v57 fun v58 =>
 bx T_Dec v58 fun c =>
 pZ T_Dec c fun c6 =>
 gA T_Dec c6 fun v61 =>
 ca F_scope_walk_dec [x0_1, v61] s_3 fun v62 s_4 =>
 bind1 (bslF (C.ti T_x_func).size [v62]) fun v63 =>
 bind2 (appendS T_x_func (C.ti T_x_func) s_4 x4 v63) fun v64 s_5 =>
 nx x55 fun v65 =>
 scope_walk_exp_l0 x0_1 x3_1 v64 x53 x54 v65 s_5) (
 gC T_S_Exp 4 x3_1 fun v67 =>
 ln T_S_Exp v67 fun v68 =>
 scope_walk_exp_l1 x0_1 x3_1 x4 v67 v68 (.val (.int .i64 0)) s_3) := by intros; unfold scope_walk_exp_l0; exact (loopR_eq _ _ _ _ _ _).trans (by kernel_rfl)
theorem scope_walk_exp_j0_eq : ∀ x0 x3 s_2, scope_walk_exp_j0 x0 x3 s_2 =
 gC T_S_Dec 6 x3 fun v53 =>
 ln T_S_Dec v53 fun v54 =>
 scope_walk_exp_l0 x0 x3 (.val (.nils)) v53 v54 (.val (.int .i64 0)) s_2 := by intros; unfold scope_walk_exp_j0; exact (pw_eq _).trans (by kernel_rfl)
theorem scope_walk_exp_eq (a0 : AV) (a1 : AV) (s : St) : cw (.f F_scope_walk_exp) [a0, a1] s =
 bx T_Exp (.val a1) fun c3 =>
 bind1 (nilCheckV (.val a0)) fun v14 =>
 bind1 (faV 6 v14) fun v15 =>
 ld T_bool s v15 fun v16 =>
 condS v16 (
 bind1 (tupS []) fun v => some (.ret v, s)) (
 gC T_ExpKind 0 c3 fun v18 =>
 bn T_ExpKind .eql v18 (.val (.int .i64 2)) fun v20 =>
 condS v20 (
 bind1 (nilCheckV (.val a0)) fun v22 =>
 bind1 (faV 0 v22) fun v23 =>
 ld T_x_map_string_int s v23 fun v24 =>
 gC T_string 2 c3 fun v26 =>
 bind1 (lookupS (C.ti T_string) (C.ti T_int) s v24 v26 false) fun v27 =>
 bn T_int .eql v27 (.val (.int .i64 0)) fun v28 =>
 condS v28 (
 bind1 (nilCheckV (.val a0)) fun v30 =>
 bind1 (faV 5 v30) fun v31 =>
 ld T_x_func_string_int s v31 fun v32 =>
 gC T_string 2 c3 fun v34 =>
 gC T_int 1 c3 fun v36 =>
 back (noPan (cal cw true (tgtV v32 [v34, v36]) s)) fun v37 s_1 =>
 scope_walk_exp_j0 (.val a0) c3 s_1) (
 scope_walk_exp_j0 (.val a0) c3 s)) (
 bn T_ExpKind .eql v18 (.val (.int .i64 3)) fun v39 =>
 condS v39 (
 bind1 (nilCheckV (.val a0)) fun v41 =>
 bind1 (faV 4 v41) fun v42 =>
 ld T_x_func_string_int_int s v42 fun v43 =>
 gC T_string 2 c3 fun v45 =>
 gC T_int 1 c3 fun v47 =>
 gC T_S_Exp 4 c3 fun v49 =>
 ln T_S_Exp v49 fun v50 =>
 back (noPan (cal cw true (tgtV v43 [v45, v47, v50]) s)) fun v51 s_12 =>
 scope_walk_exp_j0 (.val a0) c3 s_12) (
 scope_walk_exp_j0 (.val a0) c3 s))) := (callw_f _ _ _).trans (by kernel_rfl)
/- 39 camlet/camletref05.RightExp -/
/- 40 camlet/camletref12.free -/
/- 41 camlet/scope.names -/
noncomputable def scope_names_l1 : List Slot → Slot → Slot → Slot → Slot → Slot → Slot → Slot → Slot → St → Res := fun x1_1 x3_1 x4_1 x16_1 x17_1 x18_1 x24 x25 x26 s => lpD F_scope_names [.seqR, .seqR, .seqR, .seqL, .seqR, .thn, .seqR, .block, .loop, .seqR, .seqR, .seqL, .block, .seqR, .seqR, .block] Go.Proofs.Tryz.f41 [(1, .var x1_1), (3, .s x3_1), (4, .s x4_1), (16, .s x16_1), (17, .s x17_1), (18, .s x18_1), (24, .s x24), (25, .s x25), (26, .s x26)] s
noncomputable def scope_names_l2 : Slot → Slot → Slot → Slot → Slot → St → Res := fun x3_3 x4_3 x39 x40 x41 s => lpD F_scope_names [.seqR, .seqR, .seqR, .seqR, .seqL, .seqR, .thn, .seqR, .block] Go.Proofs.Tryz.f41 [(3, .s x3_3), (4, .s x4_3), (39, .s x39), (40, .s x40), (41, .s x41)] s
noncomputable def scope_names_j0 : List Slot → Slot → Slot → St → Res := fun x1_2 x3_2 x4_2 s => pw (run C false F_scope_names (codeAt [.seqR, .seqR, .seqR, .seqR] (body Go.Proofs.Tryz.f41)) [(1, .var x1_2), (3, .s x3_2), (4, .s x4_2)] s (ctxR C false F_scope_names [.seqR, .seqR, .seqR, .seqR] (body Go.Proofs.Tryz.f41) (outK C (Go.Proofs.Tryz.f41).results.toList)))
noncomputable def scope_names_l0 : List Slot → Slot → Slot → Slot → Slot → Slot → St → Res := fun x1 x3 x4 x16 x17 x18 s => lpD F_scope_names [.seqR, .seqR, .seqR, .seqL, .seqR, .thn, .seqR, .block] Go.Proofs.Tryz.f41 [(1, .var x1), (3, .s x3), (4, .s x4), (16, .s x16), (17, .s x17), (18, .s x18)] s
theorem scope_names_l1_eq : ∀ x1_1 x3_1 x4_1 x16_1 x17_1 x18_1 x24 x25 x26 s_3, scope_names_l1 x1_1 x3_1 x4_1 x16_1 x17_1 x18_1 x24 x25 x26 s_3 =
 bn T_int .lss x26 x25 fun v27 =>
 condS v27 (
 ix T_string x24 x26 fun v28 =>
 ld T_string s_3 v28 fun v29 =>
 back (cal cw true (tgtV x4_1 [v29]) s_3) fun v32 s_4 =>
 nx x26 fun v33 =>
 scope_names_l1 x1_1 x3_1 x4_1 x16_1 x17_1 x18_1 x24 x25 v33 s_4) (
 nx x18_1 fun v34 =>
 scope_names_l0 x1_1 x3_1 x4_1 x16_1 x17_1 v34 s_3) := by intros; unfold scope_names_l1; exact (loopR_eq _ _ _ _ _ _).trans (by kernel_rfl)
theorem scope_names_l2_eq : ∀ x3_3 x4_3 x39 x40 x41 s_6, scope_names_l2 x3_3 x4_3 x39 x40 x41 s_6 =
 bn T_int .lss x41 x40 fun v42 =>
 condS v42 (
 ix T_Fun x39 x41 fun v43 =>
 ld T_Fun s_6 v43 fun v44 =>
 bx T_Fun v44 fun c_1 =>
 pZ T_Fun c_1 fun c10 =>
 gC T_string 0 c10 fun v47 =>
 back (cal cw true (tgtV x4_3 [v47]) s_6) fun v48 s_7 =>
 nx x41 fun v49 =>
 scope_names_l2 x3_3 x4_3 x39 x40 v49 s_7) (
 ld T_S_string s_6 x3_3 fun v50 =>
 some (.ret v50, s_6)) := by intros; unfold scope_names_l2; exact (loopR_eq _ _ _ _ _ _).trans (by kernel_rfl)
theorem scope_names_j0_eq : ∀ x1_2 x3_2 x4_2 s_5, scope_names_j0 x1_2 x3_2 x4_2 s_5 =
 gC T_DecKind 0 x1_2 fun v36 =>
 bn T_DecKind .eql v36 (.val (.int .i64 2)) fun v37 =>
 condS v37 (
 gC T_S_Fun 6 x1_2 fun v39 =>
 ln T_S_Fun v39 fun v40 =>
 scope_names_l2 x3_2 x4_2 v39 v40 (.val (.int .i64 0)) s_5) (
 ld T_S_string s_5 x3_2 fun v50_1 =>
 some (.ret v50_1, s_5)) := by intros; unfold scope_names_j0; exact (pw_eq _).trans (by kernel_rfl)
theorem scope_names_l0_eq : ∀ x1 x3 x4 x16 x17 x18 s_1, scope_names_l0 x1 x3 x4 x16 x17 x18 s_1 =
 bn T_int .lss x18 x17 fun v19 =>
 condS v19 (
 ix T_Case x16 x18 fun v20 =>
 ld T_Case s_1 v20 fun v21 =>
 bx T_Case v21 fun c =>
 pZ T_Case c fun c6 =>
 gC T_Pat 0 c6 fun v23 =>
 ca F_tree_Vars [v23] s_1 fun v24 s_2 =>
 ln T_S_string v24 fun v25 =>
 scope_names_l1 x1 x3 x4 x16 x17 x18 v24 v25 (.val (.int .i64 0)) s_2) (
 scope_names_j0 x1 x3 x4 s_1) := by intros; unfold scope_names_l0; exact (loopR_eq _ _ _ _ _ _).trans (by kernel_rfl)
theorem scope_names_eq (a0 : AV) (s : St) : cw (.f F_scope_names) [a0] s =
 bx T_Dec (.val a0) fun c1 =>
 bind1 (fnS F_scope_names_1 [(.val (.vp s.locs.length 0))]) fun v11 =>
 gC T_DecKind 0 c1 fun v13 =>
 bn T_DecKind .eql v13 (.val (.int .i64 1)) fun v14 =>
 condS v14 (
 gC T_S_Case 5 c1 fun v16 =>
 ln T_S_Case v16 fun v17 =>
 scope_names_l0 c1 (.val (.vp s.locs.length 0)) v11 v16 v17 (.val (.int .i64 0)) (St.addLoc s (.var (List.map .val (C.ti T_S_string).zero)))) (
 scope_names_j0 c1 (.val (.vp s.locs.length 0)) v11 (St.addLoc s (.var (List.map .val (C.ti T_S_string).zero)))) := (callw_f _ _ _).trans (by kernel_rfl)
/- 42 camlet/camletref12.In -/
/- 43 camlet/camletref05.first -/
noncomputable def ref05_first_j0 : Slot → List Slot → Slot → Slot → Slot → St → Res := fun x0_1 x4_1 x5_1 x6 x7 s => pw (run C false F_ref05_first (codeAt [.seqR, .seqR, .seqR, .seqL, .seqR, .block, .loop, .seqR, .seqL, .block, .seqR, .seqR, .thn, .seqR] (body Go.Proofs.Tryz.f43)) [(0, .s x0_1), (4, .var x4_1), (5, .s x5_1), (6, .s x6), (7, .s x7)] s (ctxR C false F_ref05_first [.seqR, .seqR, .seqR, .seqL, .seqR, .block, .loop, .seqR, .seqL, .block, .seqR, .seqR, .thn, .seqR] (body Go.Proofs.Tryz.f43) (outK C (Go.Proofs.Tryz.f43).results.toList)))
noncomputable def ref05_first_l0 : Slot → List Slot → Slot → St → Res := fun x0 x4 x5 s => lpD F_ref05_first [.seqR, .seqR, .seqR, .seqL, .seqR, .block] Go.Proofs.Tryz.f43 [(0, .s x0), (4, .var x4), (5, .s x5)] s
theorem ref05_first_j0_eq : ∀ x0_1 x4_1 x5_1 x6 x7 s_4, ref05_first_j0 x0_1 x4_1 x5_1 x6 x7 s_4 =
 ix T_ref05_Node x0_1 x5_1 fun v36 =>
 bind1 (faV 2 v36) fun v37 =>
 ld T_int s_4 v37 fun v38 =>
 bind1 (buildS (C.ti T_Bad).zero [(0, (C.ti T_Errno).size, x6), (1, (C.ti T_int).size, v38), (2, (C.ti T_string).size, x7)]) fun v40 =>
 bx T_Bad v40 fun c_2 =>
 bindL (putAt x4_1 0 c_2) fun c4_2 =>
 gA T_Bad c4_2 fun v => some (.ret v, s_4) := by intros; unfold ref05_first_j0; exact (pw_eq _).trans (by kernel_rfl)
theorem ref05_first_l0_eq : ∀ x0 x4 x5 s_2, ref05_first_l0 x0 x4 x5 s_2 =
 ln T_S_ref05_Node x0 fun v17 =>
 bn T_int .lss x5 v17 fun v18 =>
 condS v18 (
 ix T_ref05_Node x0 x5 fun v24 =>
 ld T_ref05_Node s_2 v24 fun v25 =>
 ca F_ref05_wrong [v25] s_2 fun v26 s_3 =>
 bind1 (extractS v26 0) fun v27 =>
 bind1 (extractS v26 1) fun v28 =>
 bn T_Errno .neq v27 (.val (.int .i64 0)) fun v30 =>
 condS v30 (
 bn T_Errno .neq v27 (.val (.int .i64 8)) fun v32 =>
 condS v32 (
 ref05_first_j0 x0 x4 x5 v27 (.val (.str [])) s_3) (
 ref05_first_j0 x0 x4 x5 v27 v28 s_3)) (
 nx x5 fun v20 =>
 ref05_first_l0 x0 x4 v20 s_3)) (
 bind1 (buildS (C.ti T_Bad).zero []) fun v41 =>
 bx T_Bad v41 fun c_3 =>
 bindL (putAt x4 0 c_3) fun c4_3 =>
 gA T_Bad c4_3 fun v => some (.ret v, s_2)) := by intros; unfold ref05_first_l0; exact (loopR_eq _ _ _ _ _ _).trans (by kernel_rfl)
theorem ref05_first_eq (a0 : AV) (a1 : AV) (s : St) : cw (.f F_ref05_first) [a0, a1] s =
 ca F_ref05_count [(.val a0)] s fun v9 s_1 =>
 bn T_int .gtr v9 (.val (.int .i64 8192)) fun v10 =>
 condS v10 (
 bind1 (buildS (C.ti T_Bad).zero [(0, (C.ti T_Errno).size, (.val (.int .i64 4)))]) fun v11 =>
 bx T_Bad v11 fun c =>
 pZ T_Bad c fun c4 =>
 gA T_Bad c4 fun v => some (.ret v, s_1)) (
 bn T_int .gtr (.val a1) (.val (.int .i64 100)) fun v13 =>
 condS v13 (
 bind1 (buildS (C.ti T_Bad).zero [(0, (C.ti T_Errno).size, (.val (.int .i64 7)))]) fun v14 =>
 bx T_Bad v14 fun c_1 =>
 pZ T_Bad c_1 fun c4_1 =>
 gA T_Bad c4_1 fun v => some (.ret v, s_1)) (
 ref05_first_l0 (.val a0) ((List.map .val (C.ti T_Bad).zero)) (.val (.int .i64 0)) s_1)) := (callw_f _ _ _).trans (by kernel_rfl)
/- 44 camlet/camletref05.Of -/
noncomputable def ref05_Of_l0 : Slot → Slot → Slot → St → Res := fun x0 x3 x4 s => lpD F_ref05_Of [.seqR, .seqR, .seqL, .seqR, .block] Go.Proofs.Tryz.f44 [(0, .s x0), (3, .s x3), (4, .s x4)] s
theorem ref05_Of_l0_eq : ∀ x0 x3 x4 s_1, ref05_Of_l0 x0 x3 x4 s_1 =
 ln T_S_Dec x0 fun v7 =>
 bn T_int .lss x4 v7 fun v8 =>
 condS v8 (
 ix T_Dec x0 x4 fun v14 =>
 ld T_Dec s_1 v14 fun v15 =>
 ca F_ref05_OfDec [v15, (.val (.bool false))] s_1 fun v16 s_2 =>
 bind2 (appendS T_ref05_Node (C.ti T_ref05_Node) s_2 x3 v16) fun v17 s_3 =>
 nx x4 fun v10 =>
 ref05_Of_l0 x0 v17 v10 s_3) (
 some (.ret x3, s_1)) := by intros; unfold ref05_Of_l0; exact (loopR_eq _ _ _ _ _ _).trans (by kernel_rfl)
theorem ref05_Of_eq (a0 : AV) (s : St) : cw (.f F_ref05_Of) [a0] s =
 ref05_Of_l0 (.val a0) (.val (.nils)) (.val (.int .i64 0)) s := (callw_f _ _ _).trans (by kernel_rfl)
/- 45 camlet/camletref05.Deep -/
noncomputable def ref05_Deep_l3 : Slot → Slot → Slot → Slot → Slot → St → Res := fun x0_3 x3_3 x4_3 x5_2 x8 s => lpD F_ref05_Deep [.seqR, .seqR, .seqL, .seqR, .block, .loop, .seqR, .seqL, .block, .seqR, .seqR, .seqR, .seqL, .seqR, .block] Go.Proofs.Tryz.f45 [(0, .s x0_3), (3, .s x3_3), (4, .s x4_3), (5, .s x5_2), (8, .s x8)] s
noncomputable def ref05_Deep_l2 : Slot → Slot → Slot → Slot → Slot → St → Res := fun x0_2 x3_2 x4_2 x5_1 x7 s => lpD F_ref05_Deep [.seqR, .seqR, .seqL, .seqR, .block, .loop, .seqR, .seqL, .block, .seqR, .seqR, .seqL, .seqR, .block] Go.Proofs.Tryz.f45 [(0, .s x0_2), (3, .s x3_2), (4, .s x4_2), (5, .s x5_1), (7, .s x7)] s
noncomputable def ref05_Deep_l1 : Slot → Slot → Slot → Slot → Slot → St → Res := fun x0_1 x3_1 x4_1 x5 x6 s => lpD F_ref05_Deep [.seqR, .seqR, .seqL, .seqR, .block, .loop, .seqR, .seqL, .block, .seqR, .seqL, .seqR, .block] Go.Proofs.Tryz.f45 [(0, .s x0_1), (3, .s x3_1), (4, .s x4_1), (5, .s x5), (6, .s x6)] s
noncomputable def ref05_Deep_l0 : Slot → Slot → Slot → St → Res := fun x0 x3 x4 s => lpD F_ref05_Deep [.seqR, .seqR, .seqL, .seqR, .block] Go.Proofs.Tryz.f45 [(0, .s x0), (3, .s x3), (4, .s x4)] s
theorem ref05_Deep_l3_eq : ∀ x0_3 x3_3 x4_3 x5_2 x8 s_8, ref05_Deep_l3 x0_3 x3_3 x4_3 x5_2 x8 s_8 =
 ix T_Dec x0_3 x4_3 fun v84 =>
 bind1 (faV 4 v84) fun v85 =>
 ld T_S_Con s_8 v85 fun v86 =>
 ln T_S_Con v86 fun v87 =>
 bn T_int .lss x8 v87 fun v88 =>
 condS v88 (
 ix T_Dec x0_3 x4_3 fun v93 =>
 bind1 (faV 4 v93) fun v94 =>
 ld T_S_Con s_8 v94 fun v95 =>
 ix T_Con v95 x8 fun v97 =>
 bind1 (faV 2 v97) fun v98 =>
 ld T_bool s_8 v98 fun v99 =>
 condS v99 (
 ix T_Dec x0_3 x4_3 fun v103 =>
 bind1 (faV 4 v103) fun v104 =>
 ld T_S_Con s_8 v104 fun v105 =>
 ix T_Con v105 x8 fun v107 =>
 bind1 (faV 3 v107) fun v108 =>
 ld T_Ty s_8 v108 fun v109 =>
 ca F_ref05_deepTy [v109] s_8 fun v110 s_9 =>
 bind1 (max2 x5_2 v110) fun v111 =>
 nx x8 fun v90 =>
 ref05_Deep_l3 x0_3 x3_3 x4_3 v111 v90 s_9) (
 nx x8 fun v90_1 =>
 ref05_Deep_l3 x0_3 x3_3 x4_3 x5_2 v90_1 s_8)) (
 nx x5_2 fun v114 =>
 bind1 (max2 x3_3 v114) fun v115 =>
 nx x4_3 fun v14 =>
 ref05_Deep_l0 x0_3 v115 v14 s_8) := by intros; unfold ref05_Deep_l3; exact (loopR_eq _ _ _ _ _ _).trans (by kernel_rfl)
theorem ref05_Deep_l2_eq : ∀ x0_2 x3_2 x4_2 x5_1 x7 s_5, ref05_Deep_l2 x0_2 x3_2 x4_2 x5_1 x7 s_5 =
 ix T_Dec x0_2 x4_2 fun v50 =>
 bind1 (faV 6 v50) fun v51 =>
 ld T_S_Fun s_5 v51 fun v52 =>
 ln T_S_Fun v52 fun v53 =>
 bn T_int .lss x7 v53 fun v54 =>
 condS v54 (
 ix T_Dec x0_2 x4_2 fun v60 =>
 bind1 (faV 6 v60) fun v61 =>
 bind1 (ldV (C.ti T_S_Fun) true s_5 v61) fun v62 =>
 ix T_Fun v62 x7 fun v64 =>
 bind1 (faV 2 v64) fun v65 =>
 bind1 (faV 0 v65) fun v66 =>
 bind1 (ldV (C.ti T_Pat) true s_5 v66) fun v67 =>
 cn F_ref05_deepPat [v67] s_5 fun v68 s_6 =>
 ix T_Dec x0_2 x4_2 fun v71 =>
 bind1 (faV 6 v71) fun v72 =>
 bind1 (ldV (C.ti T_S_Fun) true s_6 v72) fun v73 =>
 ix T_Fun v73 x7 fun v75 =>
 bind1 (faV 2 v75) fun v76 =>
 bind1 (faV 5 v76) fun v77 =>
 bind1 (ldV (C.ti T_Exp) true s_6 v77) fun v78 =>
 cn F_ref05_DeepExp [v78] s_6 fun v79 s_7 =>
 bind1 (max3 x5_1 v68 v79) fun v80 =>
 nx x7 fun v56 =>
 ref05_Deep_l2 x0_2 x3_2 x4_2 v80 v56 s_7) (
 ref05_Deep_l3 x0_2 x3_2 x4_2 x5_1 (.val (.int .i64 0)) s_5) := by intros; unfold ref05_Deep_l2; exact (loopR_eq _ _ _ _ _ _).trans (by kernel_rfl)
theorem ref05_Deep_l1_eq : ∀ x0_1 x3_1 x4_1 x5 x6 s_2, ref05_Deep_l1 x0_1 x3_1 x4_1 x5 x6 s_2 =
 ix T_Dec x0_1 x4_1 fun v18 =>
 bind1 (faV 5 v18) fun v19 =>
 ld T_S_Case s_2 v19 fun v20 =>
 ln T_S_Case v20 fun v21 =>
 bn T_int .lss x6 v21 fun v22 =>
 condS v22 (
 ix T_Dec x0_1 x4_1 fun v28 =>
 bind1 (faV 5 v28) fun v29 =>
 bind1 (ldV (C.ti T_S_Case) true s_2 v29) fun v30 =>
 ix T_Case v30 x6 fun v32 =>
 bind1 (faV 0 v32) fun v33 =>
 bind1 (ldV (C.ti T_Pat) true s_2 v33) fun v34 =>
 cn F_ref05_deepPat [v34] s_2 fun v35 s_3 =>
 ix T_Dec x0_1 x4_1 fun v38 =>
 bind1 (faV 5 v38) fun v39 =>
 bind1 (ldV (C.ti T_S_Case) true s_3 v39) fun v40 =>
 ix T_Case v40 x6 fun v42 =>
 bind1 (faV 5 v42) fun v43 =>
 bind1 (ldV (C.ti T_Exp) true s_3 v43) fun v44 =>
 cn F_ref05_DeepExp [v44] s_3 fun v45 s_4 =>
 bind1 (max3 x5 v35 v45) fun v46 =>
 nx x6 fun v24 =>
 ref05_Deep_l1 x0_1 x3_1 x4_1 v46 v24 s_4) (
 ref05_Deep_l2 x0_1 x3_1 x4_1 x5 (.val (.int .i64 0)) s_2) := by intros; unfold ref05_Deep_l1; exact (loopR_eq _ _ _ _ _ _).trans (by kernel_rfl)
theorem ref05_Deep_l0_eq : ∀ x0 x3 x4 s_1, ref05_Deep_l0 x0 x3 x4 s_1 =
 ln T_S_Dec x0 fun v11 =>
 bn T_int .lss x4 v11 fun v12 =>
 condS v12 (
 ref05_Deep_l1 x0 x3 x4 (.val (.int .i64 0)) (.val (.int .i64 0)) s_1) (
 some (.ret x3, s_1)) := by intros; unfold ref05_Deep_l0; exact (loopR_eq _ _ _ _ _ _).trans (by kernel_rfl)
theorem ref05_Deep_eq (a0 : AV) (s : St) : cw (.f F_ref05_Deep) [a0] s =
 ref05_Deep_l0 (.val a0) (.val (.int .i64 0)) (.val (.int .i64 0)) s := (callw_f _ _ _).trans (by kernel_rfl)
/- 46 camlet/camletref05.count -/
noncomputable def ref05_count_l0 : Slot → Slot → Slot → St → Res := fun x0 x3 x4 s => lpD F_ref05_count [.seqR, .seqR, .seqL, .seqR, .block] Go.Proofs.Tryz.f46 [(0, .s x0), (3, .s x3), (4, .s x4)] s
theorem ref05_count_l0_eq : ∀ x0 x3 x4 s_1, ref05_count_l0 x0 x3 x4 s_1 =
 ln T_S_ref05_Node x0 fun v7 =>
 bn T_int .lss x4 v7 fun v8 =>
 condS v8 (
 ix T_ref05_Node x0 x4 fun v13 =>
 bind1 (faV 0 v13) fun v14 =>
 ld T_int s_1 v14 fun v15 =>
 bn T_int .leq v15 (.val (.int .i64 4)) fun v16 =>
 condS v16 (
 nx x3 fun v18 =>
 nx x4 fun v10 =>
 ref05_count_l0 x0 v18 v10 s_1) (
 nx x4 fun v10_1 =>
 ref05_count_l0 x0 x3 v10_1 s_1)) (
 some (.ret x3, s_1)) := by intros; unfold ref05_count_l0; exact (loopR_eq _ _ _ _ _ _).trans (by kernel_rfl)
theorem ref05_count_eq (a0 : AV) (s : St) : cw (.f F_ref05_count) [a0] s =
 ref05_count_l0 (.val a0) (.val (.int .i64 0)) (.val (.int .i64 0)) s := (callw_f _ _ _).trans (by kernel_rfl)
/- 47 camlet/tree.right -/
noncomputable def tree_right_r0 (x4 : Slot) : Am.Obj := .loop .ready none F_tree_right [(4, .s x4)] [16] (rngAsg (codeAt [.seqR, .seqR, .seqR, .seqL, .seqR, .block] (body Go.Proofs.Tryz.f47))) (rngBody (codeAt [.seqR, .seqR, .seqR, .seqL, .seqR, .block] (body Go.Proofs.Tryz.f47)))
theorem tree_right_r0_eq (x4 : Slot) (y16 : AV) (loc : Nat) (s_5 : St) : yldR C (tree_right_r0 x4) loc [y16] s_5 = noPan (
 bx T_thing (.val y16) fun c_2 =>
 pZ T_thing c_2 fun c5 =>
 bindS (beginL loc s_5) fun s_6 =>
 gA T_thing c5 fun v17 =>
 ca F_tree_thing_wrong [v17] s_6 fun v18 s_7 =>
 bx T_Bad v18 fun c_3 =>
 pZ T_Bad c_3 fun c6 =>
 gC T_Errno 0 c6 fun v20 =>
 bn T_Errno .neq v20 (.val (.int .i64 0)) fun v21 =>
 condS v21 (
 gA T_Bad c6 fun v22 =>
 bx T_Bad v22 fun c_4 =>
 bindS (stV s_7 x4 c_4) fun s_8 =>
 bindS (setLoop loc .done (some .ret) s_8) fun s_9 =>
 some (.ret (.val (.bool false)), s_9)) (
 bindS (setLoop loc .ready none s_7) fun s_10 =>
 some (.ret (.val (.bool true)), s_10))) := by kernel_rfl
theorem tree_right_eq (a0 : AV) (a1 : AV) (s : St) : cw (.f F_tree_right) [a0, a1] s =
 ca F_tree_count [(.val a0), (.val (.int .i64 8193))] (St.addLoc s (.var (List.map .val (C.ti T_Bad).zero))) fun v8 s_1 =>
 bn T_int .gtr v8 (.val (.int .i64 8192)) fun v9 =>
 condS v9 (
 bind1 (buildS (C.ti T_Bad).zero [(0, (C.ti T_Errno).size, (.val (.int .i64 4)))]) fun v10 =>
 bx T_Bad v10 fun c =>
 bindS (stV s_1 (.val (.vp s.locs.length 0)) c) fun s_2 =>
 bind1 (ldV (C.ti T_Bad) false s_2 (.val (.vp s.locs.length 0))) fun v => some (.ret v, s_2)) (
 back (cal cw true (tgtV (.val a1) []) s_1) fun v12 s_3 =>
 bn T_int .gtr v12 (.val (.int .i64 100)) fun v13 =>
 condS v13 (
 bind1 (buildS (C.ti T_Bad).zero [(0, (C.ti T_Errno).size, (.val (.int .i64 7)))]) fun v14 =>
 bx T_Bad v14 fun c_1 =>
 bindS (stV s_3 (.val (.vp s.locs.length 0)) c_1) fun s_4 =>
 bind1 (ldV (C.ti T_Bad) false s_4 (.val (.vp s.locs.length 0))) fun v => some (.ret v, s_4)) (
 rangeC C cw (.val a0) s_3.locs.length (St.addLoc s_3 (tree_right_r0 (.val (.vp s.locs.length 0)))) fun s_11 =>
 endX s_3.locs.length s_11 (fun s_12 =>
 bind1 (buildS (C.ti T_Bad).zero []) fun v23 =>
 bx T_Bad v23 fun c_5 =>
 bindS (stV s_12 (.val (.vp s.locs.length 0)) c_5) fun s_15 =>
 bind1 (ldV (C.ti T_Bad) false s_15 (.val (.vp s.locs.length 0))) fun v => some (.ret v, s_15)) (fun s_13 =>
 bind1 (ldV (C.ti T_Bad) false s_13 (.val (.vp s.locs.length 0))) fun v => some (.ret v, s_13)) (fun j s_14 =>
 bif Nat.beq j 0 then (
 bind1 (buildS (C.ti T_Bad).zero []) fun v23_1 =>
 bx T_Bad v23_1 fun c_6 =>
 bindS (stV s_14 (.val (.vp s.locs.length 0)) c_6) fun s_16 =>
 bind1 (ldV (C.ti T_Bad) false s_16 (.val (.vp s.locs.length 0))) fun v => some (.ret v, s_16)) else (
(none : Res))))) := (callw_f _ _ _).trans (by kernel_rfl)
/- 48 camlet/tree.program -/
theorem tree_program_eq (a0 : AV) (s : St) : cw (.f F_tree_program) [a0] s =
 bx T_S_Dec (.val a0) fun c1 =>
 bindA (avs c1) fun l1 =>
 bind1 (fnS F_tree_program_1 [(.val (.cp l1))]) fun v3 =>
 some (.ret v3, s) := (callw_f _ _ _).trans (by kernel_rfl)
/- 49 camlet/tree.Right$1 -/
theorem tree_Right_1_eq (a0 : AV) (s : St) : cw (.f F_tree_Right_1) [a0] s =
 ld T_S_Dec s (.val a0) fun v2 =>
 ca F_tree_deepDecs [v2] s fun v3 s_1 =>
 some (.ret v3, s_1) := (callw_f _ _ _).trans (by kernel_rfl)
/- 50 camlet/tree.deepDecs -/
noncomputable def tree_deepDecs_l2 : Slot → Slot → Slot → Slot → Slot → Slot → Slot → Slot → St → Res := fun x3_2 x6_1 x11_2 x12_2 x13_2 x35 x36 x37 s => lpD F_tree_deepDecs [.seqR, .seqR, .seqL, .seqR, .block, .loop, .seqR, .seqR, .seqL, .block, .seqR, .seqR, .seqR, .seqL, .seqR, .block] Go.Proofs.Tryz.f50 [(3, .s x3_2), (6, .s x6_1), (11, .s x11_2), (12, .s x12_2), (13, .s x13_2), (35, .s x35), (36, .s x36), (37, .s x37)] s
noncomputable def tree_deepDecs_l1 : Slot → List Slot → Slot → Slot → Slot → Slot → Slot → Slot → Slot → St → Res := fun x3_1 x5 x6 x11_1 x12_1 x13_1 x21 x22 x23 s => lpD F_tree_deepDecs [.seqR, .seqR, .seqL, .seqR, .block, .loop, .seqR, .seqR, .seqL, .block, .seqR, .seqR, .seqL, .seqR, .block] Go.Proofs.Tryz.f50 [(3, .s x3_1), (5, .var x5), (6, .s x6), (11, .s x11_1), (12, .s x12_1), (13, .s x13_1), (21, .s x21), (22, .s x22), (23, .s x23)] s
noncomputable def tree_deepDecs_l0 : Slot → Slot → Slot → Slot → St → Res := fun x3 x11 x12 x13 s => lpD F_tree_deepDecs [.seqR, .seqR, .seqL, .seqR, .block] Go.Proofs.Tryz.f50 [(3, .s x3), (11, .s x11), (12, .s x12), (13, .s x13)] s
theorem tree_deepDecs_l2_eq : ∀ x3_2 x6_1 x11_2 x12_2 x13_2 x35 x36 x37 s_5, tree_deepDecs_l2 x3_2 x6_1 x11_2 x12_2 x13_2 x35 x36 x37 s_5 =
 bn T_int .lss x37 x36 fun v38 =>
 condS v38 (
 ix T_Con x35 x37 fun v39 =>
 ld T_Con s_5 v39 fun v40 =>
 bx T_Con v40 fun c_2 =>
 pZ T_Con c_2 fun c10 =>
 gC T_bool 2 c10 fun v42 =>
 condS v42 (
 gC T_Ty 3 c10 fun v45 =>
 ca F_tree_deepTy [v45] s_5 fun v46 s_6 =>
 bind1 (max2 x6_1 v46) fun v47 =>
 nx x37 fun v48 =>
 tree_deepDecs_l2 x3_2 v47 x11_2 x12_2 x13_2 x35 x36 v48 s_6) (
 nx x37 fun v48_1 =>
 tree_deepDecs_l2 x3_2 x6_1 x11_2 x12_2 x13_2 x35 x36 v48_1 s_5)) (
 nx x6_1 fun v51 =>
 bind1 (max2 x3_2 v51) fun v52 =>
 nx x13_2 fun v53 =>
 tree_deepDecs_l0 v52 x11_2 x12_2 v53 s_5) := by intros; unfold tree_deepDecs_l2; exact (loopR_eq _ _ _ _ _ _).trans (by kernel_rfl)
theorem tree_deepDecs_l1_eq : ∀ x3_1 x5 x6 x11_1 x12_1 x13_1 x21 x22 x23 s_3, tree_deepDecs_l1 x3_1 x5 x6 x11_1 x12_1 x13_1 x21 x22 x23 s_3 =
 bn T_int .lss x23 x22 fun v24 =>
 condS v24 (
 ix T_Fun x21 x23 fun v25 =>
 ld T_Fun s_3 v25 fun v26 =>
 bx T_Fun v26 fun c_1 =>
 pZ T_Fun c_1 fun c8 =>
 gC T_Case 2 c8 fun v29 =>
 bind1 (bslF (C.ti T_Case).size [v29]) fun v30 =>
 ca F_tree_deepCases [v30] s_3 fun v31 s_4 =>
 bind1 (max2 x6 v31) fun v32 =>
 nx x23 fun v33 =>
 tree_deepDecs_l1 x3_1 x5 v32 x11_1 x12_1 x13_1 x21 x22 v33 s_4) (
 gC T_S_Con 4 x5 fun v35 =>
 ln T_S_Con v35 fun v36 =>
 tree_deepDecs_l2 x3_1 x6 x11_1 x12_1 x13_1 v35 v36 (.val (.int .i64 0)) s_3) := by intros; unfold tree_deepDecs_l1; exact (loopR_eq _ _ _ _ _ _).trans (by kernel_rfl)
theorem tree_deepDecs_l0_eq : ∀ x3 x11 x12 x13 s_1, tree_deepDecs_l0 x3 x11 x12 x13 s_1 =
 bn T_int .lss x13 x12 fun v14 =>
 condS v14 (
 ix T_Dec x11 x13 fun v15 =>
 ld T_Dec s_1 v15 fun v16 =>
 bx T_Dec v16 fun c =>
 pZ T_Dec c fun c5 =>
 gC T_S_Case 5 c5 fun v18 =>
 ca F_tree_deepCases [v18] s_1 fun v19 s_2 =>
 gC T_S_Fun 6 c5 fun v21 =>
 ln T_S_Fun v21 fun v22 =>
 tree_deepDecs_l1 x3 c5 v19 x11 x12 x13 v21 v22 (.val (.int .i64 0)) s_2) (
 some (.ret x3, s_1)) := by intros; unfold tree_deepDecs_l0; exact (loopR_eq _ _ _ _ _ _).trans (by kernel_rfl)
theorem tree_deepDecs_eq (a0 : AV) (s : St) : cw (.f F_tree_deepDecs) [a0] s =
 ln T_S_Dec (.val a0) fun v12 =>
 tree_deepDecs_l0 (.val (.int .i64 0)) (.val a0) v12 (.val (.int .i64 0)) s := (callw_f _ _ _).trans (by kernel_rfl)
/- 51 camlet/decl.place -/
theorem decl_place_eq (a0 : AV) (a1 : AV) (a2 : AV) (a3 : AV) (s : St) : cw (.f F_decl_place) [a0, a1, a2, a3] s =
 ca F_ty_Of [(.val a1), (.val (.nils))] s fun v14 s_1 =>
 bind1 (buildS (C.ti T_Scheme).zero [(1, (C.ti T_Ty).size, v14)]) fun v15 =>
 bind1 (buildS (C.ti T_Place).zero [(0, (C.ti T_string).size, (.val a0)), (1, (C.ti T_string).size, (.val a1)), (2, (C.ti T_int).size, (.val a2)), (3, (C.ti T_int).size, (.val a3)), (5, (C.ti T_Scheme).size, v15)]) fun v16 =>
 bx T_Place v16 fun c =>
 pZ T_Place c fun c8 =>
 gA T_Place c8 fun v => some (.ret v, s_1) := (callw_f _ _ _).trans (by kernel_rfl)
/- 52 camlet/decl.clone -/
noncomputable def decl_clone_l0 : List Slot → List Slot → Slot → Slot → Slot → St → Res := fun x1 x2 x10 x11 x12 s => lpD F_decl_clone [.seqR, .seqR, .seqL, .seqR, .block] Go.Proofs.Tryz.f52 [(1, .var x1), (2, .var x2), (10, .s x10), (11, .s x11), (12, .s x12)] s
theorem decl_clone_l0_eq : ∀ x1 x2 x10 x11 x12 s_2, decl_clone_l0 x1 x2 x10 x11 x12 s_2 =
 bn T_int .lss x12 x11 fun v13 =>
 condS v13 (
 ix T_Ty x10 x12 fun v15 =>
 ld T_Ty s_2 v15 fun v16 =>
 bx T_Ty v16 fun c_1 =>
 pZ T_Ty c_1 fun c4 =>
 gC T_S_Ty 3 x1 fun v18 =>
 gA T_Ty c4 fun v20 =>
 cn F_decl_clone [v20] s_2 fun v21 s_3 =>
 ix T_Ty v18 x12 fun v22 =>
 bx T_Ty v21 fun c_2 =>
 bindS (stV s_3 v22 c_2) fun s_4 =>
 nx x12 fun v23 =>
 decl_clone_l0 x1 x2 x10 x11 v23 s_4) (
 bindLS (frzSlots C.ti x1 s_2) fun c1_2 s_5 =>
 gA T_Ty c1_2 fun v24 =>
 bx T_Ty v24 fun c_3 =>
 bindL (putAt x2 0 c_3) fun c2 =>
 gA T_Ty c2 fun v => some (.ret v, s_5)) := by intros; unfold decl_clone_l0; exact (loopR_eq _ _ _ _ _ _).trans (by kernel_rfl)
theorem decl_clone_eq (a0 : AV) (s : St) : cw (.f F_decl_clone) [a0] s =
 bx T_Ty (.val a0) fun c1 =>
 gC T_S_Ty 3 c1 fun v6 =>
 ca F_slices_Clone_STy_Ty [v6] s fun v7 s_1 =>
 bx T_S_Ty v7 fun c =>
 bindL (putAt c1 3 c) fun c1_1 =>
 gC T_S_Ty 3 c1_1 fun v10 =>
 ln T_S_Ty v10 fun v11 =>
 decl_clone_l0 c1_1 ((List.map .val (C.ti T_Ty).zero)) v10 v11 (.val (.int .i64 0)) s_1 := (callw_f _ _ _).trans (by kernel_rfl)
/- 53 (*camlet/scope.walk).pat -/
noncomputable def scope_walk_pat_l0 : Slot → Slot → Slot → Slot → Slot → St → Res := fun x0_2 x2_2 x44 x45 x46 s => lpD F_scope_walk_pat [.seqR, .seqR, .seqR, .block] Go.Proofs.Tryz.f53 [(0, .s x0_2), (2, .s x2_2), (44, .s x44), (45, .s x45), (46, .s x46)] s
noncomputable def scope_walk_pat_j1 : Slot → Slot → List Slot → St → Res := fun x0_1 x2_1 x4_1 s => pw (run C false F_scope_walk_pat (codeAt [.seqR, .seqR] (body Go.Proofs.Tryz.f53)) [(0, .s x0_1), (2, .s x2_1), (4, .var x4_1)] s (ctxR C false F_scope_walk_pat [.seqR, .seqR] (body Go.Proofs.Tryz.f53) (outK C (Go.Proofs.Tryz.f53).results.toList)))
noncomputable def scope_walk_pat_j0 : Slot → Slot → List Slot → Slot → Slot → St → Res := fun x0 x2 x4 x9 x10 s => pw (run C false F_scope_walk_pat (codeAt [.seqR, .seqL, .seqR, .block, .seqR] (body Go.Proofs.Tryz.f53)) [(0, .s x0), (2, .s x2), (4, .var x4), (9, .s x9), (10, .s x10)] s (ctxR C false F_scope_walk_pat [.seqR, .seqL, .seqR, .block, .seqR] (body Go.Proofs.Tryz.f53) (outK C (Go.Proofs.Tryz.f53).results.toList)))
theorem scope_walk_pat_l0_eq : ∀ x0_2 x2_2 x44 x45 x46 s_5, scope_walk_pat_l0 x0_2 x2_2 x44 x45 x46 s_5 =
 bn T_int .lss x46 x45 fun v47 =>
 condS v47 (
 ix T_Pat x44 x46 fun v48 =>
 ld T_Pat s_5 v48 fun v49 =>
 bx T_Pat v49 fun c =>
 pZ T_Pat c fun c7 =>
 gA T_Pat c7 fun v51 =>
 ca F_scope_walk_pat [x0_2, v51, x2_2] s_5 fun v53 s_6 =>
 nx x46 fun v54 =>
 scope_walk_pat_l0 x0_2 x2_2 x44 x45 v54 s_6) (
 bind1 (tupS []) fun v => some (.ret v, s_5)) := by intros; unfold scope_walk_pat_l0; exact (loopR_eq _ _ _ _ _ _).trans (by kernel_rfl)
theorem scope_walk_pat_j1_eq : ∀ x0_1 x2_1 x4_1 s_4, scope_walk_pat_j1 x0_1 x2_1 x4_1 s_4 =
 gC T_S_Pat 4 x4_1 fun v44 =>
 ln T_S_Pat v44 fun v45 =>
 scope_walk_pat_l0 x0_1 x2_1 v44 v45 (.val (.int .i64 0)) s_4 := by intros; unfold scope_walk_pat_j1; exact (pw_eq _).trans (by kernel_rfl)
theorem scope_walk_pat_j0_eq : ∀ x0 x2 x4 x9 x10 s_1, scope_walk_pat_j0 x0 x2 x4 x9 x10 s_1 =
 condS x10 (
 gC T_string 2 x4 fun v15 =>
 bind1 (lookupS (C.ti T_string) (C.ti T_int) s_1 x2 v15 false) fun v16 =>
 nx v16 fun v17 =>
 bind2 (updateS (C.ti T_string) (C.ti T_int) s_1 x2 v15 v17) fun _ s_2 =>
 gC T_string 2 x4 fun v20 =>
 bind1 (lookupS (C.ti T_string) (C.ti T_int) s_2 x2 v20 false) fun v21 =>
 bn T_int .gtr v21 (.val (.int .i64 1)) fun v22 =>
 condS v22 (
 gC T_int 1 x4 fun v25 =>
 gC T_string 2 x4 fun v27 =>
 ca F_scope_walk_fail [x0, (.val (.int .i64 9)), v25, v27] s_2 fun v28 s_3 =>
 scope_walk_pat_j1 x0 x2 x4 s_3) (
 scope_walk_pat_j1 x0 x2 x4 s_2)) (
 bn T_PatKind .eql x9 (.val (.int .i64 4)) fun v30 =>
 condS v30 (
 bind1 (nilCheckV x0) fun v32 =>
 bind1 (faV 4 v32) fun v33 =>
 ld T_x_func_string_int_int s_1 v33 fun v34 =>
 gC T_string 2 x4 fun v36 =>
 gC T_int 1 x4 fun v38 =>
 gC T_S_Pat 4 x4 fun v40 =>
 ln T_S_Pat v40 fun v41 =>
 back (noPan (cal cw true (tgtV v34 [v36, v38, v41]) s_1)) fun v42 s_7 =>
 scope_walk_pat_j1 x0 x2 x4 s_7) (
 scope_walk_pat_j1 x0 x2 x4 s_1)) := by intros; unfold scope_walk_pat_j0; exact (pw_eq _).trans (by kernel_rfl)
theorem scope_walk_pat_eq (a0 : AV) (a1 : AV) (a2 : AV) (s : St) : cw (.f F_scope_walk_pat) [a0, a1, a2] s =
 bx T_Pat (.val a1) fun c4 =>
 gC T_PatKind 0 c4 fun v9 =>
 bn T_PatKind .eql v9 (.val (.int .i64 2)) fun v11 =>
 condS v11 (
 scope_walk_pat_j0 (.val a0) (.val a2) c4 v9 v11 s) (
 bn T_PatKind .eql v9 (.val (.int .i64 6)) fun v12 =>
 scope_walk_pat_j0 (.val a0) (.val a2) c4 v9 v12 s) := (callw_f _ _ _).trans (by kernel_rfl)
/- 54 (*camlet/scope.walk).bind -/
noncomputable def scope_walk_bind_l0 : Slot → Slot → Slot → Slot → Slot → St → Res := fun x2 x3 x7 x8 x9 s => lpD F_scope_walk_bind [.seqR, .seqL, .seqR, .block] Go.Proofs.Tryz.f54 [(2, .s x2), (3, .s x3), (7, .s x7), (8, .s x8), (9, .s x9)] s
theorem scope_walk_bind_l0_eq : ∀ x2 x3 x7 x8 x9 s_1, scope_walk_bind_l0 x2 x3 x7 x8 x9 s_1 =
 bn T_int .lss x9 x8 fun v10 =>
 condS v10 (
 ix T_string x7 x9 fun v11 =>
 ld T_string s_1 v11 fun v12 =>
 ld T_P_walk s_1 x2 fun v13 =>
 bind1 (nilCheckV v13) fun v14 =>
 bind1 (faV 0 v14) fun v15 =>
 ld T_x_map_string_int s_1 v15 fun v16 =>
 bind1 (lookupS (C.ti T_string) (C.ti T_int) s_1 v16 v12 false) fun v18 =>
 nx v18 fun v19 =>
 bind2 (updateS (C.ti T_string) (C.ti T_int) s_1 v16 v12 v19) fun _ s_2 =>
 nx x9 fun v20 =>
 scope_walk_bind_l0 x2 x3 x7 x8 v20 s_2) (
 bind1 (fnS F_scope_walk_bind_1 [x3, x2]) fun v21 =>
 some (.ret v21, s_1)) := by intros; unfold scope_walk_bind_l0; exact (loopR_eq _ _ _ _ _ _).trans (by kernel_rfl)
theorem scope_walk_bind_eq (a0 : AV) (a1 : AV) (s : St) : cw (.f F_scope_walk_bind) [a0, a1] s =
 bx T_P_walk (.val a0) fun c2 =>
 bindA (avs c2) fun l2 =>
 bx T_S_string (.val a1) fun c3 =>
 bindA (avs c3) fun l3 =>
 ld T_S_string s (.val (.cp l3)) fun v7 =>
 ln T_S_string v7 fun v8 =>
 scope_walk_bind_l0 (.val (.cp l2)) (.val (.cp l3)) v7 v8 (.val (.int .i64 0)) s := (callw_f _ _ _).trans (by kernel_rfl)
/- 55 (*camlet/scope.walk).kase -/
theorem scope_walk_kase_eq (a0 : AV) (a1 : AV) (s : St) : cw (.f F_scope_walk_kase) [a0, a1] s =
 bx T_Case (.val a1) fun c3 =>
 gC T_Pat 0 c3 fun v7 =>
 ca F_scope_walk_pat [(.val a0), v7, (.val (.mp s.locs.length))] (St.addLoc s (.map [] 0)) fun v9 s_1 =>
 gC T_Pat 0 c3 fun v12 =>
 ca F_tree_Vars [v12] s_1 fun v13 s_2 =>
 ca F_scope_walk_bind [(.val a0), v13] s_2 fun v14 s_3 =>
 gC T_Exp 5 c3 fun v17 =>
 ca F_scope_walk_exp [(.val a0), v17] s_3 fun v18 s_4 =>
 back (cal cw true (tgtV v14 []) s_4) fun v20 s_5 =>
 bind1 (tupS []) fun v => some (.ret v, s_5) := (callw_f _ _ _).trans (by kernel_rfl)
/- 56 (*camlet/scope.walk).dec$1 -/
theorem scope_walk_dec_1_eq (s : St) : cw (.f F_scope_walk_dec_1) [] s =
 bind1 (tupS []) fun v => some (.ret v, s) := (callw_f _ _ _).trans (by kernel_rfl)
/- 57 camlet/decl.double -/
noncomputable def decl_double_l0 : Slot → Slot → Slot → Slot → St → Res := fun x3 x9 x10 x11 s => lpD F_decl_double [.seqR, .seqR, .seqL, .seqR, .block] Go.Proofs.Tryz.f57 [(3, .s x3), (9, .s x9), (10, .s x10), (11, .s x11)] s
theorem decl_double_l0_eq : ∀ x3 x9 x10 x11 s_2, decl_double_l0 x3 x9 x10 x11 s_2 =
 bn T_int .lss x11 x10 fun v12 =>
 condS v12 (
 ix T_Place x9 x11 fun v13 =>
 ld T_Place s_2 v13 fun v14 =>
 bx T_Place v14 fun c =>
 pZ T_Place c fun c5 =>
 gC T_Ty 6 c5 fun v17 =>
 ca F_decl_clone [v17] s_2 fun v18 s_3 =>
 bx T_Ty v18 fun c_1 =>
 bindL (putAt c5 6 c_1) fun c5_1 =>
 gA T_Place c5_1 fun v22 =>
 bind1 (bslF (C.ti T_Place).size [v22]) fun v23 =>
 bind2 (appendS T_Place (C.ti T_Place) s_3 x3 v23) fun v24 s_4 =>
 nx x11 fun v25 =>
 decl_double_l0 v24 x9 x10 v25 s_4) (
 some (.ret x3, s_2)) := by intros; unfold decl_double_l0; exact (loopR_eq _ _ _ _ _ _).trans (by kernel_rfl)
theorem decl_double_eq (a0 : AV) (s : St) : cw (.f F_decl_double) [a0] s =
 ln T_Table (.val a0) fun v7 =>
 bind2 (makeS T_Place (C.ti T_Place) s (.val (.int .i64 0)) v7) fun v8 s_1 =>
 ln T_Table (.val a0) fun v10 =>
 decl_double_l0 v8 (.val a0) v10 (.val (.int .i64 0)) s_1 := (callw_f _ _ _).trans (by kernel_rfl)
/- 58 camlet/decl.known -/
noncomputable def decl_known_l0 : Slot → Slot → Slot → Slot → St → Res := fun x3 x10 x11 x12 s => lpD F_decl_known [.seqR, .seqR, .seqL, .seqR, .block] Go.Proofs.Tryz.f58 [(3, .s x3), (10, .s x10), (11, .s x11), (12, .s x12)] s
theorem decl_known_l0_eq : ∀ x3 x10 x11 x12 s_8, decl_known_l0 x3 x10 x11 x12 s_8 =
 bn T_int .lss x12 x11 fun v13 =>
 condS v13 (
 ix T_Place x10 x12 fun v14 =>
 ld T_Place s_8 v14 fun v15 =>
 bx T_Place v15 fun c =>
 pZ T_Place c fun c5 =>
 gC T_string 1 c5 fun v19 =>
 bind1 (lookupS (C.ti T_string) (C.ti T_int) s_8 x3 v19 true) fun v20 =>
 bind1 (extractS v20 0) fun v21 =>
 bind1 (extractS v20 1) fun v22 =>
 bind1 (unS .not v22) fun v24 =>
 condS v24 (
 gC T_string 1 c5 fun v27 =>
 gC T_int 5 c5 fun v30 =>
 bind2 (updateS (C.ti T_string) (C.ti T_int) s_8 x3 v27 v30) fun _ s_9 =>
 nx x12 fun v31 =>
 decl_known_l0 x3 x10 x11 v31 s_9) (
 nx x12 fun v31_1 =>
 decl_known_l0 x3 x10 x11 v31_1 s_8)) (
 some (.ret x3, s_8)) := by intros; unfold decl_known_l0; exact (loopR_eq _ _ _ _ _ _).trans (by kernel_rfl)
theorem decl_known_eq (a0 : AV) (s : St) : cw (.f F_decl_known) [a0] s =
 bind2 (updateS (C.ti T_string) (C.ti T_int) (St.addLoc s (.map [] 0)) (.val (.mp s.locs.length)) (.val (.str [105, 110, 116])) (.val (.int .i64 (-1)))) fun _ s_1 =>
 bind2 (updateS (C.ti T_string) (C.ti T_int) s_1 (.val (.mp s.locs.length)) (.val (.str [98, 111, 111, 108])) (.val (.int .i64 (-1)))) fun _ s_2 =>
 bind2 (updateS (C.ti T_string) (C.ti T_int) s_2 (.val (.mp s.locs.length)) (.val (.str [117, 110, 105, 116])) (.val (.int .i64 (-1)))) fun _ s_3 =>
 bind2 (updateS (C.ti T_string) (C.ti T_int) s_3 (.val (.mp s.locs.length)) (.val (.str [101, 120, 110])) (.val (.int .i64 (-1)))) fun _ s_4 =>
 bind2 (updateS (C.ti T_string) (C.ti T_int) s_4 (.val (.mp s.locs.length)) (.val (.str [114, 101, 102])) (.val (.int .i64 (-1)))) fun _ s_5 =>
 bind2 (updateS (C.ti T_string) (C.ti T_int) s_5 (.val (.mp s.locs.length)) (.val (.str [45, 62])) (.val (.int .i64 (-1)))) fun _ s_6 =>
 bind2 (updateS (C.ti T_string) (C.ti T_int) s_6 (.val (.mp s.locs.length)) (.val (.str [42])) (.val (.int .i64 (-1)))) fun _ s_7 =>
 ln T_Table (.val a0) fun v11 =>
 decl_known_l0 (.val (.mp s.locs.length)) (.val a0) v11 (.val (.int .i64 0)) s_7 := (callw_f _ _ _).trans (by kernel_rfl)
/- 59 camlet/decl.head -/
noncomputable def decl_head_l0 : List Slot → List Slot → Slot → Slot → Slot → St → Res := fun x1 x2 x4 x11 x12 s => lpD F_decl_head [.seqR, .seqR, .seqR, .seqL, .seqR, .block] Go.Proofs.Tryz.f59 [(1, .var x1), (2, .var x2), (4, .s x4), (11, .s x11), (12, .s x12)] s
theorem decl_head_l0_eq : ∀ x1 x2 x4 x11 x12 s_2, decl_head_l0 x1 x2 x4 x11 x12 s_2 =
 bn T_int .lss x12 x11 fun v13 =>
 condS v13 (
 bind1 (buildS (C.ti T_Ty).zero [(0, (C.ti T_TyKind).size, (.val (.int .i64 1))), (1, (C.ti T_int).size, x12)]) fun v17 =>
 bind1 (bslF (C.ti T_Ty).size [v17]) fun v18 =>
 bind2 (appendS T_Ty (C.ti T_Ty) s_2 x4 v18) fun v19 s_3 =>
 nx x12 fun v20 =>
 decl_head_l0 x1 x2 v19 x11 v20 s_3) (
 gC T_string 2 x1 fun v22 =>
 cn F_ty_Of [v22, x4] s_2 fun v24 s_4 =>
 gC T_int 3 x1 fun v26 =>
 bx T_Ty v24 fun c_1 =>
 bindL (putAt x2 0 c_1) fun c2_1 =>
 bind1 (tupS [(ofSlots (C.ti T_Ty) (List.take (C.ti T_Ty).size c2_1)), (some v26)]) fun v => some (.ret v, s_4)) := by intros; unfold decl_head_l0; exact (loopR_eq _ _ _ _ _ _).trans (by kernel_rfl)
theorem decl_head_eq (a0 : AV) (s : St) : cw (.f F_decl_head) [a0] s =
 bx T_Dec (.val a0) fun c1 =>
 gC T_DecKind 0 c1 fun v7 =>
 bn T_DecKind .eql v7 (.val (.int .i64 4)) fun v8 =>
 condS v8 (
 ca F_ty_Of [(.val (.str [101, 120, 110])), (.val (.nils))] s fun v9 s_1 =>
 bx T_Ty v9 fun c =>
 pZ T_Ty c fun c2 =>
 bind1 (tupS [(ofSlots (C.ti T_Ty) (List.take (C.ti T_Ty).size c2)), (some (.val (.int .i64 0)))]) fun v => some (.ret v, s_1)) (
 gC T_int 3 c1 fun v11 =>
 decl_head_l0 c1 ((List.map .val (C.ti T_Ty).zero)) (.val (.nils)) v11 (.val (.int .i64 0)) s) := (callw_f _ _ _).trans (by kernel_rfl)
/- 60 camlet/decl.wrong -/
theorem decl_wrong_eq (a0 : AV) (a1 : AV) (a2 : AV) (s : St) : cw (.f F_decl_wrong) [a0, a1, a2] s =
 bx T_x_map_string_int (.val a0) fun c3 =>
 bindA (avs c3) fun l3 =>
 bx T_int (.val a1) fun c4 =>
 bindA (avs c4) fun l4 =>
 bx T_Ty (.val a2) fun c5 =>
 bind1 (fnS F_decl_wrong_1 [(.val (.cp l4)), (.val (.cp l3)), (.val (.vp s.locs.length 0))]) fun v9 =>
 bx T_x_func_api_Ty_api_Errno_string v9 fun c =>
 bindS (stV (St.addLoc s (.var (List.map .val (C.ti T_x_func_api_Ty_api_Errno_string).zero))) (.val (.vp s.locs.length 0)) c) fun s_1 =>
 ld T_x_func_api_Ty_api_Errno_string s_1 (.val (.vp s.locs.length 0)) fun v10 =>
 gA T_Ty c5 fun v11 =>
 back (cal cw true (tgtV v10 [v11]) s_1) fun v12 s_2 =>
 bind1 (extractS v12 0) fun v13 =>
 bind1 (extractS v12 1) fun v14 =>
 bind1 (tupS [(some v13), (some v14)]) fun v => some (.ret v, s_2) := (callw_f _ _ _).trans (by kernel_rfl)
/- 61 camlet/ty.Put -/
theorem ty_Put_eq (a0 : AV) (a1 : AV) (s : St) : cw (.f F_ty_Put) [a0, a1] s =
 bx T_Ty (.val a0) fun c2 =>
 bx T_S_Ty (.val a1) fun c3 =>
 bindA (avs c3) fun l3 =>
 gA T_Ty c2 fun v5 =>
 bind1 (fnS F_ty_Put_1 [(.val (.cp l3))]) fun v6 =>
 ca F_ty_change [v5, v6] s fun v7 s_1 =>
 bx T_Ty v7 fun c =>
 pZ T_Ty c fun c4 =>
 gA T_Ty c4 fun v => some (.ret v, s_1) := (callw_f _ _ _).trans (by kernel_rfl)
/- 62 camlet/ty.Fn -/
theorem ty_Fn_eq (a0 : AV) (a1 : AV) (s : St) : cw (.f F_ty_Fn) [a0, a1] s =
 bx T_Ty (.val a0) fun c2 =>
 bx T_Ty (.val a1) fun c3 =>
 gA T_Ty c2 fun v5 =>
 gA T_Ty c3 fun v6 =>
 bind1 (bslF (C.ti T_Ty).size [v5, v6]) fun v7 =>
 ca F_ty_Of [(.val (.str [45, 62])), v7] s fun v8 s_1 =>
 bx T_Ty v8 fun c =>
 pZ T_Ty c fun c4 =>
 gA T_Ty c4 fun v => some (.ret v, s_1) := (callw_f _ _ _).trans (by kernel_rfl)
/- 63 camlet/camletref11.plain -/
/- 64 camlet/camletref12.pat -/
/- 65 camlet/camletref12.exp -/
/- 66 camlet/camletref12.one -/
/- 67 camlet/camletref05.Vars -/
/- 68 camlet/camletref11.copied -/
/- 69 camlet/camletref11.datatype -/
/- 70 camlet/camletref11.given -/
/- 71 camlet/camletref11.Find -/
/- 72 camlet/camletref11.Data -/
/- 73 camlet/camletref05.OfTy -/
noncomputable def ref05_OfTy_l0 : Slot → List Slot → Slot → Slot → St → Res := fun x1 x2 x5 x6 s => lpD F_ref05_OfTy [.seqR, .seqR, .seqL, .seqR, .block] Go.Proofs.Tryz.f73 [(1, .s x1), (2, .var x2), (5, .s x5), (6, .s x6)] s
theorem ref05_OfTy_l0_eq : ∀ x1 x2 x5 x6 s_1, ref05_OfTy_l0 x1 x2 x5 x6 s_1 =
 gC T_S_Ty 3 x2 fun v13 =>
 ln T_S_Ty v13 fun v14 =>
 bn T_int .lss x6 v14 fun v15 =>
 condS v15 (
 gC T_S_Ty 3 x2 fun v20 =>
 ix T_Ty v20 x6 fun v22 =>
 ld T_Ty s_1 v22 fun v23 =>
 ca F_ref05_OfTy [v23, x1] s_1 fun v25 s_2 =>
 bind2 (appendS T_ref05_Node (C.ti T_ref05_Node) s_2 x5 v25) fun v26 s_3 =>
 nx x6 fun v17 =>
 ref05_OfTy_l0 x1 x2 v26 v17 s_3) (
 some (.ret x5, s_1)) := by intros; unfold ref05_OfTy_l0; exact (loopR_eq _ _ _ _ _ _).trans (by kernel_rfl)
theorem ref05_OfTy_eq (a0 : AV) (a1 : AV) (s : St) : cw (.f F_ref05_OfTy) [a0, a1] s =
 bx T_Ty (.val a0) fun c2 =>
 gA T_Ty c2 fun v7 =>
 bind1 (buildS (C.ti T_ref05_Node).zero [(0, (C.ti T_int).size, (.val (.int .i64 4))), (22, (C.ti T_Ty).size, v7), (2, (C.ti T_int).size, (.val a1))]) fun v9 =>
 bind1 (bslF (C.ti T_ref05_Node).size [v9]) fun v10 =>
 ref05_OfTy_l0 (.val a1) c2 v10 (.val (.int .i64 0)) s := (callw_f _ _ _).trans (by kernel_rfl)
/- 74 camlet/camletref11.wrong -/
/- 75 camlet/camletref08.Fn -/
/- 76 camlet/tree.expression -/
theorem tree_expression_eq (a0 : AV) (s : St) : cw (.f F_tree_expression) [a0] s =
 bx T_Exp (.val a0) fun c1 =>
 bindA (avs c1) fun l1 =>
 bind1 (fnS F_tree_expression_1 [(.val (.cp l1))]) fun v3 =>
 some (.ret v3, s) := (callw_f _ _ _).trans (by kernel_rfl)
/- 77 camlet/tree.RightExp$1 -/
theorem tree_RightExp_1_eq (a0 : AV) (s : St) : cw (.f F_tree_RightExp_1) [a0] s =
 ld T_Exp s (.val a0) fun v2 =>
 ca F_tree_deepExp [v2] s fun v3 s_1 =>
 some (.ret v3, s_1) := (callw_f _ _ _).trans (by kernel_rfl)
/- 78 camlet/tree.deepExp -/
noncomputable def tree_deepExp_l0 : Slot → Slot → Slot → Slot → St → Res := fun x3 x14 x15 x16 s => lpD F_tree_deepExp [.seqR, .seqR, .seqL, .seqR, .block] Go.Proofs.Tryz.f78 [(3, .s x3), (14, .s x14), (15, .s x15), (16, .s x16)] s
theorem tree_deepExp_l0_eq : ∀ x3 x14 x15 x16 s_3, tree_deepExp_l0 x3 x14 x15 x16 s_3 =
 bn T_int .lss x16 x15 fun v17 =>
 condS v17 (
 ix T_Exp x14 x16 fun v18 =>
 ld T_Exp s_3 v18 fun v19 =>
 bx T_Exp v19 fun c =>
 pZ T_Exp c fun c5 =>
 gA T_Exp c5 fun v21 =>
 ca F_tree_deepExp [v21] s_3 fun v22 s_4 =>
 bind1 (max2 x3 v22) fun v23 =>
 nx x16 fun v24 =>
 tree_deepExp_l0 v23 x14 x15 v24 s_4) (
 nx x3 fun v26 =>
 some (.ret v26, s_3)) := by intros; unfold tree_deepExp_l0; exact (loopR_eq _ _ _ _ _ _).trans (by kernel_rfl)
theorem tree_deepExp_eq (a0 : AV) (s : St) : cw (.f F_tree_deepExp) [a0] s =
 bx T_Exp (.val a0) fun c1 =>
 gC T_S_Dec 6 c1 fun v7 =>
 cn F_tree_deepDecs [v7] s fun v8 s_1 =>
 gC T_S_Case 5 c1 fun v10 =>
 cn F_tree_deepCases [v10] s_1 fun v11 s_2 =>
 bind1 (max2 v8 v11) fun v12 =>
 gC T_S_Exp 4 c1 fun v14 =>
 ln T_S_Exp v14 fun v15 =>
 tree_deepExp_l0 v12 v14 v15 (.val (.int .i64 0)) s_2 := (callw_f _ _ _).trans (by kernel_rfl)
/- 79 slices.Index[[]string,string] -/
noncomputable def slices_Index_Sstring_string_l0 : Slot → Slot → Slot → Slot → St → Res := fun x0 x1 x7 x8 s => lpD F_slices_Index_Sstring_string [.seqR, .seqL, .seqR, .block] Go.Proofs.Tryz.f79 [(0, .s x0), (1, .s x1), (7, .s x7), (8, .s x8)] s
theorem slices_Index_Sstring_string_l0_eq : ∀ x0 x1 x7 x8 s_1, slices_Index_Sstring_string_l0 x0 x1 x7 x8 s_1 =
 bn T_int .lss x8 x7 fun v9 =>
 condS v9 (
 ix T_string x0 x8 fun v14 =>
 ld T_string s_1 v14 fun v15 =>
 bn T_string .eql x1 v15 fun v16 =>
 condS v16 (
 some (.ret x8, s_1)) (
 nx x8 fun v18 =>
 slices_Index_Sstring_string_l0 x0 x1 x7 v18 s_1)) (
 some (.ret (.val (.int .i64 (-1))), s_1)) := by intros; unfold slices_Index_Sstring_string_l0; exact (loopR_eq _ _ _ _ _ _).trans (by kernel_rfl)
theorem slices_Index_Sstring_string_eq (a0 : AV) (a1 : AV) (s : St) : cw (.f F_slices_Index_Sstring_string) [a0, a1] s =
 ln T_S_string (.val a0) fun v7 =>
 slices_Index_Sstring_string_l0 (.val a0) (.val a1) v7 (.val (.int .i64 0)) s := (callw_f _ _ _).trans (by kernel_rfl)
/- 80 camlet/camletref05.OfExp -/
noncomputable def ref05_OfExp_l2 : List Slot → Slot → Slot → St → Res := fun x1_2 x3_2 x6 s => lpD F_ref05_OfExp [.seqR, .seqR, .seqR, .seqR, .seqL, .seqR, .block] Go.Proofs.Tryz.f80 [(1, .var x1_2), (3, .s x3_2), (6, .s x6)] s
noncomputable def ref05_OfExp_l1 : List Slot → Slot → Slot → St → Res := fun x1_1 x3_1 x5 s => lpD F_ref05_OfExp [.seqR, .seqR, .seqR, .seqL, .seqR, .block] Go.Proofs.Tryz.f80 [(1, .var x1_1), (3, .s x3_1), (5, .s x5)] s
noncomputable def ref05_OfExp_l0 : List Slot → Slot → Slot → St → Res := fun x1 x3 x4 s => lpD F_ref05_OfExp [.seqR, .seqR, .seqL, .seqR, .block] Go.Proofs.Tryz.f80 [(1, .var x1), (3, .s x3), (4, .s x4)] s
theorem ref05_OfExp_l2_eq : ∀ x1_2 x3_2 x6 s_7, ref05_OfExp_l2 x1_2 x3_2 x6 s_7 =
 gC T_S_Case 5 x1_2 fun v44 =>
 ln T_S_Case v44 fun v45 =>
 bn T_int .lss x6 v45 fun v46 =>
 condS v46 (
 gC T_S_Case 5 x1_2 fun v51 =>
 ix T_Case v51 x6 fun v53 =>
 ld T_Case s_7 v53 fun v54 =>
 ca F_ref05_OfCase [v54] s_7 fun v55 s_8 =>
 bind2 (appendS T_ref05_Node (C.ti T_ref05_Node) s_8 x3_2 v55) fun v56 s_9 =>
 nx x6 fun v48 =>
 ref05_OfExp_l2 x1_2 v56 v48 s_9) (
 some (.ret x3_2, s_7)) := by intros; unfold ref05_OfExp_l2; exact (loopR_eq _ _ _ _ _ _).trans (by kernel_rfl)
theorem ref05_OfExp_l1_eq : ∀ x1_1 x3_1 x5 s_4, ref05_OfExp_l1 x1_1 x3_1 x5 s_4 =
 gC T_S_Exp 4 x1_1 fun v29 =>
 ln T_S_Exp v29 fun v30 =>
 bn T_int .lss x5 v30 fun v31 =>
 condS v31 (
 gC T_S_Exp 4 x1_1 fun v36 =>
 ix T_Exp v36 x5 fun v38 =>
 ld T_Exp s_4 v38 fun v39 =>
 ca F_ref05_OfExp [v39] s_4 fun v40 s_5 =>
 bind2 (appendS T_ref05_Node (C.ti T_ref05_Node) s_5 x3_1 v40) fun v41 s_6 =>
 nx x5 fun v33 =>
 ref05_OfExp_l1 x1_1 v41 v33 s_6) (
 ref05_OfExp_l2 x1_1 x3_1 (.val (.int .i64 0)) s_4) := by intros; unfold ref05_OfExp_l1; exact (loopR_eq _ _ _ _ _ _).trans (by kernel_rfl)
theorem ref05_OfExp_l0_eq : ∀ x1 x3 x4 s_1, ref05_OfExp_l0 x1 x3 x4 s_1 =
 gC T_S_Dec 6 x1 fun v14 =>
 ln T_S_Dec v14 fun v15 =>
 bn T_int .lss x4 v15 fun v16 =>
 condS v16 (
 gC T_S_Dec 6 x1 fun v21 =>
 ix T_Dec v21 x4 fun v23 =>
 ld T_Dec s_1 v23 fun v24 =>
 ca F_ref05_OfDec [v24, (.val (.bool true))] s_1 fun v25 s_2 =>
 bind2 (appendS T_ref05_Node (C.ti T_ref05_Node) s_2 x3 v25) fun v26 s_3 =>
 nx x4 fun v18 =>
 ref05_OfExp_l0 x1 v26 v18 s_3) (
 ref05_OfExp_l1 x1 x3 (.val (.int .i64 0)) s_1) := by intros; unfold ref05_OfExp_l0; exact (loopR_eq _ _ _ _ _ _).trans (by kernel_rfl)
theorem ref05_OfExp_eq (a0 : AV) (s : St) : cw (.f F_ref05_OfExp) [a0] s =
 bx T_Exp (.val a0) fun c1 =>
 gA T_Exp c1 fun v7 =>
 gC T_int 1 c1 fun v9 =>
 bind1 (buildS (C.ti T_ref05_Node).zero [(0, (C.ti T_int).size, (.val (.int .i64 2))), (10, (C.ti T_Exp).size, v7), (2, (C.ti T_int).size, v9)]) fun v10 =>
 bind1 (bslF (C.ti T_ref05_Node).size [v10]) fun v11 =>
 ref05_OfExp_l0 c1 v11 (.val (.int .i64 0)) s := (callw_f _ _ _).trans (by kernel_rfl)
/- 81 camlet/camletref05.DeepExp -/
noncomputable def ref05_DeepExp_l1 : List Slot → Slot → Slot → St → Res := fun x1_1 x3_1 x5 s => lpD F_ref05_DeepExp [.seqR, .seqR, .seqR, .seqL, .seqR, .block] Go.Proofs.Tryz.f81 [(1, .var x1_1), (3, .s x3_1), (5, .s x5)] s
noncomputable def ref05_DeepExp_l0 : List Slot → Slot → Slot → St → Res := fun x1 x3 x4 s => lpD F_ref05_DeepExp [.seqR, .seqR, .seqL, .seqR, .block] Go.Proofs.Tryz.f81 [(1, .var x1), (3, .s x3), (4, .s x4)] s
theorem ref05_DeepExp_l1_eq : ∀ x1_1 x3_1 x5 s_4, ref05_DeepExp_l1 x1_1 x3_1 x5 s_4 =
 gC T_S_Case 5 x1_1 fun v26 =>
 ln T_S_Case v26 fun v27 =>
 bn T_int .lss x5 v27 fun v28 =>
 condS v28 (
 gC T_S_Case 5 x1_1 fun v33 =>
 ix T_Case v33 x5 fun v35 =>
 bind1 (faV 0 v35) fun v36 =>
 bind1 (ldV (C.ti T_Pat) true s_4 v36) fun v37 =>
 cn F_ref05_deepPat [v37] s_4 fun v38 s_5 =>
 gC T_S_Case 5 x1_1 fun v40 =>
 ix T_Case v40 x5 fun v42 =>
 bind1 (faV 5 v42) fun v43 =>
 bind1 (ldV (C.ti T_Exp) true s_5 v43) fun v44 =>
 cn F_ref05_DeepExp [v44] s_5 fun v45 s_6 =>
 bind1 (max3 x3_1 v38 v45) fun v46 =>
 nx x5 fun v30 =>
 ref05_DeepExp_l1 x1_1 v46 v30 s_6) (
 nx x3_1 fun v48 =>
 some (.ret v48, s_4)) := by intros; unfold ref05_DeepExp_l1; exact (loopR_eq _ _ _ _ _ _).trans (by kernel_rfl)
theorem ref05_DeepExp_l0_eq : ∀ x1 x3 x4 s_2, ref05_DeepExp_l0 x1 x3 x4 s_2 =
 gC T_S_Exp 4 x1 fun v11 =>
 ln T_S_Exp v11 fun v12 =>
 bn T_int .lss x4 v12 fun v13 =>
 condS v13 (
 gC T_S_Exp 4 x1 fun v18 =>
 ix T_Exp v18 x4 fun v20 =>
 ld T_Exp s_2 v20 fun v21 =>
 ca F_ref05_DeepExp [v21] s_2 fun v22 s_3 =>
 bind1 (max2 x3 v22) fun v23 =>
 nx x4 fun v15 =>
 ref05_DeepExp_l0 x1 v23 v15 s_3) (
 ref05_DeepExp_l1 x1 x3 (.val (.int .i64 0)) s_2) := by intros; unfold ref05_DeepExp_l0; exact (loopR_eq _ _ _ _ _ _).trans (by kernel_rfl)
theorem ref05_DeepExp_eq (a0 : AV) (s : St) : cw (.f F_ref05_DeepExp) [a0] s =
 bx T_Exp (.val a0) fun c1 =>
 gC T_S_Dec 6 c1 fun v7 =>
 ca F_ref05_Deep [v7] s fun v8 s_1 =>
 ref05_DeepExp_l0 c1 v8 (.val (.int .i64 0)) s_1 := (callw_f _ _ _).trans (by kernel_rfl)
/- 82 camlet/scope.names$1 -/
theorem scope_names_1_eq (a0 : AV) (a1 : AV) (s : St) : cw (.f F_scope_names_1) [a0, a1] s =
 ld T_S_string s (.val a1) fun v3 =>
 ca F_slices_Contains_Sstring_string [v3, (.val a0)] s fun v5 s_1 =>
 bind1 (unS .not v5) fun v6 =>
 condS v6 (
 ld T_S_string s_1 (.val a1) fun v7 =>
 bind1 (bslF (C.ti T_string).size [(.val a0)]) fun v9 =>
 bind2 (appendS T_string (C.ti T_string) s_1 v7 v9) fun v10 s_2 =>
 bx T_S_string v10 fun c =>
 bindS (stV s_2 (.val a1) c) fun s_3 =>
 bind1 (tupS []) fun v => some (.ret v, s_3)) (
 bind1 (tupS []) fun v => some (.ret v, s_1)) := (callw_f _ _ _).trans (by kernel_rfl)
/- 83 camlet/tree.Vars -/
noncomputable def tree_Vars_r0 (x3 : Slot) : Am.Obj := .loop .ready none F_tree_Vars [(3, .s x3)] [7] (rngAsg (codeAt [.seqR, .seqR, .seqL, .seqR, .block] (body Go.Proofs.Tryz.f83))) (rngBody (codeAt [.seqR, .seqR, .seqL, .seqR, .block] (body Go.Proofs.Tryz.f83)))
theorem tree_Vars_r0_eq (x3 : Slot) (y7 : AV) (loc : Nat) (s_2 : St) : yldR C (tree_Vars_r0 x3) loc [y7] s_2 = noPan (
 bx T_thing (.val y7) fun c =>
 pZ T_thing c fun c4 =>
 bindS (beginL loc s_2) fun s_3 =>
 gC T_P_Pat 5 c4 fun v9 =>
 bind1 (nilCheckV v9) fun v10 =>
 bind1 (faV 0 v10) fun v11 =>
 ld T_PatKind s_3 v11 fun v12 =>
 bn T_PatKind .eql v12 (.val (.int .i64 2)) fun v13 =>
 bindB (Slot.isB v13 false) fun w =>
 bindB (Slot.isB v13 false) fun w_1 =>
 bind1 (gd w_1 (bif w then (ofSlots (C.ti T_P_Pat) (List.take (C.ti T_P_Pat).size (List.drop 5 c4))) else none)) fun v16 =>
 bindB (Slot.isB v13 false) fun w_2 =>
 bind1 (gd w_2 (nilCheckV v16)) fun v17 =>
 bindB (Slot.isB v13 false) fun w_3 =>
 bind1 (gd w_3 (faV 0 v17)) fun v18 =>
 bindB (Slot.isB v13 false) fun w_4 =>
 bind1 (gd w_4 (ldV (C.ti T_PatKind) false s_3 v18)) fun v19 =>
 bindB (Slot.isB v13 false) fun w_5 =>
 bind1 (gd w_5 (binS (C.ti T_PatKind) .eql v19 (.val (.int .i64 6)))) fun v20 =>
 bind1 (pickS v13 (.val (.bool true)) v20) fun v21 =>
 condS v21 (
 ld T_S_string s_3 x3 fun v22 =>
 gC T_P_Pat 5 c4 fun v24 =>
 bind1 (nilCheckV v24) fun v25 =>
 bind1 (faV 2 v25) fun v26 =>
 ld T_string s_3 v26 fun v27 =>
 bind1 (bslF (C.ti T_string).size [v27]) fun v28 =>
 bind2 (appendS T_string (C.ti T_string) s_3 v22 v28) fun v29 s_4 =>
 bx T_S_string v29 fun c_1 =>
 bindS (stV s_4 x3 c_1) fun s_5 =>
 bindS (setLoop loc .ready none s_5) fun s_6 =>
 some (.ret (.val (.bool true)), s_6)) (
 bindS (setLoop loc .ready none s_3) fun s_7 =>
 some (.ret (.val (.bool true)), s_7))) := by kernel_rfl
theorem tree_Vars_eq (a0 : AV) (s : St) : cw (.f F_tree_Vars) [a0] s =
 bx T_Pat (.val a0) fun c1 =>
 gA T_Pat c1 fun v5 =>
 ca F_tree_pattern [v5] (St.addLoc s (.var (List.map .val (C.ti T_S_string).zero))) fun v6 s_1 =>
 rangeC C cw v6 s_1.locs.length (St.addLoc s_1 (tree_Vars_r0 (.val (.vp s.locs.length 0)))) fun s_8 =>
 endX s_1.locs.length s_8 (fun s_9 =>
 ld T_S_string s_9 (.val (.vp s.locs.length 0)) fun v30 =>
 some (.ret v30, s_9)) (fun s_10 =>
 some (.ret (.val (.nils)), s_10)) (fun j s_11 =>
 bif Nat.beq j 0 then (
 ld T_S_string s_11 (.val (.vp s.locs.length 0)) fun v30_1 =>
 some (.ret v30_1, s_11)) else (
(none : Res))) := (callw_f _ _ _).trans (by kernel_rfl)
/- 84 camlet/camletref05.wrong -/
theorem ref05_wrong_eq (a0 : AV) (s : St) : cw (.f F_ref05_wrong) [a0] s =
 bx T_ref05_Node (.val a0) fun c1 =>
 gC T_int 0 c1 fun v5 =>
 bn T_int .eql v5 (.val (.int .i64 1)) fun v7 =>
 condS v7 (
 gC T_Dec 3 c1 fun v9 =>
 gC T_bool 1 c1 fun v11 =>
 cn F_ref05_dec [v9, v11] s fun v12 s_1 =>
 gC T_string 5 c1 fun v15 =>
 bind1 (tupS [(some v12), (some v15)]) fun v => some (.ret v, s_1)) (
 bn T_int .eql v5 (.val (.int .i64 2)) fun v17 =>
 condS v17 (
 gC T_Exp 10 c1 fun v19 =>
 cn F_ref05_exp [v19] s fun v20 s_2 =>
 gC T_string 12 c1 fun v23 =>
 bind1 (tupS [(some v20), (some v23)]) fun v => some (.ret v, s_2)) (
 bn T_int .eql v5 (.val (.int .i64 3)) fun v25 =>
 condS v25 (
 gC T_Pat 17 c1 fun v27 =>
 cn F_ref05_pat [v27] s fun v28 s_3 =>
 gC T_string 19 c1 fun v31 =>
 bind1 (tupS [(some v28), (some v31)]) fun v => some (.ret v, s_3)) (
 bn T_int .eql v5 (.val (.int .i64 4)) fun v33 =>
 condS v33 (
 gC T_Ty 22 c1 fun v35 =>
 cn F_ref05_ty [v35] s fun v36 s_4 =>
 gC T_string 24 c1 fun v39 =>
 bind1 (tupS [(some v36), (some v39)]) fun v => some (.ret v, s_4)) (
 bn T_int .eql v5 (.val (.int .i64 5)) fun v41 =>
 condS v41 (
 gC T_string 26 c1 fun v44 =>
 ca F_ref05_Low [v44] s fun v45 s_5 =>
 bind1 (unS .not v45) fun v46 =>
 condS v46 (
 gC T_string 26 c1 fun v49 =>
 bind1 (tupS [(some (.val (.int .i64 8))), (some v49)]) fun v => some (.ret v, s_5)) (
 bind1 (tupS [(some (.val (.int .i64 0))), (some (.val (.str [])))]) fun v => some (.ret v, s_5))) (
 gC T_bool 42 c1 fun v52 =>
 bind1 (unS .not v52) fun v53 =>
 bindB (Slot.isB v53 true) fun w =>
 bindB (Slot.isB v53 true) fun w_1 =>
 chkP w w_1 fun _ =>
 bindB (Slot.isB v53 true) fun w_2 =>
 bind1 (gd w_2 (bif (w && w_1) then (ofSlots (C.ti T_Ty) (List.take (C.ti T_Ty).size (List.drop 43 c1))) else none)) fun v57 =>
 bindB (Slot.isB v53 true) fun w_3 =>
 cg w_3 F_ref05_zeroTy [v57] s fun v58 s_6 =>
 bindB (Slot.isB v53 true) fun w_4 =>
 bind1 (gd w_4 (unS .not v58)) fun v59 =>
 bind1 (pickS v53 v59 (.val (.bool false))) fun v60 =>
 condS v60 (
 bind1 (tupS [(some (.val (.int .i64 29))), (some (.val (.str [])))]) fun v => some (.ret v, s_6)) (
 gC T_string 40 c1 fun v63 =>
 ca F_ref05_Capital [v63] s_6 fun v64 s_7 =>
 bind1 (unS .not v64) fun v65 =>
 condS v65 (
 gC T_string 40 c1 fun v68 =>
 bind1 (tupS [(some (.val (.int .i64 8))), (some v68)]) fun v => some (.ret v, s_7)) (
 bind1 (tupS [(some (.val (.int .i64 0))), (some (.val (.str [])))]) fun v => some (.ret v, s_7)))))))) := (callw_f _ _ _).trans (by kernel_rfl)
/- 85 camlet/camletref05.OfDec -/
noncomputable def ref05_OfDec_l2 : List Slot → Slot → Slot → St → Res := fun x2_2 x5_2 x8 s => lpD F_ref05_OfDec [.seqR, .seqR, .seqR, .seqR, .seqL, .seqR, .block] Go.Proofs.Tryz.f85 [(2, .var x2_2), (5, .s x5_2), (8, .s x8)] s
noncomputable def ref05_OfDec_l1 : List Slot → Slot → Slot → St → Res := fun x2_1 x5_1 x7 s => lpD F_ref05_OfDec [.seqR, .seqR, .seqR, .seqL, .seqR, .block] Go.Proofs.Tryz.f85 [(2, .var x2_1), (5, .s x5_1), (7, .s x7)] s
noncomputable def ref05_OfDec_l0 : List Slot → Slot → Slot → St → Res := fun x2 x5 x6 s => lpD F_ref05_OfDec [.seqR, .seqR, .seqL, .seqR, .block] Go.Proofs.Tryz.f85 [(2, .var x2), (5, .s x5), (6, .s x6)] s
theorem ref05_OfDec_l2_eq : ∀ x2_2 x5_2 x8 s_8, ref05_OfDec_l2 x2_2 x5_2 x8 s_8 =
 gC T_S_Con 4 x2_2 fun v64 =>
 ln T_S_Con v64 fun v65 =>
 bn T_int .lss x8 v65 fun v66 =>
 condS v66 (
 gC T_S_Con 4 x2_2 fun v70 =>
 ix T_Con v70 x8 fun v72 =>
 ld T_Con s_8 v72 fun v73 =>
 bx T_Con v73 fun c =>
 pZ T_Con c fun c9 =>
 gA T_Con c9 fun v75 =>
 gC T_int 1 c9 fun v77 =>
 bind1 (buildS (C.ti T_ref05_Node).zero [(0, (C.ti T_int).size, (.val (.int .i64 6))), (40, (C.ti T_Con).size, v75), (2, (C.ti T_int).size, v77)]) fun v78 =>
 bind1 (bslF (C.ti T_ref05_Node).size [v78]) fun v79 =>
 bind2 (appendS T_ref05_Node (C.ti T_ref05_Node) s_8 x5_2 v79) fun v80 s_9 =>
 gC T_bool 2 c9 fun v82 =>
 condS v82 (
 gC T_Ty 3 c9 fun v85 =>
 gC T_int 1 c9 fun v87 =>
 ca F_ref05_OfTy [v85, v87] s_9 fun v88 s_10 =>
 bind2 (appendS T_ref05_Node (C.ti T_ref05_Node) s_10 v80 v88) fun v89 s_11 =>
 nx x8 fun v68 =>
 ref05_OfDec_l2 x2_2 v89 v68 s_11) (
 nx x8 fun v68_1 =>
 ref05_OfDec_l2 x2_2 v80 v68_1 s_9)) (
 some (.ret x5_2, s_8)) := by intros; unfold ref05_OfDec_l2; exact (loopR_eq _ _ _ _ _ _).trans (by kernel_rfl)
theorem ref05_OfDec_l1_eq : ∀ x2_1 x5_1 x7 s_4, ref05_OfDec_l1 x2_1 x5_1 x7 s_4 =
 gC T_S_Fun 6 x2_1 fun v33 =>
 ln T_S_Fun v33 fun v34 =>
 bn T_int .lss x7 v34 fun v35 =>
 condS v35 (
 gC T_S_Fun 6 x2_1 fun v40 =>
 ix T_Fun v40 x7 fun v42 =>
 ld T_Fun s_4 v42 fun v43 =>
 gC T_S_Fun 6 x2_1 fun v45 =>
 ix T_Fun v45 x7 fun v47 =>
 bind1 (faV 1 v47) fun v48 =>
 ld T_int s_4 v48 fun v49 =>
 bind1 (buildS (C.ti T_ref05_Node).zero [(0, (C.ti T_int).size, (.val (.int .i64 5))), (26, (C.ti T_Fun).size, v43), (2, (C.ti T_int).size, v49)]) fun v50 =>
 bind1 (bslF (C.ti T_ref05_Node).size [v50]) fun v51 =>
 bind2 (appendS T_ref05_Node (C.ti T_ref05_Node) s_4 x5_1 v51) fun v52 s_5 =>
 gC T_S_Fun 6 x2_1 fun v55 =>
 ix T_Fun v55 x7 fun v57 =>
 bind1 (faV 2 v57) fun v58 =>
 ld T_Case s_5 v58 fun v59 =>
 ca F_ref05_OfCase [v59] s_5 fun v60 s_6 =>
 bind2 (appendS T_ref05_Node (C.ti T_ref05_Node) s_6 v52 v60) fun v61 s_7 =>
 nx x7 fun v37 =>
 ref05_OfDec_l1 x2_1 v61 v37 s_7) (
 ref05_OfDec_l2 x2_1 x5_1 (.val (.int .i64 0)) s_4) := by intros; unfold ref05_OfDec_l1; exact (loopR_eq _ _ _ _ _ _).trans (by kernel_rfl)
theorem ref05_OfDec_l0_eq : ∀ x2 x5 x6 s_1, ref05_OfDec_l0 x2 x5 x6 s_1 =
 gC T_S_Case 5 x2 fun v18 =>
 ln T_S_Case v18 fun v19 =>
 bn T_int .lss x6 v19 fun v20 =>
 condS v20 (
 gC T_S_Case 5 x2 fun v25 =>
 ix T_Case v25 x6 fun v27 =>
 ld T_Case s_1 v27 fun v28 =>
 ca F_ref05_OfCase [v28] s_1 fun v29 s_2 =>
 bind2 (appendS T_ref05_Node (C.ti T_ref05_Node) s_2 x5 v29) fun v30 s_3 =>
 nx x6 fun v22 =>
 ref05_OfDec_l0 x2 v30 v22 s_3) (
 ref05_OfDec_l1 x2 x5 (.val (.int .i64 0)) s_1) := by intros; unfold ref05_OfDec_l0; exact (loopR_eq _ _ _ _ _ _).trans (by kernel_rfl)
theorem ref05_OfDec_eq (a0 : AV) (a1 : AV) (s : St) : cw (.f F_ref05_OfDec) [a0, a1] s =
 bx T_Dec (.val a0) fun c2 =>
 gA T_Dec c2 fun v10 =>
 gC T_int 1 c2 fun v12 =>
 bind1 (buildS (C.ti T_ref05_Node).zero [(0, (C.ti T_int).size, (.val (.int .i64 1))), (3, (C.ti T_Dec).size, v10), (2, (C.ti T_int).size, v12), (1, (C.ti T_bool).size, (.val a1))]) fun v14 =>
 bind1 (bslF (C.ti T_ref05_Node).size [v14]) fun v15 =>
 ref05_OfDec_l0 c2 v15 (.val (.int .i64 0)) s := (callw_f _ _ _).trans (by kernel_rfl)
/- 86 camlet/camletref05.deepPat -/
noncomputable def ref05_deepPat_l0 : List Slot → Slot → Slot → St → Res := fun x1 x3 x4 s => lpD F_ref05_deepPat [.seqR, .seqR, .seqL, .seqR, .block] Go.Proofs.Tryz.f86 [(1, .var x1), (3, .s x3), (4, .s x4)] s
theorem ref05_deepPat_l0_eq : ∀ x1 x3 x4 s_1, ref05_deepPat_l0 x1 x3 x4 s_1 =
 gC T_S_Pat 4 x1 fun v7 =>
 ln T_S_Pat v7 fun v8 =>
 bn T_int .lss x4 v8 fun v9 =>
 condS v9 (
 gC T_S_Pat 4 x1 fun v14 =>
 ix T_Pat v14 x4 fun v16 =>
 ld T_Pat s_1 v16 fun v17 =>
 ca F_ref05_deepPat [v17] s_1 fun v18 s_2 =>
 bind1 (max2 x3 v18) fun v19 =>
 nx x4 fun v11 =>
 ref05_deepPat_l0 x1 v19 v11 s_2) (
 nx x3 fun v21 =>
 some (.ret v21, s_1)) := by intros; unfold ref05_deepPat_l0; exact (loopR_eq _ _ _ _ _ _).trans (by kernel_rfl)
theorem ref05_deepPat_eq (a0 : AV) (s : St) : cw (.f F_ref05_deepPat) [a0] s =
 bx T_Pat (.val a0) fun c1 =>
 ref05_deepPat_l0 c1 (.val (.int .i64 0)) (.val (.int .i64 0)) s := (callw_f _ _ _).trans (by kernel_rfl)
/- 87 camlet/camletref05.deepTy -/
noncomputable def ref05_deepTy_l0 : List Slot → Slot → Slot → St → Res := fun x1 x3 x4 s => lpD F_ref05_deepTy [.seqR, .seqR, .seqL, .seqR, .block] Go.Proofs.Tryz.f87 [(1, .var x1), (3, .s x3), (4, .s x4)] s
theorem ref05_deepTy_l0_eq : ∀ x1 x3 x4 s_1, ref05_deepTy_l0 x1 x3 x4 s_1 =
 gC T_S_Ty 3 x1 fun v7 =>
 ln T_S_Ty v7 fun v8 =>
 bn T_int .lss x4 v8 fun v9 =>
 condS v9 (
 gC T_S_Ty 3 x1 fun v14 =>
 ix T_Ty v14 x4 fun v16 =>
 ld T_Ty s_1 v16 fun v17 =>
 ca F_ref05_deepTy [v17] s_1 fun v18 s_2 =>
 bind1 (max2 x3 v18) fun v19 =>
 nx x4 fun v11 =>
 ref05_deepTy_l0 x1 v19 v11 s_2) (
 nx x3 fun v21 =>
 some (.ret v21, s_1)) := by intros; unfold ref05_deepTy_l0; exact (loopR_eq _ _ _ _ _ _).trans (by kernel_rfl)
theorem ref05_deepTy_eq (a0 : AV) (s : St) : cw (.f F_ref05_deepTy) [a0] s =
 bx T_Ty (.val a0) fun c1 =>
 ref05_deepTy_l0 c1 (.val (.int .i64 0)) (.val (.int .i64 0)) s := (callw_f _ _ _).trans (by kernel_rfl)
/- 88 camlet/tree.count -/
noncomputable def tree_count_r0 (x3 : Slot) (x5 : Slot) : Am.Obj := .loop .ready none F_tree_count [(3, .s x3), (5, .s x5)] [8] (rngAsg (codeAt [.seqR, .seqR, .seqL, .seqR, .block] (body Go.Proofs.Tryz.f88))) (rngBody (codeAt [.seqR, .seqR, .seqL, .seqR, .block] (body Go.Proofs.Tryz.f88)))
theorem tree_count_r0_eq (x3 : Slot) (x5 : Slot) (y8 : AV) (loc : Nat) (s_2 : St) : yldR C (tree_count_r0 x3 x5) loc [y8] s_2 = noPan (
 bx T_thing (.val y8) fun c_1 =>
 pZ T_thing c_1 fun c6 =>
 bindS (beginL loc s_2) fun s_3 =>
 gA T_thing c6 fun v9 =>
 ca F_tree_thing_node [v9] s_3 fun v10 s_4 =>
 condS v10 (
 ld T_int s_4 x5 fun v11 =>
 nx v11 fun v12 =>
 bx T_int v12 fun c_2 =>
 bindS (stV s_4 x5 c_2) fun s_5 =>
 ld T_int s_5 x5 fun v13 =>
 ld T_int s_5 x3 fun v14 =>
 bn T_int .geq v13 v14 fun v15 =>
 condS v15 (
 bindS (setLoop loc .done (some (.exit 0)) s_5) fun s_6 =>
 some (.ret (.val (.bool false)), s_6)) (
 bindS (setLoop loc .ready none s_5) fun s_7 =>
 some (.ret (.val (.bool true)), s_7))) (
 ld T_int s_4 x5 fun v13_1 =>
 ld T_int s_4 x3 fun v14_1 =>
 bn T_int .geq v13_1 v14_1 fun v15_1 =>
 condS v15_1 (
 bindS (setLoop loc .done (some (.exit 0)) s_4) fun s_8 =>
 some (.ret (.val (.bool false)), s_8)) (
 bindS (setLoop loc .ready none s_4) fun s_9 =>
 some (.ret (.val (.bool true)), s_9)))) := by kernel_rfl
theorem tree_count_eq (a0 : AV) (a1 : AV) (s : St) : cw (.f F_tree_count) [a0, a1] s =
 bx T_int (.val a1) fun c3 =>
 bindA (avs c3) fun l3 =>
 bx T_int (.val (.int .i64 0)) fun c =>
 bindS (stV (St.addLoc s (.var (List.map .val (C.ti T_int).zero))) (.val (.vp s.locs.length 0)) c) fun s_1 =>
 rangeC C cw (.val a0) s_1.locs.length (St.addLoc s_1 (tree_count_r0 (.val (.cp l3)) (.val (.vp s.locs.length 0)))) fun s_10 =>
 endX s_1.locs.length s_10 (fun s_11 =>
 ld T_int s_11 (.val (.vp s.locs.length 0)) fun v16 =>
 some (.ret v16, s_11)) (fun s_12 =>
 some (.ret (.val (.int .i64 0)), s_12)) (fun j s_13 =>
 bif Nat.beq j 0 then (
 ld T_int s_13 (.val (.vp s.locs.length 0)) fun v16_1 =>
 some (.ret v16_1, s_13)) else (
(none : Res))) := (callw_f _ _ _).trans (by kernel_rfl)
/- 89 (camlet/tree.thing).wrong -/
noncomputable def tree_thing_wrong_j0 : List Slot → List Slot → Slot → Slot → St → Res := fun x1 x2 x3 x4 s => pw (run C false F_tree_thing_wrong (codeAt [.seqR, .seqR, .seqR, .seqR] (body Go.Proofs.Tryz.f89)) [(1, .var x1), (2, .var x2), (3, .s x3), (4, .s x4)] s (ctxR C false F_tree_thing_wrong [.seqR, .seqR, .seqR, .seqR] (body Go.Proofs.Tryz.f89) (outK C (Go.Proofs.Tryz.f89).results.toList)))
theorem tree_thing_wrong_j0_eq : ∀ x1 x2 x3 x4 s_2, tree_thing_wrong_j0 x1 x2 x3 x4 s_2 =
 bn T_Errno .eql x3 (.val (.int .i64 0)) fun v82 =>
 condS v82 (
 bind1 (buildS (C.ti T_Bad).zero []) fun v83 =>
 bx T_Bad v83 fun c =>
 bindL (putAt x2 0 c) fun c2 =>
 gA T_Bad c2 fun v => some (.ret v, s_2)) (
 bn T_Errno .neq x3 (.val (.int .i64 8)) fun v86 =>
 condS v86 (
 gC T_int 7 x1 fun v89 =>
 bind1 (buildS (C.ti T_Bad).zero [(0, (C.ti T_Errno).size, x3), (1, (C.ti T_int).size, v89), (2, (C.ti T_string).size, (.val (.str [])))]) fun v91 =>
 bx T_Bad v91 fun c_1 =>
 bindL (putAt x2 0 c_1) fun c2_1 =>
 gA T_Bad c2_1 fun v => some (.ret v, s_2)) (
 gC T_int 7 x1 fun v89_1 =>
 bind1 (buildS (C.ti T_Bad).zero [(0, (C.ti T_Errno).size, x3), (1, (C.ti T_int).size, v89_1), (2, (C.ti T_string).size, x4)]) fun v91_1 =>
 bx T_Bad v91_1 fun c_2 =>
 bindL (putAt x2 0 c_2) fun c2_2 =>
 gA T_Bad c2_2 fun v => some (.ret v, s_2))) := by intros; unfold tree_thing_wrong_j0; exact (pw_eq _).trans (by kernel_rfl)
theorem tree_thing_wrong_eq (a0 : AV) (s : St) : cw (.f F_tree_thing_wrong) [a0] s =
 bx T_thing (.val a0) fun c1 =>
 gC T_P_Dec 0 c1 fun v17 =>
 bn T_P_Dec .neq v17 (.val (.nilp)) fun v18 =>
 condS v18 (
 gA T_thing c1 fun v19 =>
 cn F_tree_thing_wrongDec [v19] s fun v20 s_1 =>
 gC T_P_Dec 0 c1 fun v22 =>
 bind1 (nilCheckV v22) fun v23 =>
 bind1 (faV 2 v23) fun v24 =>
 bind1 (ldV (C.ti T_string) true s_1 v24) fun v25 =>
 tree_thing_wrong_j0 c1 ((List.map .val (C.ti T_Bad).zero)) v20 v25 s_1) (
 gC T_P_Fun 2 c1 fun v28 =>
 bn T_P_Fun .neq v28 (.val (.nilp)) fun v29 =>
 condS v29 (
 gC T_P_Fun 2 c1 fun v31 =>
 bind1 (nilCheckV v31) fun v32 =>
 bind1 (faV 0 v32) fun v33 =>
 ld T_string s v33 fun v34 =>
 ca F_tree_low [v34] s fun v36 s_3 =>
 bind1 (unS .not v36) fun v37 =>
 condS v37 (
 tree_thing_wrong_j0 c1 ((List.map .val (C.ti T_Bad).zero)) (.val (.int .i64 8)) v34 s_3) (
 tree_thing_wrong_j0 c1 ((List.map .val (C.ti T_Bad).zero)) (.val (.int .i64 0)) v34 s_3)) (
 gC T_P_Con 3 c1 fun v40 =>
 bn T_P_Con .neq v40 (.val (.nilp)) fun v41 =>
 condS v41 (
 gC T_P_Con 3 c1 fun v43 =>
 bind1 (nilCheckV v43) fun v44 =>
 bind1 (ldV (C.ti T_Con) true s v44) fun v45 =>
 cn F_tree_wrongCon [v45] s fun v46 s_4 =>
 gC T_P_Con 3 c1 fun v48 =>
 bind1 (nilCheckV v48) fun v49 =>
 bind1 (faV 0 v49) fun v50 =>
 bind1 (ldV (C.ti T_string) true s_4 v50) fun v51 =>
 tree_thing_wrong_j0 c1 ((List.map .val (C.ti T_Bad).zero)) v46 v51 s_4) (
 gC T_P_Exp 4 c1 fun v54 =>
 bn T_P_Exp .neq v54 (.val (.nilp)) fun v55 =>
 condS v55 (
 gC T_P_Exp 4 c1 fun v57 =>
 bind1 (nilCheckV v57) fun v58 =>
 bind1 (ldV (C.ti T_Exp) true s v58) fun v59 =>
 cn F_tree_wrongExp [v59] s fun v60 s_5 =>
 gC T_P_Exp 4 c1 fun v62 =>
 bind1 (nilCheckV v62) fun v63 =>
 bind1 (faV 2 v63) fun v64 =>
 bind1 (ldV (C.ti T_string) true s_5 v64) fun v65 =>
 tree_thing_wrong_j0 c1 ((List.map .val (C.ti T_Bad).zero)) v60 v65 s_5) (
 gC T_P_Pat 5 c1 fun v68 =>
 bn T_P_Pat .neq v68 (.val (.nilp)) fun v69 =>
 condS v69 (
 gC T_P_Pat 5 c1 fun v71 =>
 bind1 (nilCheckV v71) fun v72 =>
 bind1 (ldV (C.ti T_Pat) true s v72) fun v73 =>
 cn F_tree_wrongPat [v73] s fun v74 s_6 =>
 gC T_P_Pat 5 c1 fun v76 =>
 bind1 (nilCheckV v76) fun v77 =>
 bind1 (faV 2 v77) fun v78 =>
 bind1 (ldV (C.ti T_string) true s_6 v78) fun v79 =>
 tree_thing_wrong_j0 c1 ((List.map .val (C.ti T_Bad).zero)) v74 v79 s_6) (
 gC T_P_Ty 6 c1 fun v6 =>
 bind1 (nilCheckV v6) fun v7 =>
 bind1 (ldV (C.ti T_Ty) true s v7) fun v8 =>
 cn F_tree_wrongTy [v8] s fun v9 s_7 =>
 gC T_P_Ty 6 c1 fun v11 =>
 bind1 (nilCheckV v11) fun v12 =>
 bind1 (faV 2 v12) fun v13 =>
 bind1 (ldV (C.ti T_string) true s_7 v13) fun v14 =>
 tree_thing_wrong_j0 c1 ((List.map .val (C.ti T_Bad).zero)) v9 v14 s_7))))) := (callw_f _ _ _).trans (by kernel_rfl)
/- 90 camlet/tree.program$1 -/
theorem tree_program_1_eq (a0 : AV) (a1 : AV) (s : St) : cw (.f F_tree_program_1) [a0, a1] s =
 bind1 (buildS (C.ti T_walker).zero [(0, (C.ti T_x_func_tree_thing_bool).size, (.val a0))]) fun v4 =>
 ld T_S_Dec s (.val a1) fun v5 =>
 ca F_tree_walker_decs [v4, v5, (.val (.bool false))] s fun v6 s_1 =>
 bind1 (tupS []) fun v => some (.ret v, s_1) := (callw_f _ _ _).trans (by kernel_rfl)
/- 91 (camlet/tree.walker).decs -/
noncomputable def tree_walker_decs_l2 : Slot → Slot → List Slot → Slot → Slot → Slot → Slot → Slot → St → Res := fun x1_2 x2_2 x3_2 x8_1 x14_2 x15_2 x80 x81 s => lpD F_tree_walker_decs [.seqR, .seqL, .seqR, .block, .loop, .seqR, .seqR, .seqL, .block, .seqR, .seqR, .seqR, .seqR, .seqR, .block] Go.Proofs.Tryz.f91 [(1, .s x1_2), (2, .s x2_2), (3, .var x3_2), (8, .s x8_1), (14, .s x14_2), (15, .s x15_2), (80, .s x80), (81, .s x81)] s
noncomputable def tree_walker_decs_l1 : Slot → Slot → List Slot → Slot → Slot → Slot → Slot → Slot → St → Res := fun x1_1 x2_1 x3_1 x8 x14_1 x15_1 x45 x46 s => lpD F_tree_walker_decs [.seqR, .seqL, .seqR, .block, .loop, .seqR, .seqR, .seqL, .block, .seqR, .seqR, .seqR, .seqL, .seqR, .block] Go.Proofs.Tryz.f91 [(1, .s x1_1), (2, .s x2_1), (3, .var x3_1), (8, .s x8), (14, .s x14_1), (15, .s x15_1), (45, .s x45), (46, .s x46)] s
noncomputable def tree_walker_decs_l0 : Slot → Slot → List Slot → Slot → Slot → St → Res := fun x1 x2 x3 x14 x15 s => lpD F_tree_walker_decs [.seqR, .seqL, .seqR, .block] Go.Proofs.Tryz.f91 [(1, .s x1), (2, .s x2), (3, .var x3), (14, .s x14), (15, .s x15)] s
theorem tree_walker_decs_l2_eq : ∀ x1_2 x2_2 x3_2 x8_1 x14_2 x15_2 x80 x81 s_7, tree_walker_decs_l2 x1_2 x2_2 x3_2 x8_1 x14_2 x15_2 x80 x81 s_7 =
 bn T_int .lss x81 x80 fun v82 =>
 condS v82 (
 bind1 (nilCheckV x8_1) fun v85 =>
 bind1 (faV 4 v85) fun v86 =>
 ld T_S_Con s_7 v86 fun v87 =>
 ix T_Con v87 x81 fun v89 =>
 gC T_x_func_tree_thing_bool 0 x3_2 fun v91 =>
 bind1 (nilCheckV v89) fun v94 =>
 bind1 (faV 1 v94) fun v95 =>
 ld T_int s_7 v95 fun v96 =>
 bind1 (buildS (C.ti T_thing).zero [(3, (C.ti T_P_Con).size, v89), (7, (C.ti T_int).size, v96)]) fun v97 =>
 back (noPan (cal cw true (tgtV v91 [v97]) s_7)) fun v98 s_8 =>
 bind1 (unS .not v98) fun v99 =>
 bindB (Slot.isB v99 false) fun w_15 =>
 bindB (Slot.isB v99 false) fun w_16 =>
 bind1 (gd w_16 (nilCheckV (gdV w_15 v89))) fun v102 =>
 bindB (Slot.isB v99 false) fun w_17 =>
 bind1 (gd w_17 (faV 2 v102)) fun v103 =>
 bindB (Slot.isB v99 false) fun w_18 =>
 bind1 (gd w_18 (ldV (C.ti T_bool) false s_8 v103)) fun v104 =>
 bindB (Slot.isB v99 false) fun w_19 =>
 bindB (Slot.isB (gdV w_19 v104) true) fun w_20 =>
 bind1 (gd w_20 (ofSlots (C.ti T_walker) (List.take (C.ti T_walker).size x3_2))) fun v106 =>
 bindB (Slot.isB (gdV w_19 v104) true) fun w_21 =>
 bindB (Slot.isB (gdV w_19 v104) true) fun w_22 =>
 bind1 (gd w_22 (nilCheckV (gdV w_21 v89))) fun v108 =>
 bindB (Slot.isB (gdV w_19 v104) true) fun w_23 =>
 bind1 (gd w_23 (faV 3 v108)) fun v109 =>
 bindB (Slot.isB (gdV w_19 v104) true) fun w_24 =>
 bindB (Slot.isB (gdV w_19 v104) true) fun w_25 =>
 bind1 (gd w_25 (nilCheckV (gdV w_24 v89))) fun v111 =>
 bindB (Slot.isB (gdV w_19 v104) true) fun w_26 =>
 bind1 (gd w_26 (faV 1 v111)) fun v112 =>
 bindB (Slot.isB (gdV w_19 v104) true) fun w_27 =>
 bind1 (gd w_27 (ldV (C.ti T_int) false s_8 v112)) fun v113 =>
 bindB (Slot.isB (gdV w_19 v104) true) fun w_28 =>
 back (noPan (cal cw w_28 (tgtV (.val (.fn F_tree_walker_types [])) [v106, v109, v113]) s_8)) fun v114 s_9 =>
 bindB (Slot.isB (gdV w_19 v104) true) fun w_29 =>
 bind1 (gd w_29 (unS .not v114)) fun v115 =>
 bindB (Slot.isB v99 false) fun w_30 =>
 bind1 (gd w_30 (pickS (gdV w_19 v104) v115 (.val (.bool false)))) fun v116 =>
 bind1 (pickS v99 (.val (.bool true)) v116) fun v117 =>
 condS v117 (
 some (.ret (.val (.bool false)), s_9)) (
 nx x81 fun v118 =>
 tree_walker_decs_l2 x1_2 x2_2 x3_2 x8_1 x14_2 x15_2 x80 v118 s_9)) (
 nx x15_2 fun v119 =>
 tree_walker_decs_l0 x1_2 x2_2 x3_2 x14_2 v119 s_7) := by intros; unfold tree_walker_decs_l2; exact (loopR_eq _ _ _ _ _ _).trans (by kernel_rfl)
theorem tree_walker_decs_l1_eq : ∀ x1_1 x2_1 x3_1 x8 x14_1 x15_1 x45 x46 s_4, tree_walker_decs_l1 x1_1 x2_1 x3_1 x8 x14_1 x15_1 x45 x46 s_4 =
 bn T_int .lss x46 x45 fun v47 =>
 condS v47 (
 bind1 (nilCheckV x8) fun v50 =>
 bind1 (faV 6 v50) fun v51 =>
 ld T_S_Fun s_4 v51 fun v52 =>
 ix T_Fun v52 x46 fun v54 =>
 gC T_x_func_tree_thing_bool 0 x3_1 fun v56 =>
 bind1 (nilCheckV v54) fun v59 =>
 bind1 (faV 1 v59) fun v60 =>
 ld T_int s_4 v60 fun v61 =>
 bind1 (buildS (C.ti T_thing).zero [(2, (C.ti T_P_Fun).size, v54), (7, (C.ti T_int).size, v61)]) fun v62 =>
 back (noPan (cal cw true (tgtV v56 [v62]) s_4)) fun v63 s_5 =>
 bind1 (unS .not v63) fun v64 =>
 bindB (Slot.isB v64 false) fun w_7 =>
 bind1 (gd w_7 (ofSlots (C.ti T_walker) (List.take (C.ti T_walker).size x3_1))) fun v66 =>
 bindB (Slot.isB v64 false) fun w_8 =>
 bindB (Slot.isB v64 false) fun w_9 =>
 bind1 (gd w_9 (nilCheckV (gdV w_8 v54))) fun v68 =>
 bindB (Slot.isB v64 false) fun w_10 =>
 bind1 (gd w_10 (faV 2 v68)) fun v69 =>
 bindB (Slot.isB v64 false) fun w_11 =>
 bind1 (gd w_11 (ldV (C.ti T_Case) false s_5 v69)) fun v70 =>
 bindB (Slot.isB v64 false) fun w_12 =>
 bind1 (gd w_12 (bslF (C.ti T_Case).size [v70])) fun v71 =>
 bindB (Slot.isB v64 false) fun w_13 =>
 back (noPan (cal cw w_13 (tgtV (.val (.fn F_tree_walker_cases [])) [v66, v71]) s_5)) fun v72 s_6 =>
 bindB (Slot.isB v64 false) fun w_14 =>
 bind1 (gd w_14 (unS .not v72)) fun v73 =>
 bind1 (pickS v64 (.val (.bool true)) v73) fun v74 =>
 condS v74 (
 some (.ret (.val (.bool false)), s_6)) (
 nx x46 fun v75 =>
 tree_walker_decs_l1 x1_1 x2_1 x3_1 x8 x14_1 x15_1 x45 v75 s_6)) (
 bind1 (nilCheckV x8) fun v77 =>
 bind1 (faV 4 v77) fun v78 =>
 ld T_S_Con s_4 v78 fun v79 =>
 ln T_S_Con v79 fun v80 =>
 tree_walker_decs_l2 x1_1 x2_1 x3_1 x8 x14_1 x15_1 v80 (.val (.int .i64 0)) s_4) := by intros; unfold tree_walker_decs_l1; exact (loopR_eq _ _ _ _ _ _).trans (by kernel_rfl)
theorem tree_walker_decs_l0_eq : ∀ x1 x2 x3 x14 x15 s_1, tree_walker_decs_l0 x1 x2 x3 x14 x15 s_1 =
 bn T_int .lss x15 x14 fun v16 =>
 condS v16 (
 ix T_Dec x1 x15 fun v20 =>
 gC T_x_func_tree_thing_bool 0 x3 fun v22 =>
 bind1 (nilCheckV v20) fun v26 =>
 bind1 (faV 1 v26) fun v27 =>
 ld T_int s_1 v27 fun v28 =>
 bind1 (buildS (C.ti T_thing).zero [(0, (C.ti T_P_Dec).size, v20), (1, (C.ti T_bool).size, x2), (7, (C.ti T_int).size, v28)]) fun v29 =>
 back (noPan (cal cw true (tgtV v22 [v29]) s_1)) fun v30 s_2 =>
 bind1 (unS .not v30) fun v31 =>
 bindB (Slot.isB v31 false) fun w =>
 bind1 (gd w (ofSlots (C.ti T_walker) (List.take (C.ti T_walker).size x3))) fun v33 =>
 bindB (Slot.isB v31 false) fun w_1 =>
 bindB (Slot.isB v31 false) fun w_2 =>
 bind1 (gd w_2 (nilCheckV (gdV w_1 v20))) fun v35 =>
 bindB (Slot.isB v31 false) fun w_3 =>
 bind1 (gd w_3 (faV 5 v35)) fun v36 =>
 bindB (Slot.isB v31 false) fun w_4 =>
 bind1 (gd w_4 (ldV (C.ti T_S_Case) false s_2 v36)) fun v37 =>
 bindB (Slot.isB v31 false) fun w_5 =>
 back (noPan (cal cw w_5 (tgtV (.val (.fn F_tree_walker_cases [])) [v33, v37]) s_2)) fun v38 s_3 =>
 bindB (Slot.isB v31 false) fun w_6 =>
 bind1 (gd w_6 (unS .not v38)) fun v39 =>
 bind1 (pickS v31 (.val (.bool true)) v39) fun v40 =>
 condS v40 (
 some (.ret (.val (.bool false)), s_3)) (
 bind1 (nilCheckV v20) fun v42 =>
 bind1 (faV 6 v42) fun v43 =>
 ld T_S_Fun s_3 v43 fun v44 =>
 ln T_S_Fun v44 fun v45 =>
 tree_walker_decs_l1 x1 x2 x3 v20 x14 x15 v45 (.val (.int .i64 0)) s_3)) (
 some (.ret (.val (.bool true)), s_1)) := by intros; unfold tree_walker_decs_l0; exact (loopR_eq _ _ _ _ _ _).trans (by kernel_rfl)
theorem tree_walker_decs_eq (a0 : AV) (a1 : AV) (a2 : AV) (s : St) : cw (.f F_tree_walker_decs) [a0, a1, a2] s =
 bx T_walker (.val a0) fun c3 =>
 ln T_S_Dec (.val a1) fun v14 =>
 tree_walker_decs_l0 (.val a1) (.val a2) c3 v14 (.val (.int .i64 0)) s := (callw_f _ _ _).trans (by kernel_rfl)
/- 92 camlet/tree.deepCases -/
noncomputable def tree_deepCases_l0 : Slot → Slot → Slot → Slot → St → Res := fun x3 x6 x7 x8 s => lpD F_tree_deepCases [.seqR, .seqR, .seqL, .seqR, .block] Go.Proofs.Tryz.f92 [(3, .s x3), (6, .s x6), (7, .s x7), (8, .s x8)] s
theorem tree_deepCases_l0_eq : ∀ x3 x6 x7 x8 s_1, tree_deepCases_l0 x3 x6 x7 x8 s_1 =
 bn T_int .lss x8 x7 fun v9 =>
 condS v9 (
 ix T_Case x6 x8 fun v10 =>
 ld T_Case s_1 v10 fun v11 =>
 bx T_Case v11 fun c =>
 pZ T_Case c fun c5 =>
 gC T_Pat 0 c5 fun v14 =>
 cn F_tree_deepPat [v14] s_1 fun v15 s_2 =>
 gC T_Exp 5 c5 fun v17 =>
 cn F_tree_deepExp [v17] s_2 fun v18 s_3 =>
 bind1 (max3 x3 v15 v18) fun v19 =>
 nx x8 fun v20 =>
 tree_deepCases_l0 v19 x6 x7 v20 s_3) (
 some (.ret x3, s_1)) := by intros; unfold tree_deepCases_l0; exact (loopR_eq _ _ _ _ _ _).trans (by kernel_rfl)
theorem tree_deepCases_eq (a0 : AV) (s : St) : cw (.f F_tree_deepCases) [a0] s =
 ln T_S_Case (.val a0) fun v7 =>
 tree_deepCases_l0 (.val (.int .i64 0)) (.val a0) v7 (.val (.int .i64 0)) s := (callw_f _ _ _).trans (by kernel_rfl)
/- 93 camlet/tree.deepTy -/
noncomputable def tree_deepTy_l0 : Slot → Slot → Slot → Slot → St → Res := fun x3 x7 x8 x9 s => lpD F_tree_deepTy [.seqR, .seqR, .seqL, .seqR, .block] Go.Proofs.Tryz.f93 [(3, .s x3), (7, .s x7), (8, .s x8), (9, .s x9)] s
theorem tree_deepTy_l0_eq : ∀ x3 x7 x8 x9 s_1, tree_deepTy_l0 x3 x7 x8 x9 s_1 =
 bn T_int .lss x9 x8 fun v10 =>
 condS v10 (
 ix T_Ty x7 x9 fun v11 =>
 ld T_Ty s_1 v11 fun v12 =>
 bx T_Ty v12 fun c =>
 pZ T_Ty c fun c5 =>
 gA T_Ty c5 fun v14 =>
 ca F_tree_deepTy [v14] s_1 fun v15 s_2 =>
 bind1 (max2 x3 v15) fun v16 =>
 nx x9 fun v17 =>
 tree_deepTy_l0 v16 x7 x8 v17 s_2) (
 nx x3 fun v19 =>
 some (.ret v19, s_1)) := by intros; unfold tree_deepTy_l0; exact (loopR_eq _ _ _ _ _ _).trans (by kernel_rfl)
theorem tree_deepTy_eq (a0 : AV) (s : St) : cw (.f F_tree_deepTy) [a0] s =
 bx T_Ty (.val a0) fun c1 =>
 gC T_S_Ty 3 c1 fun v7 =>
 ln T_S_Ty v7 fun v8 =>
 tree_deepTy_l0 (.val (.int .i64 0)) v7 v8 (.val (.int .i64 0)) s := (callw_f _ _ _).trans (by kernel_rfl)
/- 94 camlet/ty.Of -/
noncomputable def ty_Of_l0 : List Slot → List Slot → Slot → Slot → Slot → St → Res := fun x4 x5 x10 x11 x12 s => lpD F_ty_Of [.seqR, .seqR, .seqL, .seqR, .block] Go.Proofs.Tryz.f94 [(4, .var x4), (5, .var x5), (10, .s x10), (11, .s x11), (12, .s x12)] s
theorem ty_Of_l0_eq : ∀ x4 x5 x10 x11 x12 s_1, ty_Of_l0 x4 x5 x10 x11 x12 s_1 =
 bn T_int .lss x12 x11 fun v13 =>
 condS v13 (
 ix T_Ty x10 x12 fun v14 =>
 ld T_Ty s_1 v14 fun v15 =>
 bx T_Ty v15 fun c_1 =>
 pZ T_Ty c_1 fun c7 =>
 gC T_S_Ty 3 x5 fun v17 =>
 gA T_Ty c7 fun v18 =>
 cn F_ty_own [v18] s_1 fun v19 s_2 =>
 bind1 (bslF (C.ti T_Ty).size [v19]) fun v20 =>
 bind2 (appendS T_Ty (C.ti T_Ty) s_2 v17 v20) fun v21 s_3 =>
 bx T_S_Ty v21 fun c_2 =>
 bindL (putAt x5 3 c_2) fun c5_1 =>
 nx x12 fun v23 =>
 ty_Of_l0 x4 c5_1 x10 x11 v23 s_3) (
 gA T_Ty x5 fun v24 =>
 bx T_Ty v24 fun c_3 =>
 bindL (putAt x4 0 c_3) fun c4 =>
 gA T_Ty c4 fun v => some (.ret v, s_1)) := by intros; unfold ty_Of_l0; exact (loopR_eq _ _ _ _ _ _).trans (by kernel_rfl)
theorem ty_Of_eq (a0 : AV) (a1 : AV) (s : St) : cw (.f F_ty_Of) [a0, a1] s =
 bind1 (buildS (C.ti T_Ty).zero [(0, (C.ti T_TyKind).size, (.val (.int .i64 2))), (2, (C.ti T_string).size, (.val a0))]) fun v9 =>
 bx T_Ty v9 fun c =>
 pZ T_Ty c fun c5 =>
 ln T_S_Ty (.val a1) fun v11 =>
 ty_Of_l0 ((List.map .val (C.ti T_Ty).zero)) c5 (.val a1) v11 (.val (.int .i64 0)) s := (callw_f _ _ _).trans (by kernel_rfl)
/- 95 slices.Clone[[]camlet/api.Ty,camlet/api.Ty] -/
theorem slices_Clone_STy_Ty_eq (a0 : AV) (s : St) : cw (.f F_slices_Clone_STy_Ty) [a0] s =
 bn T_S_Ty .eql (.val a0) (.val (.nils)) fun v4 =>
 condS v4 (
 some (.ret (.val (.nils)), s)) (
 bind1 (bslF (C.ti T_Ty).size []) fun v5 =>
 bind2 (appendV T_Ty (C.ti T_Ty) s v5 (.val a0)) fun v7 s_1 =>
 some (.ret v7, s_1)) := (callw_f _ _ _).trans (by kernel_rfl)
/- 96 (*camlet/scope.walk).bind$1 -/
noncomputable def scope_walk_bind_1_l0 : Slot → Slot → Slot → Slot → St → Res := fun x1 x4 x5 x6 s => lpD F_scope_walk_bind_1 [.seqR, .block] Go.Proofs.Tryz.f96 [(1, .s x1), (4, .s x4), (5, .s x5), (6, .s x6)] s
theorem scope_walk_bind_1_l0_eq : ∀ x1 x4 x5 x6 s_1, scope_walk_bind_1_l0 x1 x4 x5 x6 s_1 =
 bn T_int .lss x6 x5 fun v7 =>
 condS v7 (
 ix T_string x4 x6 fun v8 =>
 ld T_string s_1 v8 fun v9 =>
 ld T_P_walk s_1 x1 fun v10 =>
 bind1 (nilCheckV v10) fun v11 =>
 bind1 (faV 0 v11) fun v12 =>
 ld T_x_map_string_int s_1 v12 fun v13 =>
 bind1 (lookupS (C.ti T_string) (C.ti T_int) s_1 v13 v9 false) fun v15 =>
 bn T_int .sub v15 (.val (.int .i64 1)) fun v16 =>
 bind2 (updateS (C.ti T_string) (C.ti T_int) s_1 v13 v9 v16) fun _ s_2 =>
 nx x6 fun v17 =>
 scope_walk_bind_1_l0 x1 x4 x5 v17 s_2) (
 bind1 (tupS []) fun v => some (.ret v, s_1)) := by intros; unfold scope_walk_bind_1_l0; exact (loopR_eq _ _ _ _ _ _).trans (by kernel_rfl)
theorem scope_walk_bind_1_eq (a0 : AV) (a1 : AV) (s : St) : cw (.f F_scope_walk_bind_1) [a0, a1] s =
 ld T_S_string s (.val a0) fun v4 =>
 ln T_S_string v4 fun v5 =>
 scope_walk_bind_1_l0 (.val a1) v4 v5 (.val (.int .i64 0)) s := (callw_f _ _ _).trans (by kernel_rfl)
/- 97 camlet/decl.wrong$1 -/
noncomputable def decl_wrong_1_l0 : Slot → Slot → Slot → Slot → St → Res := fun x3 x45 x46 x47 s => lpD F_decl_wrong_1 [.seqR, .seqR, .seqR, .seqR, .seqL, .seqR, .block] Go.Proofs.Tryz.f97 [(3, .s x3), (45, .s x45), (46, .s x46), (47, .s x47)] s
theorem decl_wrong_1_l0_eq : ∀ x3 x45 x46 x47 s_1, decl_wrong_1_l0 x3 x45 x46 x47 s_1 =
 bn T_int .lss x47 x46 fun v48 =>
 condS v48 (
 ix T_Ty x45 x47 fun v49 =>
 ld T_Ty s_1 v49 fun v50 =>
 bx T_Ty v50 fun c =>
 pZ T_Ty c fun c10 =>
 ld T_x_func_api_Ty_api_Errno_string s_1 x3 fun v52 =>
 gA T_Ty c10 fun v53 =>
 back (cal cw true (tgtV v52 [v53]) s_1) fun v54 s_2 =>
 bind1 (extractS v54 0) fun v55 =>
 bind1 (extractS v54 1) fun v56 =>
 bn T_Errno .neq v55 (.val (.int .i64 0)) fun v58 =>
 condS v58 (
 bind1 (tupS [(some v55), (some v56)]) fun v => some (.ret v, s_2)) (
 nx x47 fun v61 =>
 decl_wrong_1_l0 x3 x45 x46 v61 s_2)) (
 bind1 (tupS [(some (.val (.int .i64 0))), (some (.val (.str [])))]) fun v => some (.ret v, s_1)) := by intros; unfold decl_wrong_1_l0; exact (loopR_eq _ _ _ _ _ _).trans (by kernel_rfl)
theorem decl_wrong_1_eq (a0 : AV) (a1 : AV) (a2 : AV) (a3 : AV) (s : St) : cw (.f F_decl_wrong_1) [a0, a1, a2, a3] s =
 bx T_Ty (.val a0) fun c4 =>
 gC T_TyKind 0 c4 fun v14 =>
 bn T_TyKind .eql v14 (.val (.int .i64 1)) fun v15 =>
 condS v15 (
 gC T_int 1 c4 fun v17 =>
 ld T_int s (.val a1) fun v18 =>
 bn T_int .geq v17 v18 fun v19 =>
 condS v19 (
 bind1 (tupS [(some (.val (.int .i64 16))), (some (.val (.str [])))]) fun v => some (.ret v, s)) (
 bind1 (tupS [(some (.val (.int .i64 0))), (some (.val (.str [])))]) fun v => some (.ret v, s))) (
 ld T_x_map_string_int s (.val a2) fun v21 =>
 gC T_string 2 c4 fun v23 =>
 bind1 (lookupS (C.ti T_string) (C.ti T_int) s v21 v23 true) fun v24 =>
 bind1 (extractS v24 0) fun v25 =>
 bind1 (extractS v24 1) fun v26 =>
 bind1 (unS .not v26) fun v29 =>
 condS v29 (
 gC T_string 2 c4 fun v31 =>
 bind1 (tupS [(some (.val (.int .i64 8))), (some v31)]) fun v => some (.ret v, s)) (
 bn T_int .geq v25 (.val (.int .i64 0)) fun v34 =>
 bindB (Slot.isB v34 true) fun w =>
 bindB (Slot.isB v34 true) fun w_1 =>
 bindB (Slot.isB v34 true) fun w_2 =>
 bind1 (gd w_2 (bif w_1 then (ofSlots (C.ti T_S_Ty) (List.take (C.ti T_S_Ty).size (List.drop 3 c4))) else none)) fun v38 =>
 bindB (Slot.isB v34 true) fun w_3 =>
 bind1 (gd w_3 (lenS (C.ti T_S_Ty) v38)) fun v39 =>
 bindB (Slot.isB v34 true) fun w_4 =>
 bind1 (gd w_4 (binS (C.ti T_int) .neq (gdV w v25) v39)) fun v40 =>
 bind1 (pickS v34 v40 (.val (.bool false))) fun v41 =>
 condS v41 (
 gC T_string 2 c4 fun v43 =>
 bind1 (tupS [(some (.val (.int .i64 19))), (some v43)]) fun v => some (.ret v, s)) (
 gC T_S_Ty 3 c4 fun v45 =>
 ln T_S_Ty v45 fun v46 =>
 decl_wrong_1_l0 (.val a3) v45 v46 (.val (.int .i64 0)) s))) := (callw_f _ _ _).trans (by kernel_rfl)
/- 98 camlet/ty.change -/
noncomputable def ty_change_l0 : Slot → List Slot → List Slot → Slot → Slot → Slot → St → Res := fun x1 x4 x5 x23 x24 x25 s => lpD F_ty_change [.seqR, .seqR, .seqR, .seqL, .seqR, .block] Go.Proofs.Tryz.f98 [(1, .s x1), (4, .var x4), (5, .var x5), (23, .s x23), (24, .s x24), (25, .s x25)] s
theorem ty_change_l0_eq : ∀ x1 x4 x5 x23 x24 x25 s_2, ty_change_l0 x1 x4 x5 x23 x24 x25 s_2 =
 bn T_int .lss x25 x24 fun v26 =>
 condS v26 (
 ix T_Ty x23 x25 fun v27 =>
 ld T_Ty s_2 v27 fun v28 =>
 bx T_Ty v28 fun c_2 =>
 pZ T_Ty c_2 fun c7 =>
 gC T_S_Ty 3 x5 fun v30 =>
 gA T_Ty c7 fun v31 =>
 cn F_ty_change [v31, x1] s_2 fun v33 s_3 =>
 bind1 (bslF (C.ti T_Ty).size [v33]) fun v34 =>
 bind2 (appendS T_Ty (C.ti T_Ty) s_3 v30 v34) fun v35 s_4 =>
 bx T_S_Ty v35 fun c_3 =>
 bindL (putAt x5 3 c_3) fun c5_1 =>
 nx x25 fun v37 =>
 ty_change_l0 x1 x4 c5_1 x23 x24 v37 s_4) (
 gA T_Ty x5 fun v38 =>
 bx T_Ty v38 fun c_4 =>
 bindL (putAt x4 0 c_4) fun c4_1 =>
 gA T_Ty c4_1 fun v => some (.ret v, s_2)) := by intros; unfold ty_change_l0; exact (loopR_eq _ _ _ _ _ _).trans (by kernel_rfl)
theorem ty_change_eq (a0 : AV) (a1 : AV) (s : St) : cw (.f F_ty_change) [a0, a1] s =
 bx T_Ty (.val a0) fun c2 =>
 gC T_TyKind 0 c2 fun v9 =>
 bn T_TyKind .eql v9 (.val (.int .i64 1)) fun v10 =>
 condS v10 (
 gC T_int 1 c2 fun v13 =>
 back (cal cw true (tgtV (.val a1) [v13]) s) fun v14 s_1 =>
 bx T_Ty v14 fun c =>
 pZ T_Ty c fun c4 =>
 gA T_Ty c4 fun v => some (.ret v, s_1)) (
 gC T_TyKind 0 c2 fun v16 =>
 gC T_int 1 c2 fun v18 =>
 gC T_string 2 c2 fun v20 =>
 bind1 (buildS (C.ti T_Ty).zero [(0, (C.ti T_TyKind).size, v16), (1, (C.ti T_int).size, v18), (2, (C.ti T_string).size, v20)]) fun v21 =>
 bx T_Ty v21 fun c_1 =>
 pZ T_Ty c_1 fun c5 =>
 gC T_S_Ty 3 c2 fun v23 =>
 ln T_S_Ty v23 fun v24 =>
 ty_change_l0 (.val a1) ((List.map .val (C.ti T_Ty).zero)) c5 v23 v24 (.val (.int .i64 0)) s) := (callw_f _ _ _).trans (by kernel_rfl)
/- 99 camlet/ty.Put$1 -/
theorem ty_Put_1_eq (a0 : AV) (a1 : AV) (s : St) : cw (.f F_ty_Put_1) [a0, a1] s =
 bn T_int .geq (.val a0) (.val (.int .i64 0)) fun v5 =>
 bindB (Slot.isB v5 true) fun w =>
 bindB (Slot.isB v5 true) fun w_1 =>
 bind1 (gd w_1 (ldV (C.ti T_S_Ty) false s (.val a1))) fun v8 =>
 bindB (Slot.isB v5 true) fun w_2 =>
 bind1 (gd w_2 (lenS (C.ti T_S_Ty) v8)) fun v9 =>
 bindB (Slot.isB v5 true) fun w_3 =>
 bind1 (gd w_3 (binS (C.ti T_int) .lss (gdV w (.val a0)) v9)) fun v10 =>
 bind1 (pickS v5 v10 (.val (.bool false))) fun v11 =>
 condS v11 (
 ld T_S_Ty s (.val a1) fun v12 =>
 ix T_Ty v12 (.val a0) fun v14 =>
 ld T_Ty s v14 fun v15 =>
 ca F_ty_own [v15] s fun v16 s_1 =>
 bx T_Ty v16 fun c =>
 pZ T_Ty c fun c3 =>
 gA T_Ty c3 fun v => some (.ret v, s_1)) (
 bind1 (buildS (C.ti T_Ty).zero [(0, (C.ti T_TyKind).size, (.val (.int .i64 1))), (1, (C.ti T_int).size, (.val a0))]) fun v18 =>
 bx T_Ty v18 fun c_1 =>
 pZ T_Ty c_1 fun c3_1 =>
 gA T_Ty c3_1 fun v => some (.ret v, s)) := (callw_f _ _ _).trans (by kernel_rfl)
/- 100 camlet/ty.own -/
noncomputable def ty_own_l0 : List Slot → List Slot → Slot → Slot → Slot → St → Res := fun x2 x3 x9 x10 x11 s => lpD F_ty_own [.seqR, .seqR, .seqR, .seqL, .seqR, .block] Go.Proofs.Tryz.f100 [(2, .var x2), (3, .var x3), (9, .s x9), (10, .s x10), (11, .s x11)] s
theorem ty_own_l0_eq : ∀ x2 x3 x9 x10 x11 s_1, ty_own_l0 x2 x3 x9 x10 x11 s_1 =
 bn T_int .lss x11 x10 fun v12 =>
 condS v12 (
 ix T_Ty x9 x11 fun v13 =>
 ld T_Ty s_1 v13 fun v14 =>
 bx T_Ty v14 fun c_2 =>
 pZ T_Ty c_2 fun c5 =>
 gC T_S_Ty 3 x3 fun v16 =>
 gA T_Ty c5 fun v17 =>
 cn F_ty_own [v17] s_1 fun v18 s_2 =>
 bind1 (bslF (C.ti T_Ty).size [v18]) fun v19 =>
 bind2 (appendS T_Ty (C.ti T_Ty) s_2 v16 v19) fun v20 s_3 =>
 bx T_S_Ty v20 fun c_3 =>
 bindL (putAt x3 3 c_3) fun c3_2 =>
 nx x11 fun v22 =>
 ty_own_l0 x2 c3_2 x9 x10 v22 s_3) (
 gA T_Ty x3 fun v23 =>
 bx T_Ty v23 fun c_4 =>
 bindL (putAt x2 0 c_4) fun c2 =>
 gA T_Ty c2 fun v => some (.ret v, s_1)) := by intros; unfold ty_own_l0; exact (loopR_eq _ _ _ _ _ _).trans (by kernel_rfl)
theorem ty_own_eq (a0 : AV) (s : St) : cw (.f F_ty_own) [a0] s =
 bx T_Ty (.val a0) fun c1 =>
 gA T_Ty c1 fun v6 =>
 bx T_Ty v6 fun c =>
 pZ T_Ty c fun c3 =>
 bx T_S_Ty (.val (.nils)) fun c_1 =>
 bindL (putAt c3 3 c_1) fun c3_1 =>
 gC T_S_Ty 3 c1 fun v9 =>
 ln T_S_Ty v9 fun v10 =>
 ty_own_l0 ((List.map .val (C.ti T_Ty).zero)) c3_1 v9 v10 (.val (.int .i64 0)) s := (callw_f _ _ _).trans (by kernel_rfl)
/- 101 camlet/camletref12.con -/
/- 102 camlet/camletref05.CopyTy -/
/- 103 camlet/camletref08.Of -/
/- 104 camlet/tree.expression$1 -/
theorem tree_expression_1_eq (a0 : AV) (a1 : AV) (s : St) : cw (.f F_tree_expression_1) [a0, a1] s =
 bind1 (buildS (C.ti T_walker).zero [(0, (C.ti T_x_func_tree_thing_bool).size, (.val a0))]) fun v4 =>
 ca F_tree_walker_exps [v4, (.val a1)] s fun v5 s_1 =>
 bind1 (tupS []) fun v => some (.ret v, s_1) := (callw_f _ _ _).trans (by kernel_rfl)
/- 105 (camlet/tree.walker).exps -/
noncomputable def tree_walker_exps_l0 : Slot → List Slot → Slot → Slot → St → Res := fun x1 x2 x29 x30 s => lpD F_tree_walker_exps [.seqR, .seqR, .seqL, .seqR, .block] Go.Proofs.Tryz.f105 [(1, .s x1), (2, .var x2), (29, .s x29), (30, .s x30)] s
theorem tree_walker_exps_l0_eq : ∀ x1 x2 x29 x30 s_3, tree_walker_exps_l0 x1 x2 x29 x30 s_3 =
 bn T_int .lss x30 x29 fun v31 =>
 condS v31 (
 gA T_walker x2 fun v33 =>
 bind1 (nilCheckV x1) fun v35 =>
 bind1 (faV 4 v35) fun v36 =>
 ld T_S_Exp s_3 v36 fun v37 =>
 ix T_Exp v37 x30 fun v39 =>
 cn F_tree_walker_exps [v33, v39] s_3 fun v40 s_4 =>
 bind1 (unS .not v40) fun v41 =>
 condS v41 (
 some (.ret (.val (.bool false)), s_4)) (
 nx x30 fun v42 =>
 tree_walker_exps_l0 x1 x2 x29 v42 s_4)) (
 gA T_walker x2 fun v43 =>
 bind1 (nilCheckV x1) fun v45 =>
 bind1 (faV 5 v45) fun v46 =>
 ld T_S_Case s_3 v46 fun v47 =>
 cn F_tree_walker_cases [v43, v47] s_3 fun v48 s_5 =>
 some (.ret v48, s_5)) := by intros; unfold tree_walker_exps_l0; exact (loopR_eq _ _ _ _ _ _).trans (by kernel_rfl)
theorem tree_walker_exps_eq (a0 : AV) (a1 : AV) (s : St) : cw (.f F_tree_walker_exps) [a0, a1] s =
 bx T_walker (.val a0) fun c2 =>
 gC T_x_func_tree_thing_bool 0 c2 fun v7 =>
 bind1 (nilCheckV (.val a1)) fun v10 =>
 bind1 (faV 1 v10) fun v11 =>
 ld T_int s v11 fun v12 =>
 bind1 (buildS (C.ti T_thing).zero [(4, (C.ti T_P_Exp).size, (.val a1)), (7, (C.ti T_int).size, v12)]) fun v13 =>
 back (noPan (cal cw true (tgtV v7 [v13]) s)) fun v14 s_1 =>
 bind1 (unS .not v14) fun v15 =>
 bindB (Slot.isB v15 false) fun w =>
 bind1 (gd w (ofSlots (C.ti T_walker) (List.take (C.ti T_walker).size c2))) fun v17 =>
 bindB (Slot.isB v15 false) fun w_1 =>
 bindB (Slot.isB v15 false) fun w_2 =>
 bind1 (gd w_2 (nilCheckV (gdV w_1 (.val a1)))) fun v19 =>
 bindB (Slot.isB v15 false) fun w_3 =>
 bind1 (gd w_3 (faV 6 v19)) fun v20 =>
 bindB (Slot.isB v15 false) fun w_4 =>
 bind1 (gd w_4 (ldV (C.ti T_S_Dec) false s_1 v20)) fun v21 =>
 bindB (Slot.isB v15 false) fun w_5 =>
 back (noPan (cal cw w_5 (tgtV (.val (.fn F_tree_walker_decs [])) [v17, v21, (.val (.bool true))]) s_1)) fun v22 s_2 =>
 bindB (Slot.isB v15 false) fun w_6 =>
 bind1 (gd w_6 (unS .not v22)) fun v23 =>
 bind1 (pickS v15 (.val (.bool true)) v23) fun v24 =>
 condS v24 (
 some (.ret (.val (.bool false)), s_2)) (
 bind1 (nilCheckV (.val a1)) fun v26 =>
 bind1 (faV 4 v26) fun v27 =>
 ld T_S_Exp s_2 v27 fun v28 =>
 ln T_S_Exp v28 fun v29 =>
 tree_walker_exps_l0 (.val a1) c2 v29 (.val (.int .i64 0)) s_2) := (callw_f _ _ _).trans (by kernel_rfl)
/- 106 camlet/camletref05.OfCase -/
theorem ref05_OfCase_eq (a0 : AV) (s : St) : cw (.f F_ref05_OfCase) [a0] s =
 bx T_Case (.val a0) fun c1 =>
 gC T_Pat 0 c1 fun v4 =>
 cn F_ref05_OfPat [v4] s fun v5 s_1 =>
 gC T_Exp 5 c1 fun v7 =>
 cn F_ref05_OfExp [v7] s_1 fun v8 s_2 =>
 bind2 (appendS T_ref05_Node (C.ti T_ref05_Node) s_2 v5 v8) fun v9 s_3 =>
 some (.ret v9, s_3) := (callw_f _ _ _).trans (by kernel_rfl)
/- 107 camlet/tree.pattern -/
theorem tree_pattern_eq (a0 : AV) (s : St) : cw (.f F_tree_pattern) [a0] s =
 bx T_Pat (.val a0) fun c1 =>
 bindA (avs c1) fun l1 =>
 bind1 (fnS F_tree_pattern_1 [(.val (.cp l1))]) fun v3 =>
 some (.ret v3, s) := (callw_f _ _ _).trans (by kernel_rfl)
end Go.Proofs.YtinphnakebeloaaGreat
