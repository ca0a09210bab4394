/- A part of the proof: G2. -/
import Derived.Test.YtoahliipbclneaaM4
set_option linter.unusedVariables false
set_option linter.unusedSimpArgs false
namespace Go.Proofs.Ytoahliipbclneaa
open Go Go.Am
set_option linter.unusedVariables false
noncomputable def Zo : Slot → Slot → Slot → Slot → St → Res := fun x0_1 x3_1 x7 x8 s => lpD ZA [.seqR, .seqR, .seqL, .seqR, .block, .loop, .seqR, .seqL, .block, .seqR, .seqR, .seqR, .seqR, .seqR, .seqL, .seqR, .block] Try.f4 [(0, .s x0_1), (3, .s x3_1), (7, .s x7), (8, .s x8)] s
noncomputable def Z0 : Slot → Slot → St → Res := fun x0 x3 s => lpD ZA [.seqR, .seqR, .seqL, .seqR, .block] Try.f4 [(0, .s x0), (3, .s x3)] s
theorem Q1T : ∀ x0_1 x3_1 x7 x8 s_9, Zo x0_1 x3_1 x7 x8 s_9 =
 ln Q29 x7 fun v133 =>
 bn Q1 .lss x8 v133 fun v134 =>
 condS v134 (
 ix Q1 x7 x8 fun v139 =>
 ld Q1 s_9 v139 fun v140 =>
 ix Q5 x0_1 x3_1 fun v143 =>
 fa 5 v143 fun v144 =>
 fa 0 v144 fun v145 =>
 ld Q1 s_9 v145 fun v146 =>
 bn Q1 .geq v140 v146 fun v147 =>
 condS v147 (
 some (.ret (bv false), s_9)) (
 nx x8 fun v136 =>
 Zo x0_1 x3_1 x7 v136 s_9)) (
 bn Q1 .gtr x3_1 (iv 0) fun v149 =>
 iT v149 fun w_68 =>
 iT v149 fun w_69 =>
 iT v149 fun w_70 =>
 bind1 (gd w_70 (ixS (C.ti Q5).size (gdV w_68 x0_1) (gdV w_69 x3_1))) fun v153 =>
 iT v149 fun w_71 =>
 bind1 (gd w_71 (faV 1 v153)) fun v154 =>
 iT v149 fun w_72 =>
 bind1 (gd w_72 (ldV (C.ti Q2) false s_9 v154)) fun v155 =>
 iT v149 fun w_73 =>
 gB w_73 Q2 .neq v155 (sv [101, 120, 110]) fun v156 =>
 pk v149 v156 (bv false) fun v157 =>
 iT v157 fun w_74 =>
 iT v157 fun w_75 =>
 iT v157 fun w_76 =>
 bind1 (gd w_76 (ixS (C.ti Q5).size (gdV w_74 x0_1) (gdV w_75 x3_1))) fun v161 =>
 iT v157 fun w_77 =>
 bind1 (gd w_77 (faV 2 v161)) fun v162 =>
 iT v157 fun w_78 =>
 bind1 (gd w_78 (ldV (C.ti Q1) false s_9 v162)) fun v163 =>
 iT v157 fun w_79 =>
 gB w_79 Q1 .gtr v163 (iv 0) fun v164 =>
 pk v157 v164 (bv false) fun v165 =>
 iT v165 fun w_80 =>
 iT v165 fun w_81 =>
 iT v165 fun w_82 =>
 gB w_82 Q1 .sub (gdV w_81 x3_1) (iv 1) fun v169 =>
 iT v165 fun w_83 =>
 bind1 (gd w_83 (ixS (C.ti Q5).size (gdV w_80 x0_1) v169)) fun v170 =>
 iT v165 fun w_84 =>
 bind1 (gd w_84 (faV 1 v170)) fun v171 =>
 iT v165 fun w_85 =>
 bind1 (gd w_85 (ldV (C.ti Q2) false s_9 v171)) fun v172 =>
 iT v165 fun w_86 =>
 iT v165 fun w_87 =>
 iT v165 fun w_88 =>
 bind1 (gd w_88 (ixS (C.ti Q5).size (gdV w_86 x0_1) (gdV w_87 x3_1))) fun v175 =>
 iT v165 fun w_89 =>
 bind1 (gd w_89 (faV 1 v175)) fun v176 =>
 iT v165 fun w_90 =>
 bind1 (gd w_90 (ldV (C.ti Q2) false s_9 v176)) fun v177 =>
 iT v165 fun w_91 =>
 gB w_91 Q2 .neq v172 v177 fun v178 =>
 pk v165 v178 (bv false) fun v179 =>
 condS v179 (
 some (.ret (bv false), s_9)) (
 nx x3_1 fun v18 =>
 Z0 x0_1 v18 s_9)) := by intros; unfold Zo; exact (Qc _ _ _ _ _ _).trans (by kernel_rfl)
theorem Q1S : ∀ x0 x3 s_3, Z0 x0 x3 s_3 =
 ln QB x0 fun v15 =>
 bn Q1 .lss x3 v15 fun v16 =>
 condS v16 (
 ix Q5 x0 x3 fun v23 =>
 fa 0 v23 fun v24 =>
 ld Q2 s_3 v24 fun v25 =>
 ca Q15 [x0, v25] s_3 fun v26 s_4 =>
 ex v26 0 fun v27 =>
 ex v26 1 fun v28 =>
 bx Q5 v27 fun c =>
 pZ Q5 c fun c4 =>
 nt v28 fun v30 =>
 iF v30 fun w =>
 bind1 (gd w (ofSlots (C.ti Q5) (List.take (C.ti Q5).size c4))) fun v32 =>
 iF v30 fun w_1 =>
 iF v30 fun w_2 =>
 iF v30 fun w_3 =>
 bind1 (gd w_3 (ixS (C.ti Q5).size (gdV w_1 x0) (gdV w_2 x3))) fun v35 =>
 iF v30 fun w_4 =>
 bind1 (gd w_4 (ldV (C.ti Q5) false s_4 v35)) fun v36 =>
 iF v30 fun w_5 =>
 back (noPan (cal cw w_5 (tgtV (.val (.fn Q12 [])) [v32, v36]) s_4)) fun v37 s_5 =>
 iF v30 fun w_6 =>
 gN w_6 v37 fun v38 =>
 pk v30 (bv true) v38 fun v39 =>
 iF v39 fun w_7 =>
 iF v39 fun w_8 =>
 iF v39 fun w_9 =>
 bind1 (gd w_9 (ixS (C.ti Q5).size (gdV w_7 x0) (gdV w_8 x3))) fun v43 =>
 iF v39 fun w_10 =>
 bind1 (gd w_10 (faV 5 v43)) fun v44 =>
 iF v39 fun w_11 =>
 bind1 (gd w_11 (faV 1 v44)) fun v45 =>
 iF v39 fun w_12 =>
 bind1 (gd w_12 (ldV (C.ti Q4) false s_5 v45)) fun v46 =>
 iF v39 fun w_13 =>
 back (noPan (cal cw w_13 (tgtV (.val (.fn Q0R [])) [v46]) s_5)) fun v47 s_6 =>
 iF v39 fun w_14 =>
 gN w_14 v47 fun v48 =>
 pk v39 (bv true) v48 fun v49 =>
 condS v49 (
 some (.ret (bv false), s_6)) (
 ix Q5 x0 x3 fun v53 =>
 fa 1 v53 fun v54 =>
 ld Q2 s_6 v54 fun v55 =>
 ca Q2g [x0, v55] s_6 fun v56 s_7 =>
 ix Q5 x0 x3 fun v59 =>
 fa 2 v59 fun v60 =>
 ld Q1 s_7 v60 fun v61 =>
 bn Q1 .lss v61 (iv 0) fun v62 =>
 iF v62 fun w_15 =>
 iF v62 fun w_16 =>
 iF v62 fun w_17 =>
 bind1 (gd w_17 (ixS (C.ti Q5).size (gdV w_15 x0) (gdV w_16 x3))) fun v66 =>
 iF v62 fun w_18 =>
 bind1 (gd w_18 (faV 2 v66)) fun v67 =>
 iF v62 fun w_19 =>
 bind1 (gd w_19 (ldV (C.ti Q1) false s_7 v67)) fun v68 =>
 iF v62 fun w_20 =>
 iF v62 fun w_21 =>
 gL w_21 Q0I (gdV w_20 v56) fun v70 =>
 iF v62 fun w_22 =>
 gB w_22 Q1 .geq v68 v70 fun v71 =>
 pk v62 (bv true) v71 fun v72 =>
 iF v72 fun w_23 =>
 iF v72 fun w_24 =>
 iF v72 fun w_25 =>
 iF v72 fun w_26 =>
 bind1 (gd w_26 (ixS (C.ti Q5).size (gdV w_24 x0) (gdV w_25 x3))) fun v77 =>
 iF v72 fun w_27 =>
 bind1 (gd w_27 (faV 2 v77)) fun v78 =>
 iF v72 fun w_28 =>
 bind1 (gd w_28 (ldV (C.ti Q1) false s_7 v78)) fun v79 =>
 iF v72 fun w_29 =>
 bind1 (gd w_29 (ixS (C.ti Q5).size (gdV w_23 v56) v79)) fun v80 =>
 iF v72 fun w_30 =>
 bind1 (gd w_30 (faV 0 v80)) fun v81 =>
 iF v72 fun w_31 =>
 bind1 (gd w_31 (ldV (C.ti Q2) false s_7 v81)) fun v82 =>
 iF v72 fun w_32 =>
 iF v72 fun w_33 =>
 iF v72 fun w_34 =>
 bind1 (gd w_34 (ixS (C.ti Q5).size (gdV w_32 x0) (gdV w_33 x3))) fun v85 =>
 iF v72 fun w_35 =>
 bind1 (gd w_35 (faV 0 v85)) fun v86 =>
 iF v72 fun w_36 =>
 bind1 (gd w_36 (ldV (C.ti Q2) false s_7 v86)) fun v87 =>
 iF v72 fun w_37 =>
 gB w_37 Q2 .neq v82 v87 fun v88 =>
 pk v72 (bv true) v88 fun v89 =>
 iF v89 fun w_38 =>
 iF v89 fun w_39 =>
 iF v89 fun w_40 =>
 bind1 (gd w_40 (ixS (C.ti Q5).size (gdV w_38 x0) (gdV w_39 x3))) fun v93 =>
 iF v89 fun w_41 =>
 bind1 (gd w_41 (faV 1 v93)) fun v94 =>
 iF v89 fun w_42 =>
 bind1 (gd w_42 (ldV (C.ti Q2) false s_7 v94)) fun v95 =>
 iF v89 fun w_43 =>
 gB w_43 Q2 .neq v95 (sv [101, 120, 110]) fun v96 =>
 iF v89 fun w_44 =>
 bindB (Slot.isB (gdV w_44 v96) true) fun w_45 =>
 bindB (Slot.isB (gdV w_44 v96) true) fun w_46 =>
 bindB (Slot.isB (gdV w_44 v96) true) fun w_47 =>
 bind1 (gd w_47 (ixS (C.ti Q5).size (gdV w_45 x0) (gdV w_46 x3))) fun v100 =>
 bindB (Slot.isB (gdV w_44 v96) true) fun w_48 =>
 bind1 (gd w_48 (faV 3 v100)) fun v101 =>
 bindB (Slot.isB (gdV w_44 v96) true) fun w_49 =>
 bind1 (gd w_49 (ldV (C.ti Q1) false s_7 v101)) fun v102 =>
 bindB (Slot.isB (gdV w_44 v96) true) fun w_50 =>
 bindB (Slot.isB (gdV w_44 v96) true) fun w_51 =>
 gL w_51 Q0I (gdV w_50 v56) fun v104 =>
 bindB (Slot.isB (gdV w_44 v96) true) fun w_52 =>
 gB w_52 Q1 .neq v102 v104 fun v105 =>
 iF v89 fun w_53 =>
 bind1 (gd w_53 (pickS (gdV w_44 v96) v105 (bv false))) fun v106 =>
 pk v89 (bv true) v106 fun v107 =>
 iF v107 fun w_54 =>
 iF v107 fun w_55 =>
 iF v107 fun w_56 =>
 bind1 (gd w_56 (ixS (C.ti Q5).size (gdV w_54 x0) (gdV w_55 x3))) fun v111 =>
 iF v107 fun w_57 =>
 bind1 (gd w_57 (faV 1 v111)) fun v112 =>
 iF v107 fun w_58 =>
 bind1 (gd w_58 (ldV (C.ti Q2) false s_7 v112)) fun v113 =>
 iF v107 fun w_59 =>
 gB w_59 Q2 .eql v113 (sv [101, 120, 110]) fun v114 =>
 iF v107 fun w_60 =>
 bindB (Slot.isB (gdV w_60 v114) true) fun w_61 =>
 bindB (Slot.isB (gdV w_60 v114) true) fun w_62 =>
 bindB (Slot.isB (gdV w_60 v114) true) fun w_63 =>
 bind1 (gd w_63 (ixS (C.ti Q5).size (gdV w_61 x0) (gdV w_62 x3))) fun v118 =>
 bindB (Slot.isB (gdV w_60 v114) true) fun w_64 =>
 bind1 (gd w_64 (faV 3 v118)) fun v119 =>
 bindB (Slot.isB (gdV w_60 v114) true) fun w_65 =>
 bind1 (gd w_65 (ldV (C.ti Q1) false s_7 v119)) fun v120 =>
 bindB (Slot.isB (gdV w_60 v114) true) fun w_66 =>
 gB w_66 Q1 .neq v120 (iv 0) fun v121 =>
 iF v107 fun w_67 =>
 bind1 (gd w_67 (pickS (gdV w_60 v114) v121 (bv false))) fun v122 =>
 pk v107 (bv true) v122 fun v123 =>
 condS v123 (
 some (.ret (bv false), s_7)) (
 ix Q5 x0 x3 fun v126 =>
 fa 5 v126 fun v127 =>
 fa 1 v127 fun v128 =>
 ld Q4 s_7 v128 fun v129 =>
 ca Q1A [v129] s_7 fun v130 s_8 =>
 Zo x0 x3 v130 (iv 0) s_8))) (
 ca Q1m [] s_3 fun v180 s_10 =>
 some (.ret v180, s_10)) := by intros; unfold Z0; exact (Qc _ _ _ _ _ _).trans (by kernel_rfl)
theorem Q6t (a0 : AV) (s : St) : cw (.f ZA) [a0] s =
 ca Zy [(.val a0)] s fun v10 s_1 =>
 nt v10 fun v11 =>
 condS v11 (
 ca Q1m [] s_1 fun v12 s_2 =>
 some (.ret v12, s_2)) (
 Z0 (.val a0) (iv 0) s_1) := (Q6 _ _ _).trans (by kernel_rfl)
theorem Qap (s : St) : cw (.f Q0G) [] s =
 ca Za [(sv [40, 41]), (sv [117, 110, 105, 116]), (iv 0), (iv 1)] s fun v1 s_1 =>
 ca Za [(sv [102, 97, 108, 115, 101]), (sv [98, 111, 111, 108]), (iv 0), (iv 2)] s_1 fun v2 s_2 =>
 ca Za [(sv [116, 114, 117, 101]), (sv [98, 111, 111, 108]), (iv 1), (iv 2)] s_2 fun v3 s_3 =>
 ca Za [(sv [68, 105, 118]), (sv [101, 120, 110]), (iv 0), (iv 0)] s_3 fun v4 s_4 =>
 ca Za [(sv [69, 111, 102]), (sv [101, 120, 110]), (iv 1), (iv 0)] s_4 fun v5 s_5 =>
 ca Za [(sv [77, 97, 116, 99, 104]), (sv [101, 120, 110]), (iv 2), (iv 0)] s_5 fun v6 s_6 =>
 bs Q5 [v1, v2, v3, v4, v5, v6] fun v7 =>
 some (.ret v7, s_6) := (Q6 _ _ _).trans (by kernel_rfl)
noncomputable def Q0K : Slot → List Slot → Slot → Slot → Slot → St → Res := fun x1 x4 x8 x9 x10 s => lpD Q15 [.seqR, .seqL, .seqR, .block] Try.f8 [(1, .s x1), (4, .var x4), (8, .s x8), (9, .s x9), (10, .s x10)] s
theorem Q3I : ∀ x1 x4 x8 x9 x10 s_1, Q0K x1 x4 x8 x9 x10 s_1 =
 bn Q1 .lss x10 x9 fun v11 =>
 condS v11 (
 ix Q5 x8 x10 fun v12 =>
 ld Q5 s_1 v12 fun v13 =>
 bx Q5 v13 fun c =>
 pZ Q5 c fun c7 =>
 gC Q2 0 c7 fun v15 =>
 bn Q2 .eql v15 x1 fun v17 =>
 condS v17 (
 gC Q4 6 c7 fun v20 =>
 ca Zz [v20] s_1 fun v21 s_2 =>
 bx Q4 v21 fun c_1 =>
 pt c7 6 c_1 fun c7_1 =>
 gA Q5 c7_1 fun v24 =>
 bx Q5 v24 fun c_2 =>
 pt x4 0 c_2 fun c4 =>
 rt [(ofSlots (C.ti Q5) (List.take (C.ti Q5).size c4)), (some (bv true))] s_2) (
 nx x10 fun v25 =>
 Q0K x1 x4 x8 x9 v25 s_1)) (
 bd Q5 [] fun v26 =>
 bx Q5 v26 fun c_3 =>
 pt x4 0 c_3 fun c4_1 =>
 rt [(ofSlots (C.ti Q5) (List.take (C.ti Q5).size c4_1)), (some (bv false))] s_1) := by intros; unfold Q0K; exact (Qc _ _ _ _ _ _).trans (by kernel_rfl)
theorem QaX (a0 : AV) (a1 : AV) (s : St) : cw (.f Q15) [a0, a1] s =
 ln QB (.val a0) fun v9 =>
 Q0K (.val a1) ((List.map .val (C.ti Q5).zero)) (.val a0) v9 (iv 0) s := (Q6 _ _ _).trans (by kernel_rfl)
theorem Q66 (a0 : AV) (a1 : AV) (s : St) : cw (.f Q12) [a0, a1] s =
 bx Q5 (.val a0) fun c2 =>
 bx Q5 (.val a1) fun c3 =>
 gC Q2 0 c2 fun v6 =>
 gC Q2 0 c3 fun v8 =>
 bn Q2 .eql v6 v8 fun v9 =>
 iT v9 fun w =>
 iT v9 fun w_1 =>
 gG w_1 w Q2 1 c2 fun v12 =>
 iT v9 fun w_2 =>
 iT v9 fun w_3 =>
 gG w_3 w_2 Q2 1 c3 fun v14 =>
 iT v9 fun w_4 =>
 gB w_4 Q2 .eql v12 v14 fun v15 =>
 pk v9 v15 (bv false) fun v16 =>
 iT v16 fun w_5 =>
 iT v16 fun w_6 =>
 gG w_6 w_5 Q1 2 c2 fun v19 =>
 iT v16 fun w_7 =>
 iT v16 fun w_8 =>
 gG w_8 w_7 Q1 2 c3 fun v21 =>
 iT v16 fun w_9 =>
 gB w_9 Q1 .eql v19 v21 fun v22 =>
 pk v16 v22 (bv false) fun v23 =>
 iT v23 fun w_10 =>
 iT v23 fun w_11 =>
 gG w_11 w_10 Q1 3 c2 fun v26 =>
 iT v23 fun w_12 =>
 iT v23 fun w_13 =>
 gG w_13 w_12 Q1 3 c3 fun v28 =>
 iT v23 fun w_14 =>
 gB w_14 Q1 .eql v26 v28 fun v29 =>
 pk v23 v29 (bv false) fun v30 =>
 iT v30 fun w_15 =>
 iT v30 fun w_16 =>
 gG w_16 w_15 Qg 4 c2 fun v33 =>
 iT v30 fun w_17 =>
 iT v30 fun w_18 =>
 gG w_18 w_17 Qg 4 c3 fun v35 =>
 iT v30 fun w_19 =>
 gB w_19 Qg .eql v33 v35 fun v36 =>
 pk v30 v36 (bv false) fun v37 =>
 iT v37 fun w_20 =>
 iT v37 fun w_21 =>
 chkP w_20 w_21 fun _ =>
 iT v37 fun w_22 =>
 bind1 (gd w_22 (bif (w_20 && w_21) then (ofSlots (C.ti Q1) (List.take (C.ti Q1).size (List.drop 5 c2))) else none)) fun v41 =>
 iT v37 fun w_23 =>
 iT v37 fun w_24 =>
 chkP w_23 w_24 fun _ =>
 iT v37 fun w_25 =>
 bind1 (gd w_25 (bif (w_23 && w_24) then (ofSlots (C.ti Q1) (List.take (C.ti Q1).size (List.drop 5 c3))) else none)) fun v44 =>
 iT v37 fun w_26 =>
 gB w_26 Q1 .eql v41 v44 fun v45 =>
 pk v37 v45 (bv false) fun v46 =>
 iT v46 fun w_27 =>
 iT v46 fun w_28 =>
 chkP w_27 w_28 fun _ =>
 iT v46 fun w_29 =>
 bind1 (gd w_29 (bif (w_27 && w_28) then (ofSlots (C.ti Q4) (List.take (C.ti Q4).size (List.drop 6 c2))) else none)) fun v50 =>
 iT v46 fun w_30 =>
 iT v46 fun w_31 =>
 chkP w_30 w_31 fun _ =>
 iT v46 fun w_32 =>
 bind1 (gd w_32 (bif (w_30 && w_31) then (ofSlots (C.ti Q4) (List.take (C.ti Q4).size (List.drop 6 c3))) else none)) fun v53 =>
 iT v46 fun w_33 =>
 cg w_33 Q01 [v50, v53] s fun v54 s_1 =>
 pk v46 v54 (bv false) fun v55 =>
 some (.ret v55, s_1) := (Q6 _ _ _).trans (by kernel_rfl)
noncomputable def Q0r : Slot → Slot → List Slot → List Slot → Slot → Slot → Slot → St → Res := fun x0_1 x4_1 x6 x7 x21_1 x22_1 x23_1 s => pwD Zy [.seqR, .seqR, .seqR, .seqR, .seqL, .seqR, .block, .loop, .seqR, .seqR, .seqL, .block, .seqR, .seqR, .seqR] Try.f10 [(0, .s x0_1), (4, .s x4_1), (6, .var x6), (7, .var x7), (21, .s x21_1), (22, .s x22_1), (23, .s x23_1)] s
noncomputable def ZH : Slot → Slot → Slot → Slot → Slot → St → Res := fun x0_2 x4_2 x91 x92 x93 s => lpD Zy [.seqR, .seqR, .seqR, .seqR, .seqR, .seqL, .seqR, .block] Try.f10 [(0, .s x0_2), (4, .s x4_2), (91, .s x91), (92, .s x92), (93, .s x93)] s
noncomputable def Zm : Slot → Slot → Slot → Slot → Slot → St → Res := fun x0 x4 x21 x22 x23 s => lpD Zy [.seqR, .seqR, .seqR, .seqR, .seqL, .seqR, .block] Try.f10 [(0, .s x0), (4, .s x4), (21, .s x21), (22, .s x22), (23, .s x23)] s
theorem Q1r : ∀ x0_1 x4_1 x6 x7 x21_1 x22_1 x23_1 s_5, Q0r x0_1 x4_1 x6 x7 x21_1 x22_1 x23_1 s_5 =
 ln Qz x4_1 fun v43 =>
 gC Qd 0 x7 fun v45 =>
 bn Qd .eql v45 (iv 3) fun v46 =>
 iT v46 fun w =>
 iT v46 fun w_1 =>
 gB w_1 Q1 .gtr (gdV w v43) (iv 0) fun v49 =>
 pk v46 v49 (bv false) fun v50 =>
 iT v50 fun w_2 =>
 iT v50 fun w_3 =>
 iT v50 fun w_4 =>
 gB w_4 Q1 .sub (gdV w_3 v43) (iv 1) fun v54 =>
 iT v50 fun w_5 =>
 bind1 (gd w_5 (ixS (C.ti Qf).size (gdV w_2 x4_1) v54)) fun v55 =>
 iT v50 fun w_6 =>
 bind1 (gd w_6 (faV 0 v55)) fun v56 =>
 iT v50 fun w_7 =>
 bind1 (gd w_7 (ldV (C.ti Qd) false s_5 v56)) fun v57 =>
 iT v50 fun w_8 =>
 gB w_8 Qd .eql v57 (iv 3) fun v58 =>
 pk v50 v58 (bv false) fun v59 =>
 iT v59 fun w_9 =>
 iT v59 fun w_10 =>
 iT v59 fun w_11 =>
 gB w_11 Q1 .sub (gdV w_10 v43) (iv 1) fun v63 =>
 iT v59 fun w_12 =>
 bind1 (gd w_12 (ixS (C.ti Qf).size (gdV w_9 x4_1) v63)) fun v64 =>
 iT v59 fun w_13 =>
 bind1 (gd w_13 (faV 2 v64)) fun v65 =>
 iT v59 fun w_14 =>
 bind1 (gd w_14 (ldV (C.ti Q2) false s_5 v65)) fun v66 =>
 iT v59 fun w_15 =>
 iT v59 fun w_16 =>
 gG w_16 w_15 Q2 1 x6 fun v68 =>
 iT v59 fun w_17 =>
 gB w_17 Q2 .eql v66 v68 fun v69 =>
 pk v59 v69 (bv false) fun v70 =>
 condS v70 (
 bn Q1 .sub v43 (iv 1) fun v73 =>
 bn Q1 .sub v43 (iv 1) fun v76 =>
 ix Qf x4_1 v76 fun v77 =>
 fa 4 v77 fun v78 =>
 ld Qr s_5 v78 fun v79 =>
 gA Q5 x6 fun v80 =>
 cn Q0j [v80] s_5 fun v81 s_6 =>
 bs Qi [v81] fun v82 =>
 bind2 (appendV Qi (C.ti Qi) s_6 v79 v82) fun v83 s_7 =>
 ix Qf x4_1 v73 fun v84 =>
 fa 4 v84 fun v85 =>
 bx Qr v83 fun c_3 =>
 sto s_7 v85 c_3 fun s_8 =>
 nx x23_1 fun v90 =>
 Zm x0_1 x4_1 x21_1 x22_1 v90 s_8) (
 gA Qf x7 fun v87 =>
 bs Qf [v87] fun v88 =>
 bind2 (appendV Qf (C.ti Qf) s_5 x4_1 v88) fun v89 s_9 =>
 nx x23_1 fun v90_1 =>
 Zm x0_1 v89 x21_1 x22_1 v90_1 s_9) := by intros; unfold Q0r; exact (Q1p _).trans (by kernel_rfl)
theorem Q3h : ∀ x0_2 x4_2 x91 x92 x93 s_11, ZH x0_2 x4_2 x91 x92 x93 s_11 =
 bn Q1 .lss x93 x92 fun v94 =>
 condS v94 (
 ix Qf x91 x93 fun v95 =>
 ld Qf s_11 v95 fun v96 =>
 bx Qf v96 fun c_4 =>
 pZ Qf c_4 fun c10 =>
 gA Qf c10 fun v97 =>
 bs Qf [v97] fun v98 =>
 ca Q3a [v98] s_11 fun v99 s_12 =>
 bind1 (fieldS (C.ti Q7) (C.ti Qt) 0 v99) fun v100 =>
 bn Qt .neq v100 (iv 0) fun v101 =>
 condS v101 (
 some (.ret (bv false), s_12)) (
 nx x93 fun v102 =>
 ZH x0_2 x4_2 x91 x92 v102 s_12)) (
 ca Q3D [x4_2] s_11 fun v105 s_13 =>
 ex v105 0 fun v106 =>
 ex v105 1 fun v107 =>
 bx Q7 v107 fun c_5 =>
 pZ Q7 c_5 fun c12 =>
 gC Qt 0 c12 fun v109 =>
 bn Qt .eql v109 (iv 0) fun v110 =>
 iT v110 fun w_18 =>
 iT v110 fun w_19 =>
 iT v110 fun w_20 =>
 cg w_20 Qo [(gdV w_18 x0_2), (gdV w_19 v106), (.val (.fn Q17 []))] s_13 fun v114 s_14 =>
 pk v110 v114 (bv false) fun v115 =>
 some (.ret v115, s_14)) := by intros; unfold ZH; exact (Qc _ _ _ _ _ _).trans (by kernel_rfl)
theorem Q3g : ∀ x0 x4 x21 x22 x23 s_2, Zm x0 x4 x21 x22 x23 s_2 =
 bn Q1 .lss x23 x22 fun v24 =>
 condS v24 (
 ix Q5 x21 x23 fun v25 =>
 ld Q5 s_2 v25 fun v26 =>
 bx Q5 v26 fun c =>
 pZ Q5 c fun c6 =>
 gC Q2 1 c6 fun v28 =>
 gC Q1 5 c6 fun v31 =>
 gA Q5 c6 fun v32 =>
 cn Q0j [v32] s_2 fun v33 s_3 =>
 bind2 (bslV Qi (C.ti Qi) s_3 [v33]) fun v34 s_4 =>
 bd Qf [(0, Qd, (iv 3)), (2, Q2, v28), (3, Q1, v31), (4, Qr, v34)] fun v35 =>
 bx Qf v35 fun c_1 =>
 pZ Qf c_1 fun c7 =>
 gC Q2 1 c6 fun v37 =>
 bn Q2 .eql v37 (sv [101, 120, 110]) fun v38 =>
 condS v38 (
 gC Qr 4 c7 fun v40 =>
 bd Qf [(0, Qd, (iv 4)), (4, Qr, v40)] fun v41 =>
 bx Qf v41 fun c_2 =>
 pt c7 0 c_2 fun c7_1 =>
 Q0r x0 x4 c6 c7_1 x21 x22 x23 s_4) (
 Q0r x0 x4 c6 c7 x21 x22 x23 s_4)) (
 bind2 (frzSlot C.ti x4 s_2) fun v4 s_10 =>
 ln Qz v4 fun v92 =>
 ZH x0 v4 v4 v92 (iv 0) s_10) := by intros; unfold Zm; exact (Qc _ _ _ _ _ _).trans (by kernel_rfl)
theorem Qao (a0 : AV) (s : St) : cw (.f Zy) [a0] s =
 ca Q0G [] s fun v13 s_1 =>
 ln QB v13 fun v14 =>
 ln QB (.val a0) fun v16 =>
 bn Q1 .lss v16 v14 fun v18 =>
 condS v18 (
 some (.ret (bv false), s_1)) (
 bind1 (sliceS (C.ti QB) (C.ti Q5).size (.val a0) (some v14) none none) fun v21 =>
 ln QB v21 fun v22 =>
 Zm (.val a0) (.val (.nils)) v21 v22 (iv 0) s_1) := (Q6 _ _ _).trans (by kernel_rfl)
theorem Q9g (s : St) : cw (.f Q1m) [] s =
 bd Qi [(0, Q2, (sv [78, 111, 110, 101]))] fun v6 =>
 bd Q4 [(0, Qb, (iv 1))] fun v7 =>
 bd Qi [(0, Q2, (sv [83, 111, 109, 101])), (2, Qg, (bv true)), (3, Q4, v7)] fun v8 =>
 bs Qi [v6, v8] fun v9 =>
 bd Qf [(0, Qd, (iv 3)), (2, Q2, (sv [111, 112, 116])), (3, Q1, (iv 1)), (4, Qr, v9)] fun v10 =>
 bx Qf v10 fun c =>
 pZ Qf c fun c1 =>
 cn Q0G [] s fun v12 s_1 =>
 gA Qf c1 fun v13 =>
 cn QV [v12, v13] s_1 fun v14 s_2 =>
 ex v14 0 fun v15 =>
 ex v14 1 fun v16 =>
 bx Q7 v16 fun c_1 =>
 pZ Q7 c_1 fun c3 =>
 ca Q15 [v15, (sv [83, 111, 109, 101])] s_2 fun v19 s_3 =>
 ex v19 0 fun v20 =>
 ex v19 1 fun v21 =>
 bx Q5 v20 fun c_2 =>
 pZ Q5 c_2 fun c4 =>
 ln QB v15 fun v23 =>
 bn Q1 .eql v23 (iv 8) fun v24 =>
 iT v24 fun w =>
 bind1 (gd w (ofSlots (C.ti Q7) (List.take (C.ti Q7).size c3))) fun v26 =>
 iT v24 fun w_1 =>
 bind1 (gd w_1 (buildS (C.ti Q7).zero [])) fun v27 =>
 iT v24 fun w_2 =>
 gB w_2 Q7 .eql v26 v27 fun v28 =>
 pk v24 v28 (bv false) fun v29 =>
 iT v29 fun w_3 =>
 pk v29 (gdV w_3 v21) (bv false) fun v32 =>
 iT v32 fun w_4 =>
 iT v32 fun w_5 =>
 gG w_5 w_4 Q1 2 c4 fun v35 =>
 iT v32 fun w_6 =>
 gB w_6 Q1 .eql v35 (iv 1) fun v36 =>
 pk v32 v36 (bv false) fun v37 =>
 iT v37 fun w_7 =>
 iT v37 fun w_8 =>
 gG w_8 w_7 Q1 3 c4 fun v40 =>
 iT v37 fun w_9 =>
 gB w_9 Q1 .eql v40 (iv 2) fun v41 =>
 pk v37 v41 (bv false) fun v42 =>
 iT v42 fun w_10 =>
 iT v42 fun w_11 =>
 chkP w_10 w_11 fun _ =>
 iT v42 fun w_12 =>
 bind1 (gd w_12 (bif (w_10 && w_11) then (ofSlots (C.ti Q1) (List.take (C.ti Q1).size (List.drop 5 c4))) else none)) fun v46 =>
 iT v42 fun w_13 =>
 gB w_13 Q1 .eql v46 (iv 1) fun v47 =>
 pk v42 v47 (bv false) fun v48 =>
 iT v48 fun w_14 =>
 iT v48 fun w_15 =>
 chkP w_14 w_15 fun _ =>
 iT v48 fun w_16 =>
 chkP (w_14 && w_15) w_16 fun _ =>
 iT v48 fun w_17 =>
 bind1 (gd w_17 (bif ((w_14 && w_15) && w_16) then (ofSlots (C.ti Q2) (List.take (C.ti Q2).size (List.drop 8 c4))) else none)) fun v53 =>
 iT v48 fun w_18 =>
 gB w_18 Q2 .eql v53 (sv [45, 62]) fun v54 =>
 pk v48 v54 (bv false) fun v55 =>
 iT v55 fun w_19 =>
 iT v55 fun w_20 =>
 cg w_20 Zy [(gdV w_19 v15)] s_3 fun v58 s_4 =>
 pk v55 v58 (bv false) fun v59 =>
 some (.ret v59, s_4) := (Q6 _ _ _).trans (by kernel_rfl)
noncomputable def ZR : Slot → Slot → St → Res := fun x3 x4 s => lpD Q0R [.seqR, .seqR, .seqL, .seqR, .block] Try.f12 [(3, .s x3), (4, .s x4)] s
theorem Q2w : ∀ x3 x4 s_2, ZR x3 x4 s_2 =
 ln Z7 x3 fun v9 =>
 bn Q1 .lss x4 v9 fun v10 =>
 condS v10 (
 ix Ql x3 x4 fun v15 =>
 fa 22 v15 fun v16 =>
 ld Q4 s_2 v16 fun v17 =>
 ca Q39 [v17] s_2 fun v18 s_3 =>
 nt v18 fun v19 =>
 condS v19 (
 some (.ret (bv false), s_3)) (
 nx x4 fun v12 =>
 ZR x3 v12 s_3)) (
 some (.ret (bv true), s_2)) := by intros; unfold ZR; exact (Qc _ _ _ _ _ _).trans (by kernel_rfl)
theorem Q8B (a0 : AV) (s : St) : cw (.f Q0R) [a0] s =
 bx Q4 (.val a0) fun c1 =>
 gA Q4 c1 fun v5 =>
 ca Zb [v5, (iv 0)] s fun v6 s_1 =>
 ZR v6 (iv 0) s_1 := (Q6 _ _ _).trans (by kernel_rfl)
noncomputable def Q06 : Slot → Slot → Slot → Slot → Slot → St → Res := fun x1 x5 x8 x9 x10 s => lpD Q2g [.seqR, .seqR, .seqL, .seqR, .block] Try.f13 [(1, .s x1), (5, .s x5), (8, .s x8), (9, .s x9), (10, .s x10)] s
theorem Q3H : ∀ x1 x5 x8 x9 x10 s_1, Q06 x1 x5 x8 x9 x10 s_1 =
 bn Q1 .lss x10 x9 fun v11 =>
 condS v11 (
 ix Q5 x8 x10 fun v12 =>
 ld Q5 s_1 v12 fun v13 =>
 bx Q5 v13 fun c =>
 pZ Q5 c fun c7 =>
 gC Q2 1 c7 fun v15 =>
 bn Q2 .eql v15 x1 fun v17 =>
 condS v17 (
 gC Q4 6 c7 fun v20 =>
 ca Zz [v20] s_1 fun v21 s_2 =>
 bx Q4 v21 fun c_1 =>
 pt c7 6 c_1 fun c7_1 =>
 gA Q5 c7_1 fun v25 =>
 bs Q5 [v25] fun v26 =>
 ap Q5 s_2 x5 v26 fun v27 s_3 =>
 nx x10 fun v28 =>
 Q06 x1 v27 x8 x9 v28 s_3) (
 nx x10 fun v28_1 =>
 Q06 x1 x5 x8 x9 v28_1 s_1)) (
 some (.ret x5, s_1)) := by intros; unfold Q06; exact (Qc _ _ _ _ _ _).trans (by kernel_rfl)
theorem QaW (a0 : AV) (a1 : AV) (s : St) : cw (.f Q2g) [a0, a1] s =
 ln QB (.val a0) fun v9 =>
 Q06 (.val a1) (.val (.nils)) (.val a0) v9 (iv 0) s := (Q6 _ _ _).trans (by kernel_rfl)
noncomputable def ZK : Slot → Slot → Slot → St → Res := fun x3 x4 x5 s => lpD Q1A [.seqR, .seqR, .seqR, .seqL, .seqR, .block] Try.f14 [(3, .s x3), (4, .s x4), (5, .s x5)] s
theorem Q3r : ∀ x3 x4 x5 s_2, ZK x3 x4 x5 s_2 =
 ln Z7 x4 fun v10 =>
 bn Q1 .lss x5 v10 fun v11 =>
 condS v11 (
 ix Ql x4 x5 fun v16 =>
 fa 22 v16 fun v17 =>
 fa 0 v17 fun v18 =>
 ld Qb s_2 v18 fun v19 =>
 bn Qb .eql v19 (iv 1) fun v20 =>
 iT v20 fun w =>
 iT v20 fun w_1 =>
 iT v20 fun w_2 =>
 iT v20 fun w_3 =>
 bind1 (gd w_3 (ixS (C.ti Ql).size (gdV w_1 x4) (gdV w_2 x5))) fun v25 =>
 iT v20 fun w_4 =>
 bind1 (gd w_4 (faV 22 v25)) fun v26 =>
 iT v20 fun w_5 =>
 bind1 (gd w_5 (faV 1 v26)) fun v27 =>
 iT v20 fun w_6 =>
 bind1 (gd w_6 (ldV (C.ti Q1) false s_2 v27)) fun v28 =>
 iT v20 fun w_7 =>
 cg w_7 Q1o [(gdV w x3), v28] s_2 fun v29 s_3 =>
 iT v20 fun w_8 =>
 gB w_8 Q1 .lss v29 (iv 0) fun v30 =>
 pk v20 v30 (bv false) fun v31 =>
 condS v31 (
 ix Ql x4 x5 fun v35 =>
 fa 22 v35 fun v36 =>
 fa 1 v36 fun v37 =>
 ld Q1 s_3 v37 fun v38 =>
 bs Q1 [v38] fun v39 =>
 ap Q1 s_3 x3 v39 fun v40 s_4 =>
 nx x5 fun v13 =>
 ZK v40 x4 v13 s_4) (
 nx x5 fun v13_1 =>
 ZK x3 x4 v13_1 s_3)) (
 some (.ret x3, s_2)) := by intros; unfold ZK; exact (Qc _ _ _ _ _ _).trans (by kernel_rfl)
theorem Qaz (a0 : AV) (s : St) : cw (.f Q1A) [a0] s =
 bx Q4 (.val a0) fun c1 =>
 gA Q4 c1 fun v6 =>
 ca Zb [v6, (iv 0)] s fun v7 s_1 =>
 ZK (.val (.nils)) v7 (iv 0) s_1 := (Q6 _ _ _).trans (by kernel_rfl)
theorem Qas (a0 : AV) (a1 : AV) (a2 : AV) (a3 : AV) (s : St) : cw (.f Za) [a0, a1, a2, a3] s =
 ca Q27 [(.val a1), (.val (.nils))] s fun v14 s_1 =>
 bd ZU [(1, Q4, v14)] fun v15 =>
 bd Q5 [(0, Q2, (.val a0)), (1, Q2, (.val a1)), (2, Q1, (.val a2)), (3, Q1, (.val a3)), (5, ZU, v15)] fun v16 =>
 bx Q5 v16 fun c =>
 pZ Q5 c fun c8 =>
 gA Q5 c8 fun v => some (.ret v, s_1) := (Q6 _ _ _).trans (by kernel_rfl)
noncomputable def Q0s : List Slot → List Slot → Slot → Slot → Slot → St → Res := fun x1 x2 x10 x11 x12 s => lpD Zz [.seqR, .seqR, .seqL, .seqR, .block] Try.f17 [(1, .var x1), (2, .var x2), (10, .s x10), (11, .s x11), (12, .s x12)] s
theorem Q0n : ∀ x1 x2 x10 x11 x12 s_2, Q0s x1 x2 x10 x11 x12 s_2 =
 bn Q1 .lss x12 x11 fun v13 =>
 condS v13 (
 ix Q4 x10 x12 fun v15 =>
 ld Q4 s_2 v15 fun v16 =>
 bx Q4 v16 fun c_1 =>
 pZ Q4 c_1 fun c4 =>
 gC Q8 3 x1 fun v18 =>
 gA Q4 c4 fun v20 =>
 cn Zz [v20] s_2 fun v21 s_3 =>
 ix Q4 v18 x12 fun v22 =>
 bx Q4 v21 fun c_2 =>
 sto s_3 v22 c_2 fun s_4 =>
 nx x12 fun v23 =>
 Q0s x1 x2 x10 x11 v23 s_4) (
 bindLS (frzSlots C.ti x1 s_2) fun c1_2 s_5 =>
 gA Q4 c1_2 fun v24 =>
 bx Q4 v24 fun c_3 =>
 pt x2 0 c_3 fun c2 =>
 gA Q4 c2 fun v => some (.ret v, s_5)) := by intros; unfold Q0s; exact (Qc _ _ _ _ _ _).trans (by kernel_rfl)
theorem Qaq (a0 : AV) (s : St) : cw (.f Zz) [a0] s =
 bx Q4 (.val a0) fun c1 =>
 gC Q8 3 c1 fun v6 =>
 ca QS [v6] s fun v7 s_1 =>
 bx Q8 v7 fun c =>
 pt c1 3 c fun c1_1 =>
 gC Q8 3 c1_1 fun v10 =>
 ln Q8 v10 fun v11 =>
 Q0s c1_1 ((List.map .val (C.ti Q4).zero)) v10 v11 (iv 0) s_1 := (Q6 _ _ _).trans (by kernel_rfl)
noncomputable def ZQ : List Slot → List Slot → Slot → St → Res := fun x2 x3 x5 s => lpD Q01 [.seqR, .seqR, .seqL, .seqR, .block] Try.f18 [(2, .var x2), (3, .var x3), (5, .s x5)] s
theorem Q2u : ∀ x2 x3 x5 s_1, ZQ x2 x3 x5 s_1 =
 gC Q8 3 x2 fun v36 =>
 ln Q8 v36 fun v37 =>
 bn Q1 .lss x5 v37 fun v38 =>
 condS v38 (
 gC Q8 3 x2 fun v42 =>
 ix Q4 v42 x5 fun v44 =>
 ld Q4 s_1 v44 fun v45 =>
 gC Q8 3 x3 fun v47 =>
 ix Q4 v47 x5 fun v49 =>
 ld Q4 s_1 v49 fun v50 =>
 cn Q01 [v45, v50] s_1 fun v51 s_2 =>
 nt v51 fun v52 =>
 condS v52 (
 some (.ret (bv false), s_2)) (
 nx x5 fun v40 =>
 ZQ x2 x3 v40 s_2)) (
 some (.ret (bv true), s_1)) := by intros; unfold ZQ; exact (Qc _ _ _ _ _ _).trans (by kernel_rfl)
theorem Q8x (a0 : AV) (a1 : AV) (s : St) : cw (.f Q01) [a0, a1] s =
 bx Q4 (.val a0) fun c2 =>
 bx Q4 (.val a1) fun c3 =>
 gC Qb 0 c2 fun v7 =>
 gC Qb 0 c3 fun v9 =>
 bn Qb .neq v7 v9 fun v10 =>
 iF v10 fun w =>
 iF v10 fun w_1 =>
 gG w_1 w Q1 1 c2 fun v13 =>
 iF v10 fun w_2 =>
 iF v10 fun w_3 =>
 gG w_3 w_2 Q1 1 c3 fun v15 =>
 iF v10 fun w_4 =>
 gB w_4 Q1 .neq v13 v15 fun v16 =>
 pk v10 (bv true) v16 fun v17 =>
 iF v17 fun w_5 =>
 iF v17 fun w_6 =>
 gG w_6 w_5 Q2 2 c2 fun v20 =>
 iF v17 fun w_7 =>
 iF v17 fun w_8 =>
 gG w_8 w_7 Q2 2 c3 fun v22 =>
 iF v17 fun w_9 =>
 gB w_9 Q2 .neq v20 v22 fun v23 =>
 pk v17 (bv true) v23 fun v24 =>
 iF v24 fun w_10 =>
 iF v24 fun w_11 =>
 gG w_11 w_10 Q8 3 c2 fun v27 =>
 iF v24 fun w_12 =>
 gL w_12 Q8 v27 fun v28 =>
 iF v24 fun w_13 =>
 iF v24 fun w_14 =>
 gG w_14 w_13 Q8 3 c3 fun v30 =>
 iF v24 fun w_15 =>
 gL w_15 Q8 v30 fun v31 =>
 iF v24 fun w_16 =>
 gB w_16 Q1 .neq v28 v31 fun v32 =>
 pk v24 (bv true) v32 fun v33 =>
 condS v33 (
 some (.ret (bv false), s)) (
 ZQ c2 c3 (iv 0) s) := (Q6 _ _ _).trans (by kernel_rfl)
theorem Q6E (a0 : AV) (s : St) : cw (.f Q0j) [a0] s =
 bx Q5 (.val a0) fun c1 =>
 gC Q2 0 c1 fun v5 =>
 gC Qg 4 c1 fun v7 =>
 bd Qi [(0, Q2, v5), (2, Qg, v7)] fun v8 =>
 bx Qi v8 fun c =>
 pZ Qi c fun c3 =>
 gC Qg 4 c1 fun v10 =>
 iT v10 fun w =>
 iT v10 fun w_1 =>
 chkP w w_1 fun _ =>
 iT v10 fun w_2 =>
 chkP (w && w_1) w_2 fun _ =>
 iT v10 fun w_3 =>
 bind1 (gd w_3 (bif ((w && w_1) && w_2) then (ofSlots (C.ti Q8) (List.take (C.ti Q8).size (List.drop 9 c1))) else none)) fun v15 =>
 iT v10 fun w_4 =>
 gL w_4 Q8 v15 fun v16 =>
 iT v10 fun w_5 =>
 gB w_5 Q1 .eql v16 (iv 2) fun v17 =>
 pk v10 v17 (bv false) fun v18 =>
 condS v18 (
 gC Q8 9 c1 fun v22 =>
 ix Q4 v22 (iv 0) fun v23 =>
 ld Q4 s v23 fun v24 =>
 bx Q4 v24 fun c_1 =>
 pt c3 3 c_1 fun c3_1 =>
 gA Qi c3_1 fun v26 =>
 bx Qi v26 fun c_2 =>
 pZ Qi c_2 fun c2 =>
 gA Qi c2 fun v => some (.ret v, s)) (
 gA Qi c3 fun v26_1 =>
 bx Qi v26_1 fun c_3 =>
 pZ Qi c_3 fun c2_1 =>
 gA Qi c2_1 fun v => some (.ret v, s)) := (Q6 _ _ _).trans (by kernel_rfl)
theorem QaD (a0 : AV) (s : St) : cw (.f Q3a) [a0] s =
 bx Qz (.val a0) fun c1 =>
 bindA (avs c1) fun l1 =>
 ld Qz s (.val (.cp l1)) fun v3 =>
 ca Q26 [v3] s fun v4 s_1 =>
 bind1 (fnS Q25 [(.val (.cp l1))]) fun v5 =>
 ca Q1E [v4, v5] s_1 fun v6 s_2 =>
 bx Q7 v6 fun c =>
 pZ Q7 c fun c2 =>
 gA Q7 c2 fun v => some (.ret v, s_2) := (Q6 _ _ _).trans (by kernel_rfl)
noncomputable def Q1M : List Slot → Slot → Slot → Slot → Slot → St → Res := fun x3 x4 x10 x11 x12 s => lpD Q3D [.seqR, .seqR, .seqL, .seqR, .block] Try.f21 [(3, .var x3), (4, .s x4), (10, .s x10), (11, .s x11), (12, .s x12)] s
theorem Q59 : ∀ x3 x4 x10 x11 x12 s_2, Q1M x3 x4 x10 x11 x12 s_2 =
 bn Q1 .lss x12 x11 fun v13 =>
 condS v13 (
 ix Qf x10 x12 fun v14 =>
 ld Qf s_2 v14 fun v15 =>
 bx Qf v15 fun c =>
 pZ Qf c fun c6 =>
 gA Qf c6 fun v18 =>
 ca QV [x4, v18] s_2 fun v19 s_3 =>
 ex v19 0 fun v20 =>
 ex v19 1 fun v21 =>
 bx Q7 v21 fun c_1 =>
 pZ Q7 c_1 fun c8 =>
 gC Qt 0 c8 fun v23 =>
 bn Qt .neq v23 (iv 0) fun v24 =>
 condS v24 (
 gA Q7 c8 fun v25 =>
 bx Q7 v25 fun c_2 =>
 pt x3 0 c_2 fun c3 =>
 rt [(some (.val (.nils))), (ofSlots (C.ti Q7) (List.take (C.ti Q7).size c3))] s_3) (
 nx x12 fun v27 =>
 Q1M x3 v20 x10 x11 v27 s_3)) (
 bd Q7 [] fun v29 =>
 bx Q7 v29 fun c_3 =>
 pt x3 0 c_3 fun c3_1 =>
 rt [(some x4), (ofSlots (C.ti Q7) (List.take (C.ti Q7).size c3_1))] s_2) := by intros; unfold Q1M; exact (Qc _ _ _ _ _ _).trans (by kernel_rfl)
theorem Qd4 (a0 : AV) (s : St) : cw (.f Q3D) [a0] s =
 ca Q0G [] s fun v9 s_1 =>
 ln Qz (.val a0) fun v11 =>
 Q1M ((List.map .val (C.ti Q7).zero)) v9 (.val a0) v11 (iv 0) s_1 := (Q6 _ _ _).trans (by kernel_rfl)
noncomputable def Qj : Slot → Slot → Slot → Slot → Slot → St → Res := fun x1 x2 x15 x16 x17 s => lpD Qo [.seqR, .seqR, .seqL, .seqR, .block] Try.f22 [(1, .s x1), (2, .s x2), (15, .s x15), (16, .s x16), (17, .s x17)] s
theorem QK : ∀ x1 x2 x15 x16 x17 s_1, Qj x1 x2 x15 x16 x17 s_1 =
 bn Q1 .lss x17 x16 fun v18 =>
 condS v18 (
 ix Q5 x15 x17 fun v20 =>
 ld Q5 s_1 v20 fun v21 =>
 bx Q5 v21 fun c =>
 pZ Q5 c fun c8 =>
 ix Q5 x1 x17 fun v24 =>
 ld Q5 s_1 v24 fun v25 =>
 bx Q5 v25 fun c_1 =>
 pZ Q5 c_1 fun c9 =>
 gA Q5 c8 fun v27 =>
 gA Q5 c9 fun v28 =>
 back (cal cw true (tgtV x2 [v27, v28]) s_1) fun v29 s_2 =>
 nt v29 fun v30 =>
 condS v30 (
 some (.ret (bv false), s_2)) (
 nx x17 fun v31 =>
 Qj x1 x2 x15 x16 v31 s_2)) (
 some (.ret (bv true), s_1)) := by intros; unfold Qj; exact (Qc _ _ _ _ _ _).trans (by kernel_rfl)
theorem ZY (a0 : AV) (a1 : AV) (a2 : AV) (s : St) : cw (.f Qo) [a0, a1, a2] s =
 ln QB (.val a0) fun v11 =>
 ln QB (.val a1) fun v13 =>
 bn Q1 .neq v11 v13 fun v14 =>
 condS v14 (
 some (.ret (bv false), s)) (
 ln QB (.val a0) fun v16 =>
 Qj (.val a1) (.val a2) (.val a0) v16 (iv 0) s) := (Q6 _ _ _).trans (by kernel_rfl)
theorem QaZ (a0 : AV) (a1 : AV) (s : St) : cw (.f Q17) [a0, a1] s =
 bx Q5 (.val a0) fun c2 =>
 bx Q5 (.val a1) fun c3 =>
 gC Q2 0 c2 fun v6 =>
 gC Q2 0 c3 fun v8 =>
 bn Q2 .eql v6 v8 fun v9 =>
 iT v9 fun w =>
 iT v9 fun w_1 =>
 gG w_1 w Q2 1 c2 fun v12 =>
 iT v9 fun w_2 =>
 iT v9 fun w_3 =>
 gG w_3 w_2 Q2 1 c3 fun v14 =>
 iT v9 fun w_4 =>
 gB w_4 Q2 .eql v12 v14 fun v15 =>
 pk v9 v15 (bv false) fun v16 =>
 iT v16 fun w_5 =>
 iT v16 fun w_6 =>
 gG w_6 w_5 Q1 2 c2 fun v19 =>
 iT v16 fun w_7 =>
 iT v16 fun w_8 =>
 gG w_8 w_7 Q1 2 c3 fun v21 =>
 iT v16 fun w_9 =>
 gB w_9 Q1 .eql v19 v21 fun v22 =>
 pk v16 v22 (bv false) fun v23 =>
 iT v23 fun w_10 =>
 iT v23 fun w_11 =>
 gG w_11 w_10 Q1 3 c2 fun v26 =>
 iT v23 fun w_12 =>
 iT v23 fun w_13 =>
 gG w_13 w_12 Q1 3 c3 fun v28 =>
 iT v23 fun w_14 =>
 gB w_14 Q1 .eql v26 v28 fun v29 =>
 pk v23 v29 (bv false) fun v30 =>
 iT v30 fun w_15 =>
 iT v30 fun w_16 =>
 gG w_16 w_15 Qg 4 c2 fun v33 =>
 iT v30 fun w_17 =>
 iT v30 fun w_18 =>
 gG w_18 w_17 Qg 4 c3 fun v35 =>
 iT v30 fun w_19 =>
 gB w_19 Qg .eql v33 v35 fun v36 =>
 pk v30 v36 (bv false) fun v37 =>
 iT v37 fun w_20 =>
 iT v37 fun w_21 =>
 chkP w_20 w_21 fun _ =>
 iT v37 fun w_22 =>
 bind1 (gd w_22 (bif (w_20 && w_21) then (ofSlots (C.ti Q1) (List.take (C.ti Q1).size (List.drop 5 c2))) else none)) fun v41 =>
 iT v37 fun w_23 =>
 iT v37 fun w_24 =>
 chkP w_23 w_24 fun _ =>
 iT v37 fun w_25 =>
 bind1 (gd w_25 (bif (w_23 && w_24) then (ofSlots (C.ti Q1) (List.take (C.ti Q1).size (List.drop 5 c3))) else none)) fun v44 =>
 iT v37 fun w_26 =>
 gB w_26 Q1 .eql v41 v44 fun v45 =>
 pk v37 v45 (bv false) fun v46 =>
 iT v46 fun w_27 =>
 iT v46 fun w_28 =>
 chkP w_27 w_28 fun _ =>
 iT v46 fun w_29 =>
 bind1 (gd w_29 (bif (w_27 && w_28) then (ofSlots (C.ti Q4) (List.take (C.ti Q4).size (List.drop 6 c2))) else none)) fun v50 =>
 iT v46 fun w_30 =>
 iT v46 fun w_31 =>
 chkP w_30 w_31 fun _ =>
 iT v46 fun w_32 =>
 bind1 (gd w_32 (bif (w_30 && w_31) then (ofSlots (C.ti Q4) (List.take (C.ti Q4).size (List.drop 6 c3))) else none)) fun v53 =>
 iT v46 fun w_33 =>
 cg w_33 Q1t [v50, v53] s fun v54 s_1 =>
 pk v46 v54 (bv false) fun v55 =>
 some (.ret v55, s_1) := (Q6 _ _ _).trans (by kernel_rfl)
noncomputable def Q0z : List Slot → Slot → List Slot → St → Res := fun x5_4 x6_4 x18_2 s => pwD QV [.seqR, .scope, .seqR, .seqR, .seqR, .seqR, .seqR, .seqR, .seqR, .seqR, .seqR, .seqR, .seqR] Try.f24 [(5, .var x5_4), (6, .s x6_4), (18, .var x18_2)] s
noncomputable def Q2i : List Slot → List Slot → Slot → Slot → Slot → Slot → Slot → Slot → List Slot → Slot → List Slot → List Slot → List Slot → Slot → Slot → Slot → St → Res := fun x3_4 x5_5 x6_5 x7_4 x8_4 x9_4 x10_4 x13_3 x16_2 x17_2 x18_3 x20_1 x25 x90_2 x91_2 x92_2 s => pwD QV [.seqR, .scope, .seqR, .seqR, .seqR, .seqR, .seqR, .seqR, .seqR, .seqR, .seqR, .seqR, .seqL, .seqR, .block, .loop, .seqR, .seqR, .seqL, .block, .seqR, .seqR, .seqR, .seqR, .seqR, .seqR, .seqR, .seqR] Try.f24 [(3, .var x3_4), (5, .var x5_5), (6, .s x6_5), (7, .s x7_4), (8, .s x8_4), (9, .s x9_4), (10, .s x10_4), (13, .s x13_3), (16, .var x16_2), (17, .s x17_2), (18, .var x18_3), (20, .var x20_1), (25, .var x25), (90, .s x90_2), (91, .s x91_2), (92, .s x92_2)] s
noncomputable def Zs : List Slot → List Slot → Slot → Slot → Slot → Slot → Slot → Slot → List Slot → Slot → List Slot → List Slot → Slot → Slot → Slot → Slot → Slot → St → Res := fun x3_3 x5_3 x6_3 x7_3 x8_3 x9_3 x10_3 x13_2 x16_1 x17_1 x18_1 x20 x21 x22 x90_1 x91_1 x92_1 s => pwD QV [.seqR, .scope, .seqR, .seqR, .seqR, .seqR, .seqR, .seqR, .seqR, .seqR, .seqR, .seqR, .seqL, .seqR, .block, .loop, .seqR, .seqR, .seqL, .block, .seqR, .seqR, .seqR, .seqR] Try.f24 [(3, .var x3_3), (5, .var x5_3), (6, .s x6_3), (7, .s x7_3), (8, .s x8_3), (9, .s x9_3), (10, .s x10_3), (13, .s x13_2), (16, .var x16_1), (17, .s x17_1), (18, .var x18_1), (20, .var x20), (21, .s x21), (22, .s x22), (90, .s x90_1), (91, .s x91_1), (92, .s x92_1)] s
noncomputable def Q19 : List Slot → List Slot → Slot → Slot → Slot → Slot → Slot → Slot → List Slot → Slot → List Slot → Slot → Slot → Slot → St → Res := fun x3_2 x5_2 x6_2 x7_2 x8_2 x9_2 x10_2 x13_1 x16 x17 x18 x90 x91 x92 s => lpD QV [.seqR, .scope, .seqR, .seqR, .seqR, .seqR, .seqR, .seqR, .seqR, .seqR, .seqR, .seqR, .seqL, .seqR, .block] Try.f24 [(3, .var x3_2), (5, .var x5_2), (6, .s x6_2), (7, .s x7_2), (8, .s x8_2), (9, .s x9_2), (10, .s x10_2), (13, .s x13_1), (16, .var x16), (17, .s x17), (18, .var x18), (90, .s x90), (91, .s x91), (92, .s x92)] s
noncomputable def Q0y : List Slot → List Slot → Slot → Slot → Slot → Slot → Slot → Slot → St → Res := fun x3_1 x5_1 x6_1 x7_1 x8_1 x9_1 x10_1 x13 s => pwD QV [.seqR, .scope, .seqR, .seqR, .seqR, .seqR, .seqR, .seqR, .seqR] Try.f24 [(3, .var x3_1), (5, .var x5_1), (6, .s x6_1), (7, .s x7_1), (8, .s x8_1), (9, .s x9_1), (10, .s x10_1), (13, .s x13)] s
noncomputable def ZV : List Slot → List Slot → Slot → Slot → Slot → Slot → Slot → Slot → Slot → Slot → St → Res := fun x3 x5 x6 x7 x8 x9 x10 x34 x35 x36 s => lpD QV [.seqR, .scope, .seqR, .seqR, .seqR, .seqR, .seqL, .seqR, .block] Try.f24 [(3, .var x3), (5, .var x5), (6, .s x6), (7, .s x7), (8, .s x8), (9, .s x9), (10, .s x10), (34, .s x34), (35, .s x35), (36, .s x36)] s
theorem Q4k : ∀ x5_4 x6_4 x18_2 s_10, Q0z x5_4 x6_4 x18_2 s_10 =
 gC Qt 0 x18_2 fun v165 =>
 bn Qt .neq v165 (iv 0) fun v166 =>
 condS v166 (
 gA Q7 x18_2 fun v167 =>
 bx Q7 v167 fun c_5 =>
 pt x5_4 0 c_5 fun c5_1 =>
 rt [(some (.val (.nils))), (ofSlots (C.ti Q7) (List.take (C.ti Q7).size c5_1))] s_10) (
 bd Q7 [] fun v169 =>
 bx Q7 v169 fun c_6 =>
 pt x5_4 0 c_6 fun c5_2 =>
 rt [(some x6_4), (ofSlots (C.ti Q7) (List.take (C.ti Q7).size c5_2))] s_10) := by intros; unfold Q0z; exact (Q1p _).trans (by kernel_rfl)
theorem Q4l : ∀ x3_4 x5_5 x6_5 x7_4 x8_4 x9_4 x10_4 x13_3 x16_2 x17_2 x18_3 x20_1 x25 x90_2 x91_2 x92_2 s_14, Q2i x3_4 x5_5 x6_5 x7_4 x8_4 x9_4 x10_4 x13_3 x16_2 x17_2 x18_3 x20_1 x25 x90_2 x91_2 x92_2 s_14 =
 gC Q2 0 x20_1 fun v149 =>
 gC Qg 2 x20_1 fun v154 =>
 gA Q4 x25 fun v156 =>
 bd ZU [(0, Q1, x17_2), (1, Q4, v156)] fun v157 =>
 bd Q5 [(0, Q2, v149), (1, Q2, x13_3), (2, Q1, x9_4), (3, Q1, x10_4), (4, Qg, v154), (5, ZU, v157)] fun v158 =>
 bs Q5 [v158] fun v159 =>
 ap Q5 s_14 x6_5 v159 fun v160 s_15 =>
 nx x9_4 fun v162 =>
 nx x92_2 fun v163 =>
 Q19 x3_4 x5_5 v160 x7_4 x8_4 v162 x10_4 x13_3 x16_2 x17_2 x18_3 x90_2 x91_2 v163 s_15 := by intros; unfold Q2i; exact (Q1p _).trans (by kernel_rfl)
theorem Q2a : ∀ x3_3 x5_3 x6_3 x7_3 x8_3 x9_3 x10_3 x13_2 x16_1 x17_1 x18_1 x20 x21 x22 x90_1 x91_1 x92_1 s_9, Zs x3_3 x5_3 x6_3 x7_3 x8_3 x9_3 x10_3 x13_2 x16_1 x17_1 x18_1 x20 x21 x22 x90_1 x91_1 x92_1 s_9 =
 bn Qt .neq x21 (iv 0) fun v128 =>
 condS v128 (
 gC Q1 1 x20 fun v131 =>
 bd Q7 [(0, Qt, x21), (1, Q1, v131), (2, Q2, x22)] fun v133 =>
 bx Q7 v133 fun c_4 =>
 pt x18_1 0 c_4 fun c18 =>
 Q0z x5_3 x6_3 c18 s_9) (
 gC Q2 0 x20 fun v136 =>
 lk Q2 Q1 s_9 x8_3 v136 false fun v137 =>
 nx v137 fun v138 =>
 upd2 Q2 Q1 s_9 x8_3 v136 v138 fun _ s_11 =>
 gA Q4 x16_1 fun v139 =>
 ca Q7m [v139, (.val (.nils))] s_11 fun v140 s_12 =>
 bx Q4 v140 fun c_7 =>
 pZ Q4 c_7 fun c25 =>
 gC Qg 2 x20 fun v142 =>
 condS v142 (
 gC Q4 3 x20 fun v144 =>
 gA Q4 x16_1 fun v145 =>
 ca Q8Y [v144, v145] s_12 fun v146 s_13 =>
 bx Q4 v146 fun c_8 =>
 pt c25 0 c_8 fun c25_1 =>
 Q2i x3_3 x5_3 x6_3 x7_3 x8_3 x9_3 x10_3 x13_2 x16_1 x17_1 x18_1 x20 c25_1 x90_1 x91_1 x92_1 s_13) (
 Q2i x3_3 x5_3 x6_3 x7_3 x8_3 x9_3 x10_3 x13_2 x16_1 x17_1 x18_1 x20 c25 x90_1 x91_1 x92_1 s_12)) := by intros; unfold Zs; exact (Q1p _).trans (by kernel_rfl)
theorem Zw : ∀ x3_2 x5_2 x6_2 x7_2 x8_2 x9_2 x10_2 x13_1 x16 x17 x18 x90 x91 x92 s_8, Q19 x3_2 x5_2 x6_2 x7_2 x8_2 x9_2 x10_2 x13_1 x16 x17 x18 x90 x91 x92 s_8 =
 bn Q1 .lss x92 x91 fun v93 =>
 condS v93 (
 ix Qi x90 x92 fun v94 =>
 ld Qi s_8 v94 fun v95 =>
 bx Qi v95 fun c_3 =>
 pZ Qi c_3 fun c20 =>
 gC Q2 0 c20 fun v97 =>
 gC Q2 0 c20 fun v101 =>
 lk Q2 Q1 s_8 x8_2 v101 false fun v102 =>
 bn Q1 .gtr v102 (iv 0) fun v103 =>
 condS v103 (
 Zs x3_2 x5_2 x6_2 x7_2 x8_2 x9_2 x10_2 x13_1 x16 x17 x18 c20 (iv 9) v97 x90 x91 x92 s_8) (
 gC Qd 0 x3_2 fun v106 =>
 bn Qd .eql v106 (iv 4) fun v107 =>
 iT v107 fun w_3 =>
 iT v107 fun w_4 =>
 gB w_4 Q1 .gtr (gdV w_3 x9_2) (iv 1023) fun v110 =>
 pk v107 v110 (bv false) fun v111 =>
 condS v111 (
 Zs x3_2 x5_2 x6_2 x7_2 x8_2 x9_2 x10_2 x13_1 x16 x17 x18 c20 (iv 19) v97 x90 x91 x92 s_8) (
 gC Qg 2 c20 fun v114 =>
 condS v114 (
 gC Q4 3 c20 fun v119 =>
 ca Q37 [x7_2, x17, v119] s_8 fun v120 s_16 =>
 ex v120 0 fun v121 =>
 ex v120 1 fun v122 =>
 bn Qt .neq v121 (iv 0) fun v124 =>
 condS v124 (
 Zs x3_2 x5_2 x6_2 x7_2 x8_2 x9_2 x10_2 x13_1 x16 x17 x18 c20 v121 v122 x90 x91 x92 s_16) (
 Zs x3_2 x5_2 x6_2 x7_2 x8_2 x9_2 x10_2 x13_1 x16 x17 x18 c20 (iv 0) v97 x90 x91 x92 s_16)) (
 Zs x3_2 x5_2 x6_2 x7_2 x8_2 x9_2 x10_2 x13_1 x16 x17 x18 c20 (iv 0) v97 x90 x91 x92 s_8)))) (
 Q0z x5_2 x6_2 x18 s_8) := by intros; unfold Q19; exact (Qc _ _ _ _ _ _).trans (by kernel_rfl)
theorem Q96 : ∀ x3_1 x5_1 x6_1 x7_1 x8_1 x9_1 x10_1 x13 s_6, Q0y x3_1 x5_1 x6_1 x7_1 x8_1 x9_1 x10_1 x13 s_6 =
 gA Qf x3_1 fun v85 =>
 ca Q16 [v85] s_6 fun v86 s_7 =>
 ex v86 0 fun v87 =>
 ex v86 1 fun v88 =>
 bx Q4 v87 fun c_2 =>
 pZ Q4 c_2 fun c16 =>
 gC Qr 4 x3_1 fun v90 =>
 ln Qr v90 fun v91 =>
 Q19 x3_1 x5_1 x6_1 x7_1 x8_1 x9_1 x10_1 x13 c16 v88 ((List.map .val (C.ti Q7).zero)) v90 v91 (iv 0) s_7 := by intros; unfold Q0y; exact (Q1p _).trans (by kernel_rfl)
theorem Q4m : ∀ x3 x5 x6 x7 x8 x9 x10 x34 x35 x36 s_3, ZV x3 x5 x6 x7 x8 x9 x10 x34 x35 x36 s_3 =
 bn Q1 .lss x36 x35 fun v37 =>
 condS v37 (
 ix Q5 x34 x36 fun v38 =>
 ld Q5 s_3 v38 fun v39 =>
 bx Q5 v39 fun c =>
 pZ Q5 c fun c12 =>
 gC Q2 0 c12 fun v42 =>
 lk Q2 Q1 s_3 x8 v42 false fun v43 =>
 nx v43 fun v44 =>
 upd2 Q2 Q1 s_3 x8 v42 v44 fun _ s_4 =>
 gC Qd 0 x3 fun v46 =>
 bn Qd .eql v46 (iv 4) fun v47 =>
 iT v47 fun w =>
 iT v47 fun w_1 =>
 gG w_1 w Q2 1 c12 fun v50 =>
 iT v47 fun w_2 =>
 gB w_2 Q2 .eql v50 (sv [101, 120, 110]) fun v51 =>
 pk v47 v51 (bv false) fun v52 =>
 condS v52 (
 nx x9 fun v54 =>
 nx x36 fun v55 =>
 ZV x3 x5 x6 x7 x8 v54 x10 x34 x35 v55 s_4) (
 nx x36 fun v55_1 =>
 ZV x3 x5 x6 x7 x8 x9 x10 x34 x35 v55_1 s_4)) (
 gC Q2 2 x3 fun v57 =>
 gC Qd 0 x3 fun v59 =>
 bn Qd .eql v59 (iv 3) fun v63 =>
 condS v63 (
 gC Q2 2 x3 fun v67 =>
 lk Q2 Q1 s_3 x7 v67 true fun v68 =>
 ex v68 0 fun v69 =>
 ex v68 1 fun v70 =>
 condS v70 (
 gC Q1 1 x3 fun v73 =>
 gC Q2 2 x3 fun v75 =>
 bd Q7 [(0, Qt, (iv 9)), (1, Q1, v73), (2, Q2, v75)] fun v76 =>
 bx Q7 v76 fun c_1 =>
 pt x5 0 c_1 fun c5 =>
 rt [(some (.val (.nils))), (ofSlots (C.ti Q7) (List.take (C.ti Q7).size c5))] s_3) (
 gC Q2 2 x3 fun v79 =>
 gC Q1 3 x3 fun v81 =>
 upd2 Q2 Q1 s_3 x7 v79 v81 fun _ s_5 =>
 Q0y x3 x5 x6 x7 x8 x9 x10 v57 s_5)) (
 bn Qd .eql v59 (iv 4) fun v83 =>
 condS v83 (
 Q0y x3 x5 x6 x7 x8 x9 (iv 0) (sv [101, 120, 110]) s_3) (
 bd Q7 [] fun v61 =>
 bx Q7 v61 fun c_9 =>
 pt x5 0 c_9 fun c5_3 =>
 rt [(some x6), (ofSlots (C.ti Q7) (List.take (C.ti Q7).size c5_3))] s_3))) := by intros; unfold ZV; exact (Qc _ _ _ _ _ _).trans (by kernel_rfl)
theorem Qc1 (a0 : AV) (a1 : AV) (s : St) : cw (.f QV) [a0, a1] s =
 bx Qf (.val a1) fun c3 =>
 ca Q1l [(.val a0)] s fun v27 s_1 =>
 ca Q1y [(.val a0)] s_1 fun v29 s_2 =>
 gC Qr 4 c3 fun v32 =>
 ln Qr v32 fun v33 =>
 ln QB (.val a0) fun v35 =>
 ZV c3 ((List.map .val (C.ti Q7).zero)) v27 v29 (.val (.mp s_2.locs.length)) (iv 0) v33 (.val a0) v35 (iv 0) (St.addLoc s_2 (.map [] 0)) := (Q6 _ _ _).trans (by kernel_rfl)
noncomputable def Q0t : Slot → List Slot → Slot → Slot → St → Res := fun x1 x2 x5 x6 s => lpD Zb [.seqR, .seqR, .seqL, .seqR, .block] Try.f25 [(1, .s x1), (2, .var x2), (5, .s x5), (6, .s x6)] s
theorem Q3q : ∀ x1 x2 x5 x6 s_1, Q0t x1 x2 x5 x6 s_1 =
 gC Q8 3 x2 fun v13 =>
 ln Q8 v13 fun v14 =>
 bn Q1 .lss x6 v14 fun v15 =>
 condS v15 (
 gC Q8 3 x2 fun v20 =>
 ix Q4 v20 x6 fun v22 =>
 ld Q4 s_1 v22 fun v23 =>
 ca Zb [v23, x1] s_1 fun v25 s_2 =>
 ap Ql s_2 x5 v25 fun v26 s_3 =>
 nx x6 fun v17 =>
 Q0t x1 x2 v26 v17 s_3) (
 some (.ret x5, s_1)) := by intros; unfold Q0t; exact (Qc _ _ _ _ _ _).trans (by kernel_rfl)
theorem Qax (a0 : AV) (a1 : AV) (s : St) : cw (.f Zb) [a0, a1] s =
 bx Q4 (.val a0) fun c2 =>
 gA Q4 c2 fun v7 =>
 bd Ql [(0, Q1, (iv 4)), (22, Q4, v7), (2, Q1, (.val a1))] fun v9 =>
 bs Ql [v9] fun v10 =>
 Q0t (.val a1) c2 v10 (iv 0) s := (Q6 _ _ _).trans (by kernel_rfl)
theorem QaA (a0 : AV) (s : St) : cw (.f Q39) [a0] s =
 bx Q4 (.val a0) fun c1 =>
 gC Qb 0 c1 fun v6 =>
 bn Qb .eql v6 (iv 1) fun v7 =>
 condS v7 (
 gC Q1 1 c1 fun v9 =>
 bn Q1 .geq v9 (iv 0) fun v10 =>
 iT v10 fun w =>
 iT v10 fun w_1 =>
 gG w_1 w Q2 2 c1 fun v13 =>
 iT v10 fun w_2 =>
 gB w_2 Q2 .eql v13 (sv []) fun v14 =>
 pk v10 v14 (bv false) fun v15 =>
 iT v15 fun w_3 =>
 iT v15 fun w_4 =>
 gG w_4 w_3 Q8 3 c1 fun v18 =>
 iT v15 fun w_5 =>
 gL w_5 Q8 v18 fun v19 =>
 iT v15 fun w_6 =>
 gB w_6 Q1 .eql v19 (iv 0) fun v20 =>
 pk v15 v20 (bv false) fun v21 =>
 some (.ret v21, s)) (
 gC Qb 0 c1 fun v23 =>
 bn Qb .neq v23 (iv 2) fun v24 =>
 iF v24 fun w_7 =>
 iF v24 fun w_8 =>
 gG w_8 w_7 Q1 1 c1 fun v27 =>
 iF v24 fun w_9 =>
 gB w_9 Q1 .neq v27 (iv 0) fun v28 =>
 pk v24 (bv true) v28 fun v29 =>
 condS v29 (
 some (.ret (bv false), s)) (
 gC Q2 2 c1 fun v31 =>
 bn Q2 .neq v31 (sv [114, 101, 102]) fun v32 =>
 iT v32 fun w_10 =>
 iT v32 fun w_11 =>
 gG w_11 w_10 Q2 2 c1 fun v35 =>
 iT v32 fun w_12 =>
 gB w_12 Q2 .neq v35 (sv [45, 62]) fun v36 =>
 pk v32 v36 (bv false) fun v37 =>
 iT v37 fun w_13 =>
 iT v37 fun w_14 =>
 gG w_14 w_13 Q2 2 c1 fun v40 =>
 iT v37 fun w_15 =>
 gB w_15 Q2 .neq v40 (sv [42]) fun v41 =>
 pk v37 v41 (bv false) fun v42 =>
 iT v42 fun w_16 =>
 iT v42 fun w_17 =>
 gG w_17 w_16 Q2 2 c1 fun v45 =>
 iT v42 fun w_18 =>
 cg w_18 Q42 [v45] s fun v46 s_1 =>
 iT v42 fun w_19 =>
 gN w_19 v46 fun v47 =>
 pk v42 v47 (bv false) fun v48 =>
 condS v48 (
 some (.ret (bv false), s_1)) (
 gC Q2 2 c1 fun v51 =>
 ca Q1z [v51] s_1 fun v52 s_2 =>
 ex v52 0 fun v53 =>
 ex v52 1 fun v54 =>
 gC Q8 3 c1 fun v56 =>
 ln Q8 v56 fun v57 =>
 bn Q1 .geq v57 v53 fun v59 =>
 iT v59 fun w_20 =>
 iT v59 fun w_21 =>
 gG w_21 w_20 Q8 3 c1 fun v62 =>
 iT v59 fun w_22 =>
 gL w_22 Q8 v62 fun v63 =>
 iT v59 fun w_23 =>
 iT v59 fun w_24 =>
 gB w_24 Q1 .leq v63 (gdV w_23 v54) fun v65 =>
 pk v59 v65 (bv false) fun v66 =>
 some (.ret v66, s_2)))) := (Q6 _ _ _).trans (by kernel_rfl)
noncomputable def Q0d : Slot → Slot → Slot → St → Res := fun x0 x1 x5 s => lpD Q1o [.seqR, .seqL, .seqR, .block] Try.f27 [(0, .s x0), (1, .s x1), (5, .s x5)] s
theorem Q2M : ∀ x0 x1 x5 s_1, Q0d x0 x1 x5 s_1 =
 ln Q29 x0 fun v8 =>
 bn Q1 .lss x5 v8 fun v9 =>
 condS v9 (
 ix Q1 x0 x5 fun v14 =>
 ld Q1 s_1 v14 fun v15 =>
 bn Q1 .eql v15 x1 fun v17 =>
 condS v17 (
 some (.ret x5, s_1)) (
 nx x5 fun v11 =>
 Q0d x0 x1 v11 s_1)) (
 some (.ret (iv (-1)), s_1)) := by intros; unfold Q0d; exact (Qc _ _ _ _ _ _).trans (by kernel_rfl)
theorem Q9m (a0 : AV) (a1 : AV) (s : St) : cw (.f Q1o) [a0, a1] s =
 Q0d (.val a0) (.val a1) (iv 0) s := (Q6 _ _ _).trans (by kernel_rfl)
noncomputable def Q3w : List Slot → List Slot → Slot → Slot → Slot → St → Res := fun x4 x5 x10 x11 x12 s => lpD Q27 [.seqR, .seqR, .seqL, .seqR, .block] Try.f28 [(4, .var x4), (5, .var x5), (10, .s x10), (11, .s x11), (12, .s x12)] s
theorem Q7b : ∀ x4 x5 x10 x11 x12 s_1, Q3w x4 x5 x10 x11 x12 s_1 =
 bn Q1 .lss x12 x11 fun v13 =>
 condS v13 (
 ix Q4 x10 x12 fun v14 =>
 ld Q4 s_1 v14 fun v15 =>
 bx Q4 v15 fun c_1 =>
 pZ Q4 c_1 fun c7 =>
 gC Q8 3 x5 fun v17 =>
 gA Q4 c7 fun v18 =>
 cn Q28 [v18] s_1 fun v19 s_2 =>
 bs Q4 [v19] fun v20 =>
 ap Q4 s_2 v17 v20 fun v21 s_3 =>
 bx Q8 v21 fun c_2 =>
 pt x5 3 c_2 fun c5_1 =>
 nx x12 fun v23 =>
 Q3w x4 c5_1 x10 x11 v23 s_3) (
 gA Q4 x5 fun v24 =>
 bx Q4 v24 fun c_3 =>
 pt x4 0 c_3 fun c4 =>
 gA Q4 c4 fun v => some (.ret v, s_1)) := by intros; unfold Q3w; exact (Qc _ _ _ _ _ _).trans (by kernel_rfl)
theorem QfO (a0 : AV) (a1 : AV) (s : St) : cw (.f Q27) [a0, a1] s =
 bd Q4 [(0, Qb, (iv 2)), (2, Q2, (.val a0))] fun v9 =>
 bx Q4 v9 fun c =>
 pZ Q4 c fun c5 =>
 ln Q8 (.val a1) fun v11 =>
 Q3w ((List.map .val (C.ti Q4).zero)) c5 (.val a1) v11 (iv 0) s := (Q6 _ _ _).trans (by kernel_rfl)
theorem ZX (a0 : AV) (s : St) : cw (.f QS) [a0] s =
 bn Q8 .eql (.val a0) (.val (.nils)) fun v4 =>
 condS v4 (
 some (.ret (.val (.nils)), s)) (
 bs Q4 [] fun v5 =>
 bind2 (appendV Q4 (C.ti Q4) s v5 (.val a0)) fun v7 s_1 =>
 some (.ret v7, s_1)) := (Q6 _ _ _).trans (by kernel_rfl)
noncomputable def Q2H (x4 : Slot) : Am.Obj := .loop .ready none Q1E [(4, .s x4)] [16] (rngAsg (codeAt [.seqR, .seqR, .seqR, .seqL, .seqR, .block] (body Try.f30))) (rngBody (codeAt [.seqR, .seqR, .seqR, .seqL, .seqR, .block] (body Try.f30)))
theorem Q7F (x4 : Slot) (y16 : AV) (loc : Nat) (s_5 : St) : yldR C (Q2H x4) loc [y16] s_5 = noPan (
 bx QA (.val y16) fun c_2 =>
 pZ QA c_2 fun c5 =>
 bindS (beginL loc s_5) fun s_6 =>
 gA QA c5 fun v17 =>
 ca ZM [v17] s_6 fun v18 s_7 =>
 bx Q7 v18 fun c_3 =>
 pZ Q7 c_3 fun c6 =>
 gC Qt 0 c6 fun v20 =>
 bn Qt .neq v20 (iv 0) fun v21 =>
 condS v21 (
 gA Q7 c6 fun v22 =>
 bx Q7 v22 fun c_4 =>
 sto s_7 x4 c_4 fun s_8 =>
 bindS (setLoop loc .done (some .ret) s_8) fun s_9 =>
 some (.ret (bv false), s_9)) (
 bindS (setLoop loc .ready none s_7) fun s_10 =>
 some (.ret (bv true), s_10))) := by kernel_rfl
theorem QaI (a0 : AV) (a1 : AV) (s : St) : cw (.f Q1E) [a0, a1] s =
 ca Q1B [(.val a0), (iv 8193)] (St.addLoc s (.var (List.map .val (C.ti Q7).zero))) fun v8 s_1 =>
 bn Q1 .gtr v8 (iv 8192) fun v9 =>
 condS v9 (
 bd Q7 [(0, Qt, (iv 4))] fun v10 =>
 bx Q7 v10 fun c =>
 sto s_1 (.val (.vp s.locs.length 0)) c fun s_2 =>
 bind1 (ldV (C.ti Q7) false s_2 (.val (.vp s.locs.length 0))) fun v => some (.ret v, s_2)) (
 back (cal cw true (tgtV (.val a1) []) s_1) fun v12 s_3 =>
 bn Q1 .gtr v12 (iv 100) fun v13 =>
 condS v13 (
 bd Q7 [(0, Qt, (iv 7))] fun v14 =>
 bx Q7 v14 fun c_1 =>
 sto s_3 (.val (.vp s.locs.length 0)) c_1 fun s_4 =>
 bind1 (ldV (C.ti Q7) false s_4 (.val (.vp s.locs.length 0))) fun v => some (.ret v, s_4)) (
 rangeC C cw (.val a0) s_3.locs.length (St.addLoc s_3 (Q2H (.val (.vp s.locs.length 0)))) fun s_11 =>
 endX s_3.locs.length s_11 (fun s_12 =>
 bd Q7 [] fun v23 =>
 bx Q7 v23 fun c_5 =>
 sto s_12 (.val (.vp s.locs.length 0)) c_5 fun s_15 =>
 bind1 (ldV (C.ti Q7) false s_15 (.val (.vp s.locs.length 0))) fun v => some (.ret v, s_15)) (fun s_13 =>
 bind1 (ldV (C.ti Q7) false s_13 (.val (.vp s.locs.length 0))) fun v => some (.ret v, s_13)) (fun j s_14 =>
 bif Nat.beq j 0 then (
 bd Q7 [] fun v23_1 =>
 bx Q7 v23_1 fun c_6 =>
 sto s_14 (.val (.vp s.locs.length 0)) c_6 fun s_16 =>
 bind1 (ldV (C.ti Q7) false s_16 (.val (.vp s.locs.length 0))) fun v => some (.ret v, s_16)) else (
(none : Res))))) := (Q6 _ _ _).trans (by kernel_rfl)
theorem Q8N (a0 : AV) (s : St) : cw (.f Q26) [a0] s =
 bx Qz (.val a0) fun c1 =>
 bindA (avs c1) fun l1 =>
 bind1 (fnS Q1q [(.val (.cp l1))]) fun v3 =>
 some (.ret v3, s) := (Q6 _ _ _).trans (by kernel_rfl)
theorem Q8H (a0 : AV) (s : St) : cw (.f Q25) [a0] s =
 ld Qz s (.val a0) fun v2 =>
 ca QL [v2] s fun v3 s_1 =>
 some (.ret v3, s_1) := (Q6 _ _ _).trans (by kernel_rfl)
noncomputable def Z8 : Slot → Slot → Slot → Slot → Slot → Slot → Slot → Slot → St → Res := fun x3_2 x6_1 x11_2 x12_2 x13_2 x35 x36 x37 s => lpD QL [.seqR, .seqR, .seqL, .seqR, .block, .loop, .seqR, .seqR, .seqL, .block, .seqR, .seqR, .seqR, .seqL, .seqR, .block] Try.f33 [(3, .s x3_2), (6, .s x6_1), (11, .s x11_2), (12, .s x12_2), (13, .s x13_2), (35, .s x35), (36, .s x36), (37, .s x37)] s
noncomputable def ZD : Slot → List Slot → Slot → Slot → Slot → Slot → Slot → Slot → Slot → St → Res := fun x3_1 x5 x6 x11_1 x12_1 x13_1 x21 x22 x23 s => lpD QL [.seqR, .seqR, .seqL, .seqR, .block, .loop, .seqR, .seqR, .seqL, .block, .seqR, .seqR, .seqL, .seqR, .block] Try.f33 [(3, .s x3_1), (5, .var x5), (6, .s x6), (11, .s x11_1), (12, .s x12_1), (13, .s x13_1), (21, .s x21), (22, .s x22), (23, .s x23)] s
noncomputable def QR : Slot → Slot → Slot → Slot → St → Res := fun x3 x11 x12 x13 s => lpD QL [.seqR, .seqR, .seqL, .seqR, .block] Try.f33 [(3, .s x3), (11, .s x11), (12, .s x12), (13, .s x13)] s
theorem Q21 : ∀ x3_2 x6_1 x11_2 x12_2 x13_2 x35 x36 x37 s_5, Z8 x3_2 x6_1 x11_2 x12_2 x13_2 x35 x36 x37 s_5 =
 bn Q1 .lss x37 x36 fun v38 =>
 condS v38 (
 ix Qi x35 x37 fun v39 =>
 ld Qi s_5 v39 fun v40 =>
 bx Qi v40 fun c_2 =>
 pZ Qi c_2 fun c10 =>
 gC Qg 2 c10 fun v42 =>
 condS v42 (
 gC Q4 3 c10 fun v45 =>
 ca ZE [v45] s_5 fun v46 s_6 =>
 bind1 (max2 x6_1 v46) fun v47 =>
 nx x37 fun v48 =>
 Z8 x3_2 v47 x11_2 x12_2 x13_2 x35 x36 v48 s_6) (
 nx x37 fun v48_1 =>
 Z8 x3_2 x6_1 x11_2 x12_2 x13_2 x35 x36 v48_1 s_5)) (
 nx x6_1 fun v51 =>
 bind1 (max2 x3_2 v51) fun v52 =>
 nx x13_2 fun v53 =>
 QR v52 x11_2 x12_2 v53 s_5) := by intros; unfold Z8; exact (Qc _ _ _ _ _ _).trans (by kernel_rfl)
theorem Q20 : ∀ x3_1 x5 x6 x11_1 x12_1 x13_1 x21 x22 x23 s_3, ZD x3_1 x5 x6 x11_1 x12_1 x13_1 x21 x22 x23 s_3 =
 bn Q1 .lss x23 x22 fun v24 =>
 condS v24 (
 ix Q1J x21 x23 fun v25 =>
 ld Q1J s_3 v25 fun v26 =>
 bx Q1J v26 fun c_1 =>
 pZ Q1J c_1 fun c8 =>
 gC Zn 2 c8 fun v29 =>
 bs Zn [v29] fun v30 =>
 ca QQ [v30] s_3 fun v31 s_4 =>
 bind1 (max2 x6 v31) fun v32 =>
 nx x23 fun v33 =>
 ZD x3_1 x5 v32 x11_1 x12_1 x13_1 x21 x22 v33 s_4) (
 gC Qr 4 x5 fun v35 =>
 ln Qr v35 fun v36 =>
 Z8 x3_1 x6 x11_1 x12_1 x13_1 v35 v36 (iv 0) s_3) := by intros; unfold ZD; exact (Qc _ _ _ _ _ _).trans (by kernel_rfl)
theorem Q1Z : ∀ x3 x11 x12 x13 s_1, QR x3 x11 x12 x13 s_1 =
 bn Q1 .lss x13 x12 fun v14 =>
 condS v14 (
 ix Qf x11 x13 fun v15 =>
 ld Qf s_1 v15 fun v16 =>
 bx Qf v16 fun c =>
 pZ Qf c fun c5 =>
 gC Qx 5 c5 fun v18 =>
 ca QQ [v18] s_1 fun v19 s_2 =>
 gC ZG 6 c5 fun v21 =>
 ln ZG v21 fun v22 =>
 ZD x3 c5 v19 x11 x12 x13 v21 v22 (iv 0) s_2) (
 some (.ret x3, s_1)) := by intros; unfold QR; exact (Qc _ _ _ _ _ _).trans (by kernel_rfl)
theorem Q3t (a0 : AV) (s : St) : cw (.f QL) [a0] s =
 ln Qz (.val a0) fun v12 =>
 QR (iv 0) (.val a0) v12 (iv 0) s := (Q6 _ _ _).trans (by kernel_rfl)
theorem Qdu (a0 : AV) (a1 : AV) (s : St) : cw (.f Q1t) [a0, a1] s =
 bx Q4 (.val a0) fun c2 =>
 bx Q4 (.val a1) fun c3 =>
 gC Qb 0 c2 fun v6 =>
 gC Qb 0 c3 fun v8 =>
 bn Qb .eql v6 v8 fun v9 =>
 iT v9 fun w =>
 iT v9 fun w_1 =>
 gG w_1 w Q1 1 c2 fun v12 =>
 iT v9 fun w_2 =>
 iT v9 fun w_3 =>
 gG w_3 w_2 Q1 1 c3 fun v14 =>
 iT v9 fun w_4 =>
 gB w_4 Q1 .eql v12 v14 fun v15 =>
 pk v9 v15 (bv false) fun v16 =>
 iT v16 fun w_5 =>
 iT v16 fun w_6 =>
 gG w_6 w_5 Q2 2 c2 fun v19 =>
 iT v16 fun w_7 =>
 iT v16 fun w_8 =>
 gG w_8 w_7 Q2 2 c3 fun v21 =>
 iT v16 fun w_9 =>
 gB w_9 Q2 .eql v19 v21 fun v22 =>
 pk v16 v22 (bv false) fun v23 =>
 iT v23 fun w_10 =>
 iT v23 fun w_11 =>
 gG w_11 w_10 Q8 3 c2 fun v26 =>
 iT v23 fun w_12 =>
 iT v23 fun w_13 =>
 gG w_13 w_12 Q8 3 c3 fun v28 =>
 iT v23 fun w_14 =>
 cg w_14 QC [v26, v28, (.val (.fn Q1t []))] s fun v29 s_1 =>
 pk v23 v29 (bv false) fun v30 =>
 some (.ret v30, s_1) := (Q6 _ _ _).trans (by kernel_rfl)
noncomputable def Q07 : Slot → Slot → Slot → Slot → St → Res := fun x3 x9 x10 x11 s => lpD Q1l [.seqR, .seqR, .seqL, .seqR, .block] Try.f35 [(3, .s x3), (9, .s x9), (10, .s x10), (11, .s x11)] s
theorem Q2J : ∀ x3 x9 x10 x11 s_2, Q07 x3 x9 x10 x11 s_2 =
 bn Q1 .lss x11 x10 fun v12 =>
 condS v12 (
 ix Q5 x9 x11 fun v13 =>
 ld Q5 s_2 v13 fun v14 =>
 bx Q5 v14 fun c =>
 pZ Q5 c fun c5 =>
 gC Q4 6 c5 fun v17 =>
 ca Zz [v17] s_2 fun v18 s_3 =>
 bx Q4 v18 fun c_1 =>
 pt c5 6 c_1 fun c5_1 =>
 gA Q5 c5_1 fun v22 =>
 bs Q5 [v22] fun v23 =>
 ap Q5 s_3 x3 v23 fun v24 s_4 =>
 nx x11 fun v25 =>
 Q07 v24 x9 x10 v25 s_4) (
 some (.ret x3, s_2)) := by intros; unfold Q07; exact (Qc _ _ _ _ _ _).trans (by kernel_rfl)
theorem Q9a (a0 : AV) (s : St) : cw (.f Q1l) [a0] s =
 ln QB (.val a0) fun v7 =>
 bind2 (makeS Q5 (C.ti Q5) s (iv 0) v7) fun v8 s_1 =>
 ln QB (.val a0) fun v10 =>
 Q07 v8 (.val a0) v10 (iv 0) s_1 := (Q6 _ _ _).trans (by kernel_rfl)
noncomputable def ZI : Slot → Slot → Slot → Slot → St → Res := fun x3 x10 x11 x12 s => lpD Q1y [.seqR, .seqR, .seqL, .seqR, .block] Try.f36 [(3, .s x3), (10, .s x10), (11, .s x11), (12, .s x12)] s
theorem Q3k : ∀ x3 x10 x11 x12 s_8, ZI x3 x10 x11 x12 s_8 =
 bn Q1 .lss x12 x11 fun v13 =>
 condS v13 (
 ix Q5 x10 x12 fun v14 =>
 ld Q5 s_8 v14 fun v15 =>
 bx Q5 v15 fun c =>
 pZ Q5 c fun c5 =>
 gC Q2 1 c5 fun v19 =>
 lk Q2 Q1 s_8 x3 v19 true fun v20 =>
 ex v20 0 fun v21 =>
 ex v20 1 fun v22 =>
 nt v22 fun v24 =>
 condS v24 (
 gC Q2 1 c5 fun v27 =>
 gC Q1 5 c5 fun v30 =>
 upd2 Q2 Q1 s_8 x3 v27 v30 fun _ s_9 =>
 nx x12 fun v31 =>
 ZI x3 x10 x11 v31 s_9) (
 nx x12 fun v31_1 =>
 ZI x3 x10 x11 v31_1 s_8)) (
 some (.ret x3, s_8)) := by intros; unfold ZI; exact (Qc _ _ _ _ _ _).trans (by kernel_rfl)
theorem Qar (a0 : AV) (s : St) : cw (.f Q1y) [a0] s =
 upd2 Q2 Q1 (St.addLoc s (.map [] 0)) (.val (.mp s.locs.length)) (sv [105, 110, 116]) (iv (-1)) fun _ s_1 =>
 upd2 Q2 Q1 s_1 (.val (.mp s.locs.length)) (sv [98, 111, 111, 108]) (iv (-1)) fun _ s_2 =>
 upd2 Q2 Q1 s_2 (.val (.mp s.locs.length)) (sv [117, 110, 105, 116]) (iv (-1)) fun _ s_3 =>
 upd2 Q2 Q1 s_3 (.val (.mp s.locs.length)) (sv [101, 120, 110]) (iv (-1)) fun _ s_4 =>
 upd2 Q2 Q1 s_4 (.val (.mp s.locs.length)) (sv [114, 101, 102]) (iv (-1)) fun _ s_5 =>
 upd2 Q2 Q1 s_5 (.val (.mp s.locs.length)) (sv [45, 62]) (iv (-1)) fun _ s_6 =>
 upd2 Q2 Q1 s_6 (.val (.mp s.locs.length)) (sv [42]) (iv (-1)) fun _ s_7 =>
 ln QB (.val a0) fun v11 =>
 ZI (.val (.mp s.locs.length)) (.val a0) v11 (iv 0) s_7 := (Q6 _ _ _).trans (by kernel_rfl)
noncomputable def Q08 : List Slot → List Slot → Slot → Slot → Slot → St → Res := fun x1 x2 x4 x11 x12 s => lpD Q16 [.seqR, .seqR, .seqR, .seqL, .seqR, .block] Try.f37 [(1, .var x1), (2, .var x2), (4, .s x4), (11, .s x11), (12, .s x12)] s
theorem Q3L : ∀ x1 x2 x4 x11 x12 s_2, Q08 x1 x2 x4 x11 x12 s_2 =
 bn Q1 .lss x12 x11 fun v13 =>
 condS v13 (
 bd Q4 [(0, Qb, (iv 1)), (1, Q1, x12)] fun v17 =>
 bs Q4 [v17] fun v18 =>
 ap Q4 s_2 x4 v18 fun v19 s_3 =>
 nx x12 fun v20 =>
 Q08 x1 x2 v19 x11 v20 s_3) (
 gC Q2 2 x1 fun v22 =>
 cn Q27 [v22, x4] s_2 fun v24 s_4 =>
 gC Q1 3 x1 fun v26 =>
 bx Q4 v24 fun c_1 =>
 pt x2 0 c_1 fun c2_1 =>
 rt [(ofSlots (C.ti Q4) (List.take (C.ti Q4).size c2_1)), (some v26)] s_4) := by intros; unfold Q08; exact (Qc _ _ _ _ _ _).trans (by kernel_rfl)
theorem Q3j (a0 : AV) (s : St) : cw (.f Q16) [a0] s =
 bx Qf (.val a0) fun c1 =>
 gC Qd 0 c1 fun v7 =>
 bn Qd .eql v7 (iv 4) fun v8 =>
 condS v8 (
 ca Q27 [(sv [101, 120, 110]), (.val (.nils))] s fun v9 s_1 =>
 bx Q4 v9 fun c =>
 pZ Q4 c fun c2 =>
 rt [(ofSlots (C.ti Q4) (List.take (C.ti Q4).size c2)), (some (iv 0))] s_1) (
 gC Q1 3 c1 fun v11 =>
 Q08 c1 ((List.map .val (C.ti Q4).zero)) (.val (.nils)) v11 (iv 0) s) := (Q6 _ _ _).trans (by kernel_rfl)
theorem Qat (a0 : AV) (a1 : AV) (a2 : AV) (s : St) : cw (.f Q37) [a0, a1, a2] s =
 bx QH (.val a0) fun c3 =>
 bindA (avs c3) fun l3 =>
 bx Q1 (.val a1) fun c4 =>
 bindA (avs c4) fun l4 =>
 bx Q4 (.val a2) fun c5 =>
 bind1 (fnS Q00 [(.val (.cp l4)), (.val (.cp l3)), (.val (.vp s.locs.length 0))]) fun v9 =>
 bx Qe v9 fun c =>
 sto (St.addLoc s (.var (List.map .val (C.ti Qe).zero))) (.val (.vp s.locs.length 0)) c fun s_1 =>
 ld Qe s_1 (.val (.vp s.locs.length 0)) fun v10 =>
 gA Q4 c5 fun v11 =>
 back (cal cw true (tgtV v10 [v11]) s_1) fun v12 s_2 =>
 ex v12 0 fun v13 =>
 ex v12 1 fun v14 =>
 rt [(some v13), (some v14)] s_2 := (Q6 _ _ _).trans (by kernel_rfl)
theorem QeJ (a0 : AV) (a1 : AV) (s : St) : cw (.f Q7m) [a0, a1] s =
 bx Q4 (.val a0) fun c2 =>
 bx Q8 (.val a1) fun c3 =>
 bindA (avs c3) fun l3 =>
 gA Q4 c2 fun v5 =>
 bind1 (fnS Q4B [(.val (.cp l3))]) fun v6 =>
 ca Q18 [v5, v6] s fun v7 s_1 =>
 bx Q4 v7 fun c =>
 pZ Q4 c fun c4 =>
 gA Q4 c4 fun v => some (.ret v, s_1) := (Q6 _ _ _).trans (by kernel_rfl)
theorem QfN (a0 : AV) (a1 : AV) (s : St) : cw (.f Q8Y) [a0, a1] s =
 bx Q4 (.val a0) fun c2 =>
 bx Q4 (.val a1) fun c3 =>
 gA Q4 c2 fun v5 =>
 gA Q4 c3 fun v6 =>
 bs Q4 [v5, v6] fun v7 =>
 ca Q27 [(sv [45, 62]), v7] s fun v8 s_1 =>
 bx Q4 v8 fun c =>
 pZ Q4 c fun c4 =>
 gA Q4 c4 fun v => some (.ret v, s_1) := (Q6 _ _ _).trans (by kernel_rfl)
theorem QbD (a0 : AV) (s : St) : cw (.f Q42) [a0] s =
 ca Q0Q [(.val a0), (bv false)] s fun v4 s_1 =>
 iT v4 fun w =>
 iT v4 fun w_1 =>
 gB w_1 Q2 .neq (gdV w (.val a0)) (sv [95]) fun v7 =>
 pk v4 v7 (bv false) fun v8 =>
 iT v8 fun w_2 =>
 iT v8 fun w_3 =>
 gB w_3 Q2 .neq (gdV w_2 (.val a0)) (sv [116, 114, 117, 101]) fun v11 =>
 pk v8 v11 (bv false) fun v12 =>
 iT v12 fun w_4 =>
 iT v12 fun w_5 =>
 gB w_5 Q2 .neq (gdV w_4 (.val a0)) (sv [102, 97, 108, 115, 101]) fun v15 =>
 pk v12 v15 (bv false) fun v16 =>
 iT v16 fun w_6 =>
 iT v16 fun w_7 =>
 cg w_7 Q2B [] s_1 fun v19 s_2 =>
 iT v16 fun w_8 =>
 cg w_8 Q1n [(gdV w_6 (.val a0)), v19] s_2 fun v20 s_3 =>
 iT v16 fun w_9 =>
 gN w_9 v20 fun v21 =>
 pk v16 v21 (bv false) fun v22 =>
 some (.ret v22, s_3) := (Q6 _ _ _).trans (by kernel_rfl)
noncomputable def ZJ : Slot → Slot → St → Res := fun x4 x5 s => pwD Q1z [.seqR, .seqL, .seqR, .block, .seqR] Try.f42 [(4, .s x4), (5, .s x5)] s
theorem Q7z : ∀ x4 x5 s_1, ZJ x4 x5 s_1 =
 condS x5 (
 rt [(some (iv 0)), (some (iv 0))] s_1) (
 bn Q2 .eql x4 (sv [114, 101, 102]) fun v11 =>
 condS v11 (
 rt [(some (iv 1)), (some (iv 1))] s_1) (
 bn Q2 .eql x4 (sv [45, 62]) fun v13 =>
 condS v13 (
 rt [(some (iv 2)), (some (iv 2))] s_1) (
 bn Q2 .eql x4 (sv [42]) fun v15 =>
 condS v15 (
 rt [(some (iv 2)), (some (iv 8))] s_1) (
 rt [(some (iv 0)), (some (iv 8))] s_1)))) := by intros; unfold ZJ; exact (Q1p _).trans (by kernel_rfl)
theorem Qaw (a0 : AV) (s : St) : cw (.f Q1z) [a0] s =
 bn Q2 .eql (.val a0) (sv [105, 110, 116]) fun v6 =>
 condS v6 (
 ZJ (.val a0) v6 s) (
 bn Q2 .eql (.val a0) (sv [98, 111, 111, 108]) fun v7 =>
 condS v7 (
 ZJ (.val a0) v7 s) (
 bn Q2 .eql (.val a0) (sv [117, 110, 105, 116]) fun v8 =>
 condS v8 (
 ZJ (.val a0) v8 s) (
 bn Q2 .eql (.val a0) (sv [101, 120, 110]) fun v9 =>
 ZJ (.val a0) v9 s))) := (Q6 _ _ _).trans (by kernel_rfl)
noncomputable def Q2A : List Slot → List Slot → Slot → Slot → Slot → St → Res := fun x2 x3 x9 x10 x11 s => lpD Q28 [.seqR, .seqR, .seqR, .seqL, .seqR, .block] Try.f43 [(2, .var x2), (3, .var x3), (9, .s x9), (10, .s x10), (11, .s x11)] s
theorem Q6i : ∀ x2 x3 x9 x10 x11 s_1, Q2A x2 x3 x9 x10 x11 s_1 =
 bn Q1 .lss x11 x10 fun v12 =>
 condS v12 (
 ix Q4 x9 x11 fun v13 =>
 ld Q4 s_1 v13 fun v14 =>
 bx Q4 v14 fun c_2 =>
 pZ Q4 c_2 fun c5 =>
 gC Q8 3 x3 fun v16 =>
 gA Q4 c5 fun v17 =>
 cn Q28 [v17] s_1 fun v18 s_2 =>
 bs Q4 [v18] fun v19 =>
 ap Q4 s_2 v16 v19 fun v20 s_3 =>
 bx Q8 v20 fun c_3 =>
 pt x3 3 c_3 fun c3_2 =>
 nx x11 fun v22 =>
 Q2A x2 c3_2 x9 x10 v22 s_3) (
 gA Q4 x3 fun v23 =>
 bx Q4 v23 fun c_4 =>
 pt x2 0 c_4 fun c2 =>
 gA Q4 c2 fun v => some (.ret v, s_1)) := by intros; unfold Q2A; exact (Qc _ _ _ _ _ _).trans (by kernel_rfl)
theorem QeK (a0 : AV) (s : St) : cw (.f Q28) [a0] s =
 bx Q4 (.val a0) fun c1 =>
 gA Q4 c1 fun v6 =>
 bx Q4 v6 fun c =>
 pZ Q4 c fun c3 =>
 bx Q8 (.val (.nils)) fun c_1 =>
 pt c3 3 c_1 fun c3_1 =>
 gC Q8 3 c1 fun v9 =>
 ln Q8 v9 fun v10 =>
 Q2A ((List.map .val (C.ti Q4).zero)) c3_1 v9 v10 (iv 0) s := (Q6 _ _ _).trans (by kernel_rfl)
noncomputable def Q2G (x3 : Slot) (x5 : Slot) : Am.Obj := .loop .ready none Q1B [(3, .s x3), (5, .s x5)] [8] (rngAsg (codeAt [.seqR, .seqR, .seqL, .seqR, .block] (body Try.f44))) (rngBody (codeAt [.seqR, .seqR, .seqL, .seqR, .block] (body Try.f44)))
theorem Q7E (x3 : Slot) (x5 : Slot) (y8 : AV) (loc : Nat) (s_2 : St) : yldR C (Q2G x3 x5) loc [y8] s_2 = noPan (
 bx QA (.val y8) fun c_1 =>
 pZ QA c_1 fun c6 =>
 bindS (beginL loc s_2) fun s_3 =>
 gA QA c6 fun v9 =>
 ca Q13 [v9] s_3 fun v10 s_4 =>
 condS v10 (
 ld Q1 s_4 x5 fun v11 =>
 nx v11 fun v12 =>
 bx Q1 v12 fun c_2 =>
 sto s_4 x5 c_2 fun s_5 =>
 ld Q1 s_5 x5 fun v13 =>
 ld Q1 s_5 x3 fun v14 =>
 bn Q1 .geq v13 v14 fun v15 =>
 condS v15 (
 bindS (setLoop loc .done (some (.exit 0)) s_5) fun s_6 =>
 some (.ret (bv false), s_6)) (
 bindS (setLoop loc .ready none s_5) fun s_7 =>
 some (.ret (bv true), s_7))) (
 ld Q1 s_4 x5 fun v13_1 =>
 ld Q1 s_4 x3 fun v14_1 =>
 bn Q1 .geq v13_1 v14_1 fun v15_1 =>
 condS v15_1 (
 bindS (setLoop loc .done (some (.exit 0)) s_4) fun s_8 =>
 some (.ret (bv false), s_8)) (
 bindS (setLoop loc .ready none s_4) fun s_9 =>
 some (.ret (bv true), s_9)))) := by kernel_rfl
theorem QaE (a0 : AV) (a1 : AV) (s : St) : cw (.f Q1B) [a0, a1] s =
 bx Q1 (.val a1) fun c3 =>
 bindA (avs c3) fun l3 =>
 bx Q1 (iv 0) fun c =>
 sto (St.addLoc s (.var (List.map .val (C.ti Q1).zero))) (.val (.vp s.locs.length 0)) c fun s_1 =>
 rangeC C cw (.val a0) s_1.locs.length (St.addLoc s_1 (Q2G (.val (.cp l3)) (.val (.vp s.locs.length 0)))) fun s_10 =>
 endX s_1.locs.length s_10 (fun s_11 =>
 ld Q1 s_11 (.val (.vp s.locs.length 0)) fun v16 =>
 some (.ret v16, s_11)) (fun s_12 =>
 some (.ret (iv 0), s_12)) (fun j s_13 =>
 bif Nat.beq j 0 then (
 ld Q1 s_13 (.val (.vp s.locs.length 0)) fun v16_1 =>
 some (.ret v16_1, s_13)) else (
(none : Res))) := (Q6 _ _ _).trans (by kernel_rfl)
noncomputable def Qp : List Slot → List Slot → Slot → Slot → St → Res := fun x1 x2 x3 x4 s => pwD ZM [.seqR, .seqR, .seqR, .seqR] Try.f45 [(1, .var x1), (2, .var x2), (3, .s x3), (4, .s x4)] s
theorem Q4f : ∀ x1 x2 x3 x4 s_2, Qp x1 x2 x3 x4 s_2 =
 bn Qt .eql x3 (iv 0) fun v82 =>
 condS v82 (
 bd Q7 [] fun v83 =>
 bx Q7 v83 fun c =>
 pt x2 0 c fun c2 =>
 gA Q7 c2 fun v => some (.ret v, s_2)) (
 bn Qt .neq x3 (iv 8) fun v86 =>
 condS v86 (
 gC Q1 7 x1 fun v89 =>
 bd Q7 [(0, Qt, x3), (1, Q1, v89), (2, Q2, (sv []))] fun v91 =>
 bx Q7 v91 fun c_1 =>
 pt x2 0 c_1 fun c2_1 =>
 gA Q7 c2_1 fun v => some (.ret v, s_2)) (
 gC Q1 7 x1 fun v89_1 =>
 bd Q7 [(0, Qt, x3), (1, Q1, v89_1), (2, Q2, x4)] fun v91_1 =>
 bx Q7 v91_1 fun c_2 =>
 pt x2 0 c_2 fun c2_2 =>
 gA Q7 c2_2 fun v => some (.ret v, s_2))) := by intros; unfold Qp; exact (Q1p _).trans (by kernel_rfl)
theorem Q5o (a0 : AV) (s : St) : cw (.f ZM) [a0] s =
 bx QA (.val a0) fun c1 =>
 gC Q0v 0 c1 fun v17 =>
 bn Q0v .neq v17 (.val (.nilp)) fun v18 =>
 condS v18 (
 gA QA c1 fun v19 =>
 cn Zf [v19] s fun v20 s_1 =>
 gC Q0v 0 c1 fun v22 =>
 bind1 (nilCheckV v22) fun v23 =>
 fa 2 v23 fun v24 =>
 bind1 (ldV (C.ti Q2) true s_1 v24) fun v25 =>
 Qp c1 ((List.map .val (C.ti Q7).zero)) v20 v25 s_1) (
 gC Q04 2 c1 fun v28 =>
 bn Q04 .neq v28 (.val (.nilp)) fun v29 =>
 condS v29 (
 gC Q04 2 c1 fun v31 =>
 bind1 (nilCheckV v31) fun v32 =>
 fa 0 v32 fun v33 =>
 ld Q2 s v33 fun v34 =>
 ca Q0k [v34] s fun v36 s_3 =>
 nt v36 fun v37 =>
 condS v37 (
 Qp c1 ((List.map .val (C.ti Q7).zero)) (iv 8) v34 s_3) (
 Qp c1 ((List.map .val (C.ti Q7).zero)) (iv 0) v34 s_3)) (
 gC ZF 3 c1 fun v40 =>
 bn ZF .neq v40 (.val (.nilp)) fun v41 =>
 condS v41 (
 gC ZF 3 c1 fun v43 =>
 bind1 (nilCheckV v43) fun v44 =>
 bind1 (ldV (C.ti Qi) true s v44) fun v45 =>
 cn Q1H [v45] s fun v46 s_4 =>
 gC ZF 3 c1 fun v48 =>
 bind1 (nilCheckV v48) fun v49 =>
 fa 0 v49 fun v50 =>
 bind1 (ldV (C.ti Q2) true s_4 v50) fun v51 =>
 Qp c1 ((List.map .val (C.ti Q7).zero)) v46 v51 s_4) (
 gC Q0w 4 c1 fun v54 =>
 bn Q0w .neq v54 (.val (.nilp)) fun v55 =>
 condS v55 (
 gC Q0w 4 c1 fun v57 =>
 bind1 (nilCheckV v57) fun v58 =>
 bind1 (ldV (C.ti ZZ) true s v58) fun v59 =>
 cn Q1I [v59] s fun v60 s_5 =>
 gC Q0w 4 c1 fun v62 =>
 bind1 (nilCheckV v62) fun v63 =>
 fa 2 v63 fun v64 =>
 bind1 (ldV (C.ti Q2) true s_5 v64) fun v65 =>
 Qp c1 ((List.map .val (C.ti Q7).zero)) v60 v65 s_5) (
 gC Q0x 5 c1 fun v68 =>
 bn Q0x .neq v68 (.val (.nilp)) fun v69 =>
 condS v69 (
 gC Q0x 5 c1 fun v71 =>
 bind1 (nilCheckV v71) fun v72 =>
 bind1 (ldV (C.ti Q0l) true s v72) fun v73 =>
 cn Q0E [v73] s fun v74 s_6 =>
 gC Q0x 5 c1 fun v76 =>
 bind1 (nilCheckV v76) fun v77 =>
 fa 2 v77 fun v78 =>
 bind1 (ldV (C.ti Q2) true s_6 v78) fun v79 =>
 Qp c1 ((List.map .val (C.ti Q7).zero)) v74 v79 s_6) (
 gC Q2n 6 c1 fun v6 =>
 bind1 (nilCheckV v6) fun v7 =>
 bind1 (ldV (C.ti Q4) true s v7) fun v8 =>
 cn Q03 [v8] s fun v9 s_7 =>
 gC Q2n 6 c1 fun v11 =>
 bind1 (nilCheckV v11) fun v12 =>
 fa 2 v12 fun v13 =>
 bind1 (ldV (C.ti Q2) true s_7 v13) fun v14 =>
 Qp c1 ((List.map .val (C.ti Q7).zero)) v9 v14 s_7))))) := (Q6 _ _ _).trans (by kernel_rfl)
theorem Q6y (a0 : AV) (a1 : AV) (s : St) : cw (.f Q1q) [a0, a1] s =
 bd Qm [(0, Qh, (.val a0))] fun v4 =>
 ld Qz s (.val a1) fun v5 =>
 ca QG [v4, v5, (bv false)] s fun v6 s_1 =>
 rt [] s_1 := (Q6 _ _ _).trans (by kernel_rfl)
noncomputable def Z4 : Slot → Slot → List Slot → Slot → Slot → Slot → Slot → Slot → St → Res := fun x1_2 x2_2 x3_2 x8_1 x14_2 x15_2 x80 x81 s => lpD QG [.seqR, .seqL, .seqR, .block, .loop, .seqR, .seqR, .seqL, .block, .seqR, .seqR, .seqR, .seqR, .seqR, .block] Try.f47 [(1, .s x1_2), (2, .s x2_2), (3, .var x3_2), (8, .s x8_1), (14, .s x14_2), (15, .s x15_2), (80, .s x80), (81, .s x81)] s
noncomputable def Z3 : Slot → Slot → List Slot → Slot → Slot → Slot → Slot → Slot → St → Res := fun x1_1 x2_1 x3_1 x8 x14_1 x15_1 x45 x46 s => lpD QG [.seqR, .seqL, .seqR, .block, .loop, .seqR, .seqR, .seqL, .block, .seqR, .seqR, .seqR, .seqL, .seqR, .block] Try.f47 [(1, .s x1_1), (2, .s x2_1), (3, .var x3_1), (8, .s x8), (14, .s x14_1), (15, .s x15_1), (45, .s x45), (46, .s x46)] s
noncomputable def QF : Slot → Slot → List Slot → Slot → Slot → St → Res := fun x1 x2 x3 x14 x15 s => lpD QG [.seqR, .seqL, .seqR, .block] Try.f47 [(1, .s x1), (2, .s x2), (3, .var x3), (14, .s x14), (15, .s x15)] s
theorem Q1i : ∀ x1_2 x2_2 x3_2 x8_1 x14_2 x15_2 x80 x81 s_7, Z4 x1_2 x2_2 x3_2 x8_1 x14_2 x15_2 x80 x81 s_7 =
 bn Q1 .lss x81 x80 fun v82 =>
 condS v82 (
 bind1 (nilCheckV x8_1) fun v85 =>
 fa 4 v85 fun v86 =>
 ld Qr s_7 v86 fun v87 =>
 ix Qi v87 x81 fun v89 =>
 gC Qh 0 x3_2 fun v91 =>
 bind1 (nilCheckV v89) fun v94 =>
 fa 1 v94 fun v95 =>
 ld Q1 s_7 v95 fun v96 =>
 bd QA [(3, ZF, v89), (7, Q1, v96)] fun v97 =>
 back (noPan (cal cw true (tgtV v91 [v97]) s_7)) fun v98 s_8 =>
 nt v98 fun v99 =>
 iF v99 fun w_15 =>
 iF v99 fun w_16 =>
 bind1 (gd w_16 (nilCheckV (gdV w_15 v89))) fun v102 =>
 iF v99 fun w_17 =>
 bind1 (gd w_17 (faV 2 v102)) fun v103 =>
 iF v99 fun w_18 =>
 bind1 (gd w_18 (ldV (C.ti Qg) false s_8 v103)) fun v104 =>
 iF v99 fun w_19 =>
 bindB (Slot.isB (gdV w_19 v104) true) fun w_20 =>
 bind1 (gd w_20 (ofSlots (C.ti Qm) (List.take (C.ti Qm).size x3_2))) fun v106 =>
 bindB (Slot.isB (gdV w_19 v104) true) fun w_21 =>
 bindB (Slot.isB (gdV w_19 v104) true) fun w_22 =>
 bind1 (gd w_22 (nilCheckV (gdV w_21 v89))) fun v108 =>
 bindB (Slot.isB (gdV w_19 v104) true) fun w_23 =>
 bind1 (gd w_23 (faV 3 v108)) fun v109 =>
 bindB (Slot.isB (gdV w_19 v104) true) fun w_24 =>
 bindB (Slot.isB (gdV w_19 v104) true) fun w_25 =>
 bind1 (gd w_25 (nilCheckV (gdV w_24 v89))) fun v111 =>
 bindB (Slot.isB (gdV w_19 v104) true) fun w_26 =>
 bind1 (gd w_26 (faV 1 v111)) fun v112 =>
 bindB (Slot.isB (gdV w_19 v104) true) fun w_27 =>
 bind1 (gd w_27 (ldV (C.ti Q1) false s_8 v112)) fun v113 =>
 bindB (Slot.isB (gdV w_19 v104) true) fun w_28 =>
 back (noPan (cal cw w_28 (tgtV (.val (.fn QO [])) [v106, v109, v113]) s_8)) fun v114 s_9 =>
 bindB (Slot.isB (gdV w_19 v104) true) fun w_29 =>
 gN w_29 v114 fun v115 =>
 iF v99 fun w_30 =>
 bind1 (gd w_30 (pickS (gdV w_19 v104) v115 (bv false))) fun v116 =>
 pk v99 (bv true) v116 fun v117 =>
 condS v117 (
 some (.ret (bv false), s_9)) (
 nx x81 fun v118 =>
 Z4 x1_2 x2_2 x3_2 x8_1 x14_2 x15_2 x80 v118 s_9)) (
 nx x15_2 fun v119 =>
 QF x1_2 x2_2 x3_2 x14_2 v119 s_7) := by intros; unfold Z4; exact (Qc _ _ _ _ _ _).trans (by kernel_rfl)
theorem Q1h : ∀ x1_1 x2_1 x3_1 x8 x14_1 x15_1 x45 x46 s_4, Z3 x1_1 x2_1 x3_1 x8 x14_1 x15_1 x45 x46 s_4 =
 bn Q1 .lss x46 x45 fun v47 =>
 condS v47 (
 bind1 (nilCheckV x8) fun v50 =>
 fa 6 v50 fun v51 =>
 ld ZG s_4 v51 fun v52 =>
 ix Q1J v52 x46 fun v54 =>
 gC Qh 0 x3_1 fun v56 =>
 bind1 (nilCheckV v54) fun v59 =>
 fa 1 v59 fun v60 =>
 ld Q1 s_4 v60 fun v61 =>
 bd QA [(2, Q04, v54), (7, Q1, v61)] fun v62 =>
 back (noPan (cal cw true (tgtV v56 [v62]) s_4)) fun v63 s_5 =>
 nt v63 fun v64 =>
 iF v64 fun w_7 =>
 bind1 (gd w_7 (ofSlots (C.ti Qm) (List.take (C.ti Qm).size x3_1))) fun v66 =>
 iF v64 fun w_8 =>
 iF v64 fun w_9 =>
 bind1 (gd w_9 (nilCheckV (gdV w_8 v54))) fun v68 =>
 iF v64 fun w_10 =>
 bind1 (gd w_10 (faV 2 v68)) fun v69 =>
 iF v64 fun w_11 =>
 bind1 (gd w_11 (ldV (C.ti Zn) false s_5 v69)) fun v70 =>
 iF v64 fun w_12 =>
 bind1 (gd w_12 (bslF (C.ti Zn).size [v70])) fun v71 =>
 iF v64 fun w_13 =>
 back (noPan (cal cw w_13 (tgtV (.val (.fn QN [])) [v66, v71]) s_5)) fun v72 s_6 =>
 iF v64 fun w_14 =>
 gN w_14 v72 fun v73 =>
 pk v64 (bv true) v73 fun v74 =>
 condS v74 (
 some (.ret (bv false), s_6)) (
 nx x46 fun v75 =>
 Z3 x1_1 x2_1 x3_1 x8 x14_1 x15_1 x45 v75 s_6)) (
 bind1 (nilCheckV x8) fun v77 =>
 fa 4 v77 fun v78 =>
 ld Qr s_4 v78 fun v79 =>
 ln Qr v79 fun v80 =>
 Z4 x1_1 x2_1 x3_1 x8 x14_1 x15_1 v80 (iv 0) s_4) := by intros; unfold Z3; exact (Qc _ _ _ _ _ _).trans (by kernel_rfl)
theorem Q1g : ∀ x1 x2 x3 x14 x15 s_1, QF x1 x2 x3 x14 x15 s_1 =
 bn Q1 .lss x15 x14 fun v16 =>
 condS v16 (
 ix Qf x1 x15 fun v20 =>
 gC Qh 0 x3 fun v22 =>
 bind1 (nilCheckV v20) fun v26 =>
 fa 1 v26 fun v27 =>
 ld Q1 s_1 v27 fun v28 =>
 bd QA [(0, Q0v, v20), (1, Qg, x2), (7, Q1, v28)] fun v29 =>
 back (noPan (cal cw true (tgtV v22 [v29]) s_1)) fun v30 s_2 =>
 nt v30 fun v31 =>
 iF v31 fun w =>
 bind1 (gd w (ofSlots (C.ti Qm) (List.take (C.ti Qm).size x3))) fun v33 =>
 iF v31 fun w_1 =>
 iF v31 fun w_2 =>
 bind1 (gd w_2 (nilCheckV (gdV w_1 v20))) fun v35 =>
 iF v31 fun w_3 =>
 bind1 (gd w_3 (faV 5 v35)) fun v36 =>
 iF v31 fun w_4 =>
 bind1 (gd w_4 (ldV (C.ti Qx) false s_2 v36)) fun v37 =>
 iF v31 fun w_5 =>
 back (noPan (cal cw w_5 (tgtV (.val (.fn QN [])) [v33, v37]) s_2)) fun v38 s_3 =>
 iF v31 fun w_6 =>
 gN w_6 v38 fun v39 =>
 pk v31 (bv true) v39 fun v40 =>
 condS v40 (
 some (.ret (bv false), s_3)) (
 bind1 (nilCheckV v20) fun v42 =>
 fa 6 v42 fun v43 =>
 ld ZG s_3 v43 fun v44 =>
 ln ZG v44 fun v45 =>
 Z3 x1 x2 x3 v20 x14 x15 v45 (iv 0) s_3)) (
 some (.ret (bv true), s_1)) := by intros; unfold QF; exact (Qc _ _ _ _ _ _).trans (by kernel_rfl)
theorem Q22 (a0 : AV) (a1 : AV) (a2 : AV) (s : St) : cw (.f QG) [a0, a1, a2] s =
 bx Qm (.val a0) fun c3 =>
 ln Qz (.val a1) fun v14 =>
 QF (.val a1) (.val a2) c3 v14 (iv 0) s := (Q6 _ _ _).trans (by kernel_rfl)
noncomputable def Zp : Slot → Slot → Slot → Slot → St → Res := fun x3 x6 x7 x8 s => lpD QQ [.seqR, .seqR, .seqL, .seqR, .block] Try.f48 [(3, .s x3), (6, .s x6), (7, .s x7), (8, .s x8)] s
theorem Q1W : ∀ x3 x6 x7 x8 s_1, Zp x3 x6 x7 x8 s_1 =
 bn Q1 .lss x8 x7 fun v9 =>
 condS v9 (
 ix Zn x6 x8 fun v10 =>
 ld Zn s_1 v10 fun v11 =>
 bx Zn v11 fun c =>
 pZ Zn c fun c5 =>
 gC Q0l 0 c5 fun v14 =>
 cn Zv [v14] s_1 fun v15 s_2 =>
 gC ZZ 5 c5 fun v17 =>
 cn Q02 [v17] s_2 fun v18 s_3 =>
 bind1 (max3 x3 v15 v18) fun v19 =>
 nx x8 fun v20 =>
 Zp v19 x6 x7 v20 s_3) (
 some (.ret x3, s_1)) := by intros; unfold Zp; exact (Qc _ _ _ _ _ _).trans (by kernel_rfl)
theorem Q2O (a0 : AV) (s : St) : cw (.f QQ) [a0] s =
 ln Qx (.val a0) fun v7 =>
 Zp (iv 0) (.val a0) v7 (iv 0) s := (Q6 _ _ _).trans (by kernel_rfl)
noncomputable def Q0g : Slot → Slot → Slot → Slot → St → Res := fun x3 x7 x8 x9 s => lpD ZE [.seqR, .seqR, .seqL, .seqR, .block] Try.f49 [(3, .s x3), (7, .s x7), (8, .s x8), (9, .s x9)] s
theorem Q2S : ∀ x3 x7 x8 x9 s_1, Q0g x3 x7 x8 x9 s_1 =
 bn Q1 .lss x9 x8 fun v10 =>
 condS v10 (
 ix Q4 x7 x9 fun v11 =>
 ld Q4 s_1 v11 fun v12 =>
 bx Q4 v12 fun c =>
 pZ Q4 c fun c5 =>
 gA Q4 c5 fun v14 =>
 ca ZE [v14] s_1 fun v15 s_2 =>
 bind1 (max2 x3 v15) fun v16 =>
 nx x9 fun v17 =>
 Q0g v16 x7 x8 v17 s_2) (
 nx x3 fun v19 =>
 some (.ret v19, s_1)) := by intros; unfold Q0g; exact (Qc _ _ _ _ _ _).trans (by kernel_rfl)
theorem Q9r (a0 : AV) (s : St) : cw (.f ZE) [a0] s =
 bx Q4 (.val a0) fun c1 =>
 gC Q8 3 c1 fun v7 =>
 ln Q8 v7 fun v8 =>
 Q0g (iv 0) v7 v8 (iv 0) s := (Q6 _ _ _).trans (by kernel_rfl)
noncomputable def Qq : Slot → Slot → Slot → Slot → Slot → St → Res := fun x1 x2 x15 x16 x17 s => lpD QC [.seqR, .seqR, .seqL, .seqR, .block] Try.f50 [(1, .s x1), (2, .s x2), (15, .s x15), (16, .s x16), (17, .s x17)] s
theorem Ze : ∀ x1 x2 x15 x16 x17 s_1, Qq x1 x2 x15 x16 x17 s_1 =
 bn Q1 .lss x17 x16 fun v18 =>
 condS v18 (
 ix Q4 x15 x17 fun v20 =>
 ld Q4 s_1 v20 fun v21 =>
 bx Q4 v21 fun c =>
 pZ Q4 c fun c8 =>
 ix Q4 x1 x17 fun v24 =>
 ld Q4 s_1 v24 fun v25 =>
 bx Q4 v25 fun c_1 =>
 pZ Q4 c_1 fun c9 =>
 gA Q4 c8 fun v27 =>
 gA Q4 c9 fun v28 =>
 back (cal cw true (tgtV x2 [v27, v28]) s_1) fun v29 s_2 =>
 nt v29 fun v30 =>
 condS v30 (
 some (.ret (bv false), s_2)) (
 nx x17 fun v31 =>
 Qq x1 x2 x15 x16 v31 s_2)) (
 some (.ret (bv true), s_1)) := by intros; unfold Qq; exact (Qc _ _ _ _ _ _).trans (by kernel_rfl)
theorem Q1e (a0 : AV) (a1 : AV) (a2 : AV) (s : St) : cw (.f QC) [a0, a1, a2] s =
 ln Q8 (.val a0) fun v11 =>
 ln Q8 (.val a1) fun v13 =>
 bn Q1 .neq v11 v13 fun v14 =>
 condS v14 (
 some (.ret (bv false), s)) (
 ln Q8 (.val a0) fun v16 =>
 Qq (.val a1) (.val a2) (.val a0) v16 (iv 0) s) := (Q6 _ _ _).trans (by kernel_rfl)
noncomputable def ZO : Slot → Slot → Slot → Slot → St → Res := fun x3 x45 x46 x47 s => lpD Q00 [.seqR, .seqR, .seqR, .seqR, .seqL, .seqR, .block] Try.f51 [(3, .s x3), (45, .s x45), (46, .s x46), (47, .s x47)] s
theorem Q2q : ∀ x3 x45 x46 x47 s_1, ZO x3 x45 x46 x47 s_1 =
 bn Q1 .lss x47 x46 fun v48 =>
 condS v48 (
 ix Q4 x45 x47 fun v49 =>
 ld Q4 s_1 v49 fun v50 =>
 bx Q4 v50 fun c =>
 pZ Q4 c fun c10 =>
 ld Qe s_1 x3 fun v52 =>
 gA Q4 c10 fun v53 =>
 back (cal cw true (tgtV v52 [v53]) s_1) fun v54 s_2 =>
 ex v54 0 fun v55 =>
 ex v54 1 fun v56 =>
 bn Qt .neq v55 (iv 0) fun v58 =>
 condS v58 (
 rt [(some v55), (some v56)] s_2) (
 nx x47 fun v61 =>
 ZO x3 x45 x46 v61 s_2)) (
 rt [(some (iv 0)), (some (sv []))] s_1) := by intros; unfold ZO; exact (Qc _ _ _ _ _ _).trans (by kernel_rfl)
theorem Q7Y (a0 : AV) (a1 : AV) (a2 : AV) (a3 : AV) (s : St) : cw (.f Q00) [a0, a1, a2, a3] s =
 bx Q4 (.val a0) fun c4 =>
 gC Qb 0 c4 fun v14 =>
 bn Qb .eql v14 (iv 1) fun v15 =>
 condS v15 (
 gC Q1 1 c4 fun v17 =>
 ld Q1 s (.val a1) fun v18 =>
 bn Q1 .geq v17 v18 fun v19 =>
 condS v19 (
 rt [(some (iv 16)), (some (sv []))] s) (
 rt [(some (iv 0)), (some (sv []))] s)) (
 ld QH s (.val a2) fun v21 =>
 gC Q2 2 c4 fun v23 =>
 lk Q2 Q1 s v21 v23 true fun v24 =>
 ex v24 0 fun v25 =>
 ex v24 1 fun v26 =>
 nt v26 fun v29 =>
 condS v29 (
 gC Q2 2 c4 fun v31 =>
 rt [(some (iv 8)), (some v31)] s) (
 bn Q1 .geq v25 (iv 0) fun v34 =>
 iT v34 fun w =>
 iT v34 fun w_1 =>
 iT v34 fun w_2 =>
 gG w_2 w_1 Q8 3 c4 fun v38 =>
 iT v34 fun w_3 =>
 gL w_3 Q8 v38 fun v39 =>
 iT v34 fun w_4 =>
 gB w_4 Q1 .neq (gdV w v25) v39 fun v40 =>
 pk v34 v40 (bv false) fun v41 =>
 condS v41 (
 gC Q2 2 c4 fun v43 =>
 rt [(some (iv 19)), (some v43)] s) (
 gC Q8 3 c4 fun v45 =>
 ln Q8 v45 fun v46 =>
 ZO (.val a3) v45 v46 (iv 0) s))) := (Q6 _ _ _).trans (by kernel_rfl)
noncomputable def Q0P : Slot → List Slot → List Slot → Slot → Slot → Slot → St → Res := fun x1 x4 x5 x23 x24 x25 s => lpD Q18 [.seqR, .seqR, .seqR, .seqL, .seqR, .block] Try.f52 [(1, .s x1), (4, .var x4), (5, .var x5), (23, .s x23), (24, .s x24), (25, .s x25)] s
theorem Q41 : ∀ x1 x4 x5 x23 x24 x25 s_2, Q0P x1 x4 x5 x23 x24 x25 s_2 =
 bn Q1 .lss x25 x24 fun v26 =>
 condS v26 (
 ix Q4 x23 x25 fun v27 =>
 ld Q4 s_2 v27 fun v28 =>
 bx Q4 v28 fun c_2 =>
 pZ Q4 c_2 fun c7 =>
 gC Q8 3 x5 fun v30 =>
 gA Q4 c7 fun v31 =>
 cn Q18 [v31, x1] s_2 fun v33 s_3 =>
 bs Q4 [v33] fun v34 =>
 ap Q4 s_3 v30 v34 fun v35 s_4 =>
 bx Q8 v35 fun c_3 =>
 pt x5 3 c_3 fun c5_1 =>
 nx x25 fun v37 =>
 Q0P x1 x4 c5_1 x23 x24 v37 s_4) (
 gA Q4 x5 fun v38 =>
 bx Q4 v38 fun c_4 =>
 pt x4 0 c_4 fun c4_1 =>
 gA Q4 c4_1 fun v => some (.ret v, s_2)) := by intros; unfold Q0P; exact (Qc _ _ _ _ _ _).trans (by kernel_rfl)
theorem QbM (a0 : AV) (a1 : AV) (s : St) : cw (.f Q18) [a0, a1] s =
 bx Q4 (.val a0) fun c2 =>
 gC Qb 0 c2 fun v9 =>
 bn Qb .eql v9 (iv 1) fun v10 =>
 condS v10 (
 gC Q1 1 c2 fun v13 =>
 back (cal cw true (tgtV (.val a1) [v13]) s) fun v14 s_1 =>
 bx Q4 v14 fun c =>
 pZ Q4 c fun c4 =>
 gA Q4 c4 fun v => some (.ret v, s_1)) (
 gC Qb 0 c2 fun v16 =>
 gC Q1 1 c2 fun v18 =>
 gC Q2 2 c2 fun v20 =>
 bd Q4 [(0, Qb, v16), (1, Q1, v18), (2, Q2, v20)] fun v21 =>
 bx Q4 v21 fun c_1 =>
 pZ Q4 c_1 fun c5 =>
 gC Q8 3 c2 fun v23 =>
 ln Q8 v23 fun v24 =>
 Q0P (.val a1) ((List.map .val (C.ti Q4).zero)) c5 v23 v24 (iv 0) s) := (Q6 _ _ _).trans (by kernel_rfl)
theorem Q7c (a0 : AV) (a1 : AV) (s : St) : cw (.f Q4B) [a0, a1] s =
 bn Q1 .geq (.val a0) (iv 0) fun v5 =>
 iT v5 fun w =>
 iT v5 fun w_1 =>
 bind1 (gd w_1 (ldV (C.ti Q8) false s (.val a1))) fun v8 =>
 iT v5 fun w_2 =>
 gL w_2 Q8 v8 fun v9 =>
 iT v5 fun w_3 =>
 gB w_3 Q1 .lss (gdV w (.val a0)) v9 fun v10 =>
 pk v5 v10 (bv false) fun v11 =>
 condS v11 (
 ld Q8 s (.val a1) fun v12 =>
 ix Q4 v12 (.val a0) fun v14 =>
 ld Q4 s v14 fun v15 =>
 ca Q28 [v15] s fun v16 s_1 =>
 bx Q4 v16 fun c =>
 pZ Q4 c fun c3 =>
 gA Q4 c3 fun v => some (.ret v, s_1)) (
 bd Q4 [(0, Qb, (iv 1)), (1, Q1, (.val a0))] fun v18 =>
 bx Q4 v18 fun c_1 =>
 pZ Q4 c_1 fun c3_1 =>
 gA Q4 c3_1 fun v => some (.ret v, s)) := (Q6 _ _ _).trans (by kernel_rfl)
noncomputable def Zk : Slot → Slot → St → Res := fun x0 x5 s => lpD Q0Q [.seqR, .seqR, .seqL, .seqR, .block] Try.f54 [(0, .s x0), (5, .s x5)] s
theorem Q2v : ∀ x0 x5 s_2, Zk x0 x5 s_2 =
 ln Q2 x0 fun v23 =>
 bn Q1 .lss x5 v23 fun v24 =>
 condS v24 (
 bind1 (indexS (C.ti Q2) (C.ti T_0) x0 x5) fun v29 =>
 ca Q38 [v29] s_2 fun v30 s_3 =>
 nt v30 fun v31 =>
 condS v31 (
 some (.ret (bv false), s_3)) (
 nx x5 fun v26 =>
 Zk x0 v26 s_3)) (
 some (.ret (bv true), s_2)) := by intros; unfold Zk; exact (Qc _ _ _ _ _ _).trans (by kernel_rfl)
theorem Q8A (a0 : AV) (a1 : AV) (s : St) : cw (.f Q0Q) [a0, a1] s =
 ln Q2 (.val a0) fun v7 =>
 bn Q1 .lss v7 (iv 1) fun v8 =>
 iF v8 fun w =>
 iF v8 fun w_1 =>
 gL w_1 Q2 (gdV w (.val a0)) fun v11 =>
 iF v8 fun w_2 =>
 gB w_2 Q1 .gtr v11 (iv 32) fun v12 =>
 pk v8 (bv true) v12 fun v13 =>
 iF v13 fun w_3 =>
 iF v13 fun w_4 =>
 bind1 (gd w_4 (indexS (C.ti Q2) (C.ti T_0) (gdV w_3 (.val a0)) (iv 0))) fun v16 =>
 iF v13 fun w_5 =>
 iF v13 fun w_6 =>
 cg w_6 Q24 [v16, (gdV w_5 (.val a1))] s fun v18 s_1 =>
 iF v13 fun w_7 =>
 gN w_7 v18 fun v19 =>
 pk v13 (bv true) v19 fun v20 =>
 condS v20 (
 some (.ret (bv false), s_1)) (
 Zk (.val a0) (iv 1) s_1) := (Q6 _ _ _).trans (by kernel_rfl)
noncomputable def Q0c : Slot → Slot → Slot → St → Res := fun x0 x1 x5 s => lpD Q1n [.seqR, .seqL, .seqR, .block] Try.f55 [(0, .s x0), (1, .s x1), (5, .s x5)] s
theorem Q2L : ∀ x0 x1 x5 s_1, Q0c x0 x1 x5 s_1 =
 ln Q0T x1 fun v8 =>
 bn Q1 .lss x5 v8 fun v9 =>
 condS v9 (
 ix Q2 x1 x5 fun v14 =>
 ld Q2 s_1 v14 fun v15 =>
 bn Q2 .eql v15 x0 fun v17 =>
 condS v17 (
 some (.ret (bv true), s_1)) (
 nx x5 fun v11 =>
 Q0c x0 x1 v11 s_1)) (
 some (.ret (bv false), s_1)) := by intros; unfold Q0c; exact (Qc _ _ _ _ _ _).trans (by kernel_rfl)
theorem Q9l (a0 : AV) (a1 : AV) (s : St) : cw (.f Q1n) [a0, a1] s =
 Q0c (.val a0) (.val a1) (iv 0) s := (Q6 _ _ _).trans (by kernel_rfl)
theorem Q9k (s : St) : cw (.f Q2B) [] s =
 bs Q2 [(sv [97, 110, 100]), (sv [97, 110, 100, 97, 108, 115, 111]), (sv [97, 115]), (sv [99, 97, 115, 101]), (sv [100, 97, 116, 97, 116, 121, 112, 101]), (sv [100, 105, 118]), (sv [101, 108, 115, 101]), (sv [101, 110, 100]), (sv [101, 120, 99, 101, 112, 116, 105, 111, 110]), (sv [102, 110]), (sv [102, 117, 110]), (sv [104, 97, 110, 100, 108, 101]), (sv [105, 102]), (sv [105, 110]), (sv [108, 101, 116]), (sv [109, 111, 100]), (sv [111, 102]), (sv [111, 114, 101, 108, 115, 101]), (sv [112, 114, 105, 110, 116]), (sv [114, 97, 105, 115, 101]), (sv [114, 101, 97, 100]), (sv [114, 101, 102]), (sv [116, 104, 101, 110]), (sv [118, 97, 108])] fun v1 =>
 some (.ret v1, s) := (Q6 _ _ _).trans (by kernel_rfl)
theorem Q6a (a0 : AV) (s : St) : cw (.f Q13) [a0] s =
 bx QA (.val a0) fun c1 =>
 gC Q04 2 c1 fun v4 =>
 bn Q04 .eql v4 (.val (.nilp)) fun v5 =>
 iT v5 fun w =>
 iT v5 fun w_1 =>
 gG w_1 w ZF 3 c1 fun v8 =>
 iT v5 fun w_2 =>
 gB w_2 ZF .eql v8 (.val (.nilp)) fun v9 =>
 pk v5 v9 (bv false) fun v10 =>
 some (.ret v10, s) := (Q6 _ _ _).trans (by kernel_rfl)
noncomputable def Qy : List Slot → Slot → Slot → Slot → Slot → St → Res := fun x1 x3 x5 x7 x8 s => pwD Zf [.seqR, .seqR, .seqR, .seqR, .seqR] Try.f58 [(1, .var x1), (3, .s x3), (5, .s x5), (7, .s x7), (8, .s x8)] s
theorem Q31 : ∀ x1 x3 x5 x7 x8 s_1, Qy x1 x3 x5 x7 x8 s_1 =
 nt x8 fun v91 =>
 iF v91 fun w_9 =>
 iF v91 fun w_10 =>
 gG w_10 w_9 Qg 1 x1 fun v94 =>
 iF v91 fun w_11 =>
 bindB (Slot.isB (gdV w_11 v94) true) fun w_12 =>
 bindB (Slot.isB (gdV w_11 v94) true) fun w_13 =>
 bind1 (gd w_13 (nilCheckV (gdV w_12 x3))) fun v97 =>
 bindB (Slot.isB (gdV w_11 v94) true) fun w_14 =>
 bind1 (gd w_14 (faV 0 v97)) fun v98 =>
 bindB (Slot.isB (gdV w_11 v94) true) fun w_15 =>
 bind1 (gd w_15 (ldV (C.ti Qd) false s_1 v98)) fun v99 =>
 bindB (Slot.isB (gdV w_11 v94) true) fun w_16 =>
 gB w_16 Qd .neq v99 (iv 1) fun v100 =>
 iF v91 fun w_17 =>
 bind1 (gd w_17 (pickS (gdV w_11 v94) v100 (bv false))) fun v101 =>
 iF v91 fun w_18 =>
 bindB (Slot.isB (gdV w_18 v101) true) fun w_19 =>
 bindB (Slot.isB (gdV w_18 v101) true) fun w_20 =>
 bind1 (gd w_20 (nilCheckV (gdV w_19 x3))) fun v104 =>
 bindB (Slot.isB (gdV w_18 v101) true) fun w_21 =>
 bind1 (gd w_21 (faV 0 v104)) fun v105 =>
 bindB (Slot.isB (gdV w_18 v101) true) fun w_22 =>
 bind1 (gd w_22 (ldV (C.ti Qd) false s_1 v105)) fun v106 =>
 bindB (Slot.isB (gdV w_18 v101) true) fun w_23 =>
 gB w_23 Qd .neq v106 (iv 2) fun v107 =>
 iF v91 fun w_24 =>
 bind1 (gd w_24 (pickS (gdV w_18 v101) v107 (bv false))) fun v108 =>
 pk v91 (bv true) v108 fun v109 =>
 condS v109 (
 some (.ret (iv 29), s_1)) (
 bind1 (nilCheckV x3) fun v111 =>
 fa 0 v111 fun v112 =>
 ld Qd s_1 v112 fun v113 =>
 bn Qd .eql v113 (iv 1) fun v115 =>
 condS v115 (
 bind1 (nilCheckV x3) fun v117 =>
 fa 5 v117 fun v118 =>
 ld Qx s_1 v118 fun v119 =>
 ln Qx v119 fun v120 =>
 bn Q1 .eql v120 (iv 1) fun v121 =>
 nt v121 fun v165 =>
 condS v165 (
 some (.ret (iv 19), s_1)) (
 some (.ret (iv 0), s_1))) (
 bn Qd .eql v113 (iv 2) fun v123 =>
 condS v123 (
 nt x5 fun v165_1 =>
 condS v165_1 (
 some (.ret (iv 19), s_1)) (
 some (.ret (iv 0), s_1))) (
 bn Qd .eql v113 (iv 3) fun v126 =>
 condS v126 (
 bind1 (nilCheckV x3) fun v128 =>
 fa 2 v128 fun v129 =>
 ld Q2 s_1 v129 fun v130 =>
 ca Q0k [v130] s_1 fun v131 s_2 =>
 nt v131 fun v132 =>
 condS v132 (
 some (.ret (iv 8), s_2)) (
 bind1 (nilCheckV x3) fun v134 =>
 fa 3 v134 fun v135 =>
 ld Q1 s_2 v135 fun v136 =>
 bn Q1 .geq v136 (iv 0) fun v137 =>
 iT v137 fun w_25 =>
 iT v137 fun w_26 =>
 bind1 (gd w_26 (nilCheckV (gdV w_25 x3))) fun v140 =>
 iT v137 fun w_27 =>
 bind1 (gd w_27 (faV 3 v140)) fun v141 =>
 iT v137 fun w_28 =>
 bind1 (gd w_28 (ldV (C.ti Q1) false s_2 v141)) fun v142 =>
 iT v137 fun w_29 =>
 gB w_29 Q1 .leq v142 (iv 8) fun v143 =>
 pk v137 v143 (bv false) fun v144 =>
 iT v144 fun w_30 =>
 pk v144 (gdV w_30 x7) (bv false) fun v147 =>
 iT v147 fun w_31 =>
 iT v147 fun w_32 =>
 bind1 (gd w_32 (nilCheckV (gdV w_31 x3))) fun v150 =>
 iT v147 fun w_33 =>
 bind1 (gd w_33 (faV 4 v150)) fun v151 =>
 iT v147 fun w_34 =>
 bind1 (gd w_34 (ldV (C.ti Qr) false s_2 v151)) fun v152 =>
 iT v147 fun w_35 =>
 gL w_35 Qr v152 fun v153 =>
 iT v147 fun w_36 =>
 gB w_36 Q1 .leq v153 (iv 64) fun v154 =>
 pk v147 v154 (bv false) fun v155 =>
 nt v155 fun v165_2 =>
 condS v165_2 (
 some (.ret (iv 19), s_2)) (
 some (.ret (iv 0), s_2)))) (
 bn Qd .eql v113 (iv 4) fun v157 =>
 condS v157 (
 bind1 (nilCheckV x3) fun v159 =>
 fa 4 v159 fun v160 =>
 ld Qr s_1 v160 fun v161 =>
 ln Qr v161 fun v162 =>
 bn Q1 .eql v162 (iv 1) fun v163 =>
 nt v163 fun v165_3 =>
 condS v165_3 (
 some (.ret (iv 19), s_1)) (
 some (.ret (iv 0), s_1))) (
 bind1 (unS .not (bv true)) fun v165_4 =>
 condS v165_4 (
 some (.ret (iv 19), s_1)) (
 some (.ret (iv 0), s_1))))))) := by intros; unfold Qy; exact (Q1p _).trans (by kernel_rfl)
theorem Q4e (a0 : AV) (s : St) : cw (.f Zf) [a0] s =
 bx QA (.val a0) fun c1 =>
 gC Q0v 0 c1 fun v11 =>
 bind1 (nilCheckV v11) fun v13 =>
 fa 5 v13 fun v14 =>
 ld Qx s v14 fun v15 =>
 ln Qx v15 fun v16 =>
 bn Q1 .gtr v16 (iv 0) fun v17 =>
 bind1 (nilCheckV v11) fun v19 =>
 fa 6 v19 fun v20 =>
 ld ZG s v20 fun v21 =>
 ln ZG v21 fun v22 =>
 bn Q1 .gtr v22 (iv 0) fun v23 =>
 bind1 (nilCheckV v11) fun v25 =>
 fa 2 v25 fun v26 =>
 ld Q2 s v26 fun v27 =>
 bn Q2 .neq v27 (sv []) fun v28 =>
 iF v28 fun w =>
 iF v28 fun w_1 =>
 bind1 (gd w_1 (nilCheckV (gdV w v11))) fun v31 =>
 iF v28 fun w_2 =>
 bind1 (gd w_2 (faV 3 v31)) fun v32 =>
 iF v28 fun w_3 =>
 bind1 (gd w_3 (ldV (C.ti Q1) false s v32)) fun v33 =>
 iF v28 fun w_4 =>
 gB w_4 Q1 .neq v33 (iv 0) fun v34 =>
 pk v28 (bv true) v34 fun v35 =>
 bind1 (nilCheckV v11) fun v37 =>
 fa 4 v37 fun v38 =>
 ld Qr s v38 fun v39 =>
 ln Qr v39 fun v40 =>
 bn Q1 .gtr v40 (iv 0) fun v41 =>
 bind1 (nilCheckV v11) fun v43 =>
 fa 0 v43 fun v44 =>
 ld Qd s v44 fun v45 =>
 bn Qd .eql v45 (iv 1) fun v47 =>
 condS v47 (
 nt v23 fun v49 =>
 iT v49 fun w_5 =>
 iT v49 fun w_6 =>
 bind1 (gd w_6 (unS .not (gdV w_5 v35))) fun v52 =>
 pk v49 v52 (bv false) fun v53 =>
 iT v53 fun w_7 =>
 iT v53 fun w_8 =>
 bind1 (gd w_8 (unS .not (gdV w_7 v41))) fun v56 =>
 pk v53 v56 (bv false) fun v57 =>
 Qy c1 v11 v23 v41 v57 s) (
 bn Qd .eql v45 (iv 2) fun v59 =>
 condS v59 (
 nt v17 fun v61 =>
 iT v61 fun w_37 =>
 iT v61 fun w_38 =>
 bind1 (gd w_38 (unS .not (gdV w_37 v35))) fun v64 =>
 pk v61 v64 (bv false) fun v65 =>
 iT v65 fun w_39 =>
 iT v65 fun w_40 =>
 bind1 (gd w_40 (unS .not (gdV w_39 v41))) fun v68 =>
 pk v65 v68 (bv false) fun v69 =>
 Qy c1 v11 v23 v41 v69 s) (
 bn Qd .eql v45 (iv 3) fun v71 =>
 condS v71 (
 nt v17 fun v73 =>
 iT v73 fun w_41 =>
 iT v73 fun w_42 =>
 bind1 (gd w_42 (unS .not (gdV w_41 v23))) fun v76 =>
 pk v73 v76 (bv false) fun v77 =>
 Qy c1 v11 v23 v41 v77 s) (
 bn Qd .eql v45 (iv 4) fun v79 =>
 condS v79 (
 nt v17 fun v81 =>
 iT v81 fun w_43 =>
 iT v81 fun w_44 =>
 bind1 (gd w_44 (unS .not (gdV w_43 v23))) fun v84 =>
 pk v81 v84 (bv false) fun v85 =>
 iT v85 fun w_45 =>
 iT v85 fun w_46 =>
 bind1 (gd w_46 (unS .not (gdV w_45 v35))) fun v88 =>
 pk v85 v88 (bv false) fun v89 =>
 Qy c1 v11 v23 v41 v89 s) (
 Qy c1 v11 v23 v41 (bv false) s)))) := (Q6 _ _ _).trans (by kernel_rfl)
theorem Qcj (a0 : AV) (s : St) : cw (.f Q0k) [a0] s =
 bn Q2 .neq (.val a0) (sv []) fun v4 =>
 iT v4 fun w =>
 iT v4 fun w_1 =>
 bind1 (gd w_1 (indexS (C.ti Q2) (C.ti T_0) (gdV w (.val a0)) (iv 0))) fun v7 =>
 iT v4 fun w_2 =>
 cg w_2 Q1G [v7] s fun v8 s_1 =>
 pk v4 v8 (bv false) fun v9 =>
 iT v9 fun w_3 =>
 iT v9 fun w_4 =>
 cg w_4 Q1F [(gdV w_3 (.val a0))] s_1 fun v12 s_2 =>
 pk v9 v12 (bv false) fun v13 =>
 iT v13 fun w_5 =>
 iT v13 fun w_6 =>
 gB w_6 Q2 .add (sv [32]) (gdV w_5 (.val a0)) fun v16 =>
 iT v13 fun w_7 =>
 gB w_7 Q2 .add v16 (sv [32]) fun v17 =>
 iT v13 fun w_8 =>
 cg w_8 Q0H [(.val (.str Q7K)), v17] s_2 fun v18 s_3 =>
 iT v13 fun w_9 =>
 gN w_9 v18 fun v19 =>
 pk v13 v19 (bv false) fun v20 =>
 some (.ret v20, s_3) := (Q6 _ _ _).trans (by kernel_rfl)
theorem Q7G (a0 : AV) (s : St) : cw (.f Q1H) [a0] s =
 bx Qi (.val a0) fun c1 =>
 gC Q4 3 c1 fun v5 =>
 bx Q4 v5 fun c =>
 pZ Q4 c fun c3 =>
 gC Qg 2 c1 fun v8 =>
 nt v8 fun v9 =>
 iT v9 fun w =>
 iT v9 fun w_1 =>
 gG w_1 w Qb 0 c3 fun v12 =>
 iT v9 fun w_2 =>
 gB w_2 Qb .neq v12 (iv 0) fun v13 =>
 iT v9 fun w_3 =>
 bindB (Slot.isB (gdV w_3 v13) false) fun w_4 =>
 bindB (Slot.isB (gdV w_3 v13) false) fun w_5 =>
 gG w_5 w_4 Q1 1 c3 fun v16 =>
 bindB (Slot.isB (gdV w_3 v13) false) fun w_6 =>
 gB w_6 Q1 .neq v16 (iv 0) fun v17 =>
 iT v9 fun w_7 =>
 bind1 (gd w_7 (pickS (gdV w_3 v13) (bv true) v17)) fun v18 =>
 iT v9 fun w_8 =>
 bindB (Slot.isB (gdV w_8 v18) false) fun w_9 =>
 bindB (Slot.isB (gdV w_8 v18) false) fun w_10 =>
 gG w_10 w_9 Q2 2 c3 fun v21 =>
 bindB (Slot.isB (gdV w_8 v18) false) fun w_11 =>
 gB w_11 Q2 .neq v21 (sv []) fun v22 =>
 iT v9 fun w_12 =>
 bind1 (gd w_12 (pickS (gdV w_8 v18) (bv true) v22)) fun v23 =>
 iT v9 fun w_13 =>
 bindB (Slot.isB (gdV w_13 v23) false) fun w_14 =>
 bindB (Slot.isB (gdV w_13 v23) false) fun w_15 =>
 gG w_15 w_14 Q8 3 c3 fun v26 =>
 bindB (Slot.isB (gdV w_13 v23) false) fun w_16 =>
 gL w_16 Q8 v26 fun v27 =>
 bindB (Slot.isB (gdV w_13 v23) false) fun w_17 =>
 gB w_17 Q1 .gtr v27 (iv 0) fun v28 =>
 iT v9 fun w_18 =>
 bind1 (gd w_18 (pickS (gdV w_13 v23) (bv true) v28)) fun v29 =>
 pk v9 v29 (bv false) fun v30 =>
 condS v30 (
 some (.ret (iv 29), s)) (
 gC Q2 0 c1 fun v33 =>
 ca Q0S [v33] s fun v34 s_1 =>
 nt v34 fun v35 =>
 condS v35 (
 some (.ret (iv 8), s_1)) (
 some (.ret (iv 0), s_1))) := (Q6 _ _ _).trans (by kernel_rfl)
theorem Q7H (a0 : AV) (s : St) : cw (.f Q1I) [a0] s =
 bindL (boxCells (C.ti ZZ) (.val a0)) fun c1 =>
 bind1 (ofSlots (C.ti Q3) (List.take (C.ti Q3).size (List.drop 0 c1))) fun v7 =>
 back (cal cw true (tgtV (.val (.fn Q55 [])) [v7]) s) fun v8 s_1 =>
 bind1 (extractS v8 0) fun v9 =>
 bind1 (extractS v8 1) fun v10 =>
 bindL (boxCells (C.ti Q0) v9) fun c =>
 bindL (putAt (List.map .val (C.ti Q0).zero) 0 c) fun c3 =>
 bind1 (unS .not v10) fun v13 =>
 bindB (Slot.isB v13 false) fun w =>
 bindB (Slot.isB v13 false) fun w_1 =>
 bind1 (gd w_1 (bif w then (ofSlots (C.ti Qg) (List.take (C.ti Qg).size (List.drop 0 c3))) else none)) fun v16 =>
 bindB (Slot.isB v13 false) fun w_2 =>
 bind1 (gd w_2 (unS .not v16)) fun v17 =>
 bindB (Slot.isB v13 false) fun w_3 =>
 bindB (Slot.isB (gdV w_3 v17) true) fun w_4 =>
 bindB (Slot.isB (gdV w_3 v17) true) fun w_5 =>
 bind1 (gd w_5 (bif w_4 then (ofSlots (C.ti Q2) (List.take (C.ti Q2).size (List.drop 2 c1))) else none)) fun v20 =>
 bindB (Slot.isB (gdV w_3 v17) true) fun w_6 =>
 bind1 (gd w_6 (binS (C.ti Q2) .neq v20 (.val (.str [])))) fun v21 =>
 bindB (Slot.isB v13 false) fun w_7 =>
 bind1 (gd w_7 (pickS (gdV w_3 v17) v21 (.val (.bool false)))) fun v22 =>
 bind1 (pickS v13 (.val (.bool true)) v22) fun v23 =>
 bindB (Slot.isB v23 false) fun w_8 =>
 bindB (Slot.isB v23 false) fun w_9 =>
 bind1 (gd w_9 (bif w_8 then (ofSlots (C.ti Qg) (List.take (C.ti Qg).size (List.drop 1 c3))) else none)) fun v26 =>
 bindB (Slot.isB v23 false) fun w_10 =>
 bind1 (gd w_10 (unS .not v26)) fun v27 =>
 bindB (Slot.isB v23 false) fun w_11 =>
 bindB (Slot.isB (gdV w_11 v27) true) fun w_12 =>
 bindB (Slot.isB (gdV w_11 v27) true) fun w_13 =>
 bind1 (gd w_13 (bif w_12 then (ofSlots (C.ti Q1) (List.take (C.ti Q1).size (List.drop 3 c1))) else none)) fun v30 =>
 bindB (Slot.isB (gdV w_11 v27) true) fun w_14 =>
 bind1 (gd w_14 (binS (C.ti Q1) .neq v30 (.val (.int .i64 0)))) fun v31 =>
 bindB (Slot.isB v23 false) fun w_15 =>
 bind1 (gd w_15 (pickS (gdV w_11 v27) v31 (.val (.bool false)))) fun v32 =>
 bind1 (pickS v23 (.val (.bool true)) v32) fun v33 =>
 bindB (Slot.isB v33 false) fun w_16 =>
 bindB (Slot.isB v33 false) fun w_17 =>
 bind1 (gd w_17 (bif w_16 then (ofSlots (C.ti Qg) (List.take (C.ti Qg).size (List.drop 2 c3))) else none)) fun v36 =>
 bindB (Slot.isB v33 false) fun w_18 =>
 bind1 (gd w_18 (unS .not v36)) fun v37 =>
 bindB (Slot.isB v33 false) fun w_19 =>
 bindB (Slot.isB (gdV w_19 v37) true) fun w_20 =>
 bindB (Slot.isB (gdV w_19 v37) true) fun w_21 =>
 bind1 (gd w_21 (bif w_20 then (ofSlots (C.ti Qx) (List.take (C.ti Qx).size (List.drop 5 c1))) else none)) fun v40 =>
 bindB (Slot.isB (gdV w_19 v37) true) fun w_22 =>
 bind1 (gd w_22 (lenS (C.ti Qx) v40)) fun v41 =>
 bindB (Slot.isB (gdV w_19 v37) true) fun w_23 =>
 bind1 (gd w_23 (binS (C.ti Q1) .gtr v41 (.val (.int .i64 0)))) fun v42 =>
 bindB (Slot.isB v33 false) fun w_24 =>
 bind1 (gd w_24 (pickS (gdV w_19 v37) v42 (.val (.bool false)))) fun v43 =>
 bind1 (pickS v33 (.val (.bool true)) v43) fun v44 =>
 bindB (Slot.isB v44 false) fun w_25 =>
 bindB (Slot.isB v44 false) fun w_26 =>
 bind1 (gd w_26 (bif w_25 then (ofSlots (C.ti Qg) (List.take (C.ti Qg).size (List.drop 3 c3))) else none)) fun v47 =>
 bindB (Slot.isB v44 false) fun w_27 =>
 bind1 (gd w_27 (unS .not v47)) fun v48 =>
 bindB (Slot.isB v44 false) fun w_28 =>
 bindB (Slot.isB (gdV w_28 v48) true) fun w_29 =>
 bindB (Slot.isB (gdV w_28 v48) true) fun w_30 =>
 bind1 (gd w_30 (bif w_29 then (ofSlots (C.ti Qz) (List.take (C.ti Qz).size (List.drop 6 c1))) else none)) fun v51 =>
 bindB (Slot.isB (gdV w_28 v48) true) fun w_31 =>
 bind1 (gd w_31 (lenS (C.ti Qz) v51)) fun v52 =>
 bindB (Slot.isB (gdV w_28 v48) true) fun w_32 =>
 bind1 (gd w_32 (binS (C.ti Q1) .gtr v52 (.val (.int .i64 0)))) fun v53 =>
 bindB (Slot.isB v44 false) fun w_33 =>
 bind1 (gd w_33 (pickS (gdV w_28 v48) v53 (.val (.bool false)))) fun v54 =>
 bind1 (pickS v44 (.val (.bool true)) v54) fun v55 =>
 bindB (Slot.isB v55 false) fun w_34 =>
 bindB (Slot.isB v55 false) fun w_35 =>
 bind1 (gd w_35 (bif w_34 then (ofSlots (C.ti Q1) (List.take (C.ti Q1).size (List.drop 5 c3))) else none)) fun v58 =>
 bindB (Slot.isB v55 false) fun w_36 =>
 bind1 (gd w_36 (binS (C.ti Q1) .eql v58 (.val (.int .i64 0)))) fun v59 =>
 bindB (Slot.isB v55 false) fun w_37 =>
 bindB (Slot.isB (gdV w_37 v59) true) fun w_38 =>
 bindB (Slot.isB (gdV w_37 v59) true) fun w_39 =>
 bind1 (gd w_39 (bif w_38 then (ofSlots (C.ti QJ) (List.take (C.ti QJ).size (List.drop 4 c1))) else none)) fun v62 =>
 bindB (Slot.isB (gdV w_37 v59) true) fun w_40 =>
 bind1 (gd w_40 (lenS (C.ti QJ) v62)) fun v63 =>
 bindB (Slot.isB (gdV w_37 v59) true) fun w_41 =>
 bind1 (gd w_41 (binS (C.ti Q1) .gtr v63 (.val (.int .i64 0)))) fun v64 =>
 bindB (Slot.isB v55 false) fun w_42 =>
 bind1 (gd w_42 (pickS (gdV w_37 v59) v64 (.val (.bool false)))) fun v65 =>
 bind1 (pickS v55 (.val (.bool true)) v65) fun v66 =>
 condS v66 (
 some (.ret (.val (.int .i64 29)), s_1)) (
 bind1 (ofSlots (C.ti Q3) (List.take (C.ti Q3).size (List.drop 0 c1))) fun v69 =>
 bind1 (binS (C.ti Q3) .eql v69 (.val (.int .i64 2))) fun v70 =>
 bindB (Slot.isB v70 true) fun w_43 =>
 bindB (Slot.isB v70 true) fun w_44 =>
 bind1 (gd w_44 (bif w_43 then (ofSlots (C.ti Q2) (List.take (C.ti Q2).size (List.drop 2 c1))) else none)) fun v73 =>
 bindB (Slot.isB v70 true) fun w_45 =>
 back (cal cw w_45 (tgtV (.val (.fn Q0k [])) [v73]) s_1) fun v74 s_2 =>
 bindB (Slot.isB v70 true) fun w_46 =>
 bind1 (gd w_46 (unS .not v74)) fun v75 =>
 bind1 (pickS v70 v75 (.val (.bool false))) fun v76 =>
 bindB (Slot.isB v76 false) fun w_47 =>
 bindB (Slot.isB v76 false) fun w_48 =>
 bind1 (gd w_48 (bif w_47 then (ofSlots (C.ti Q3) (List.take (C.ti Q3).size (List.drop 0 c1))) else none)) fun v79 =>
 bindB (Slot.isB v76 false) fun w_49 =>
 bind1 (gd w_49 (binS (C.ti Q3) .eql v79 (.val (.int .i64 3)))) fun v80 =>
 bindB (Slot.isB v76 false) fun w_50 =>
 bindB (Slot.isB (gdV w_50 v80) true) fun w_51 =>
 bindB (Slot.isB (gdV w_50 v80) true) fun w_52 =>
 bind1 (gd w_52 (bif w_51 then (ofSlots (C.ti Q2) (List.take (C.ti Q2).size (List.drop 2 c1))) else none)) fun v83 =>
 bindB (Slot.isB (gdV w_50 v80) true) fun w_53 =>
 back (cal cw w_53 (tgtV (.val (.fn ZL [])) [v83]) s_2) fun v84 s_3 =>
 bindB (Slot.isB (gdV w_50 v80) true) fun w_54 =>
 bind1 (gd w_54 (unS .not v84)) fun v85 =>
 bindB (Slot.isB v76 false) fun w_55 =>
 bind1 (gd w_55 (pickS (gdV w_50 v80) v85 (.val (.bool false)))) fun v86 =>
 bind1 (pickS v76 (.val (.bool true)) v86) fun v87 =>
 condS v87 (
 some (.ret (.val (.int .i64 8)), s_3)) (
 bind1 (ofSlots (C.ti Q3) (List.take (C.ti Q3).size (List.drop 0 c1))) fun v90 =>
 bind1 (binS (C.ti Q3) .eql v90 (.val (.int .i64 1))) fun v91 =>
 bindB (Slot.isB v91 true) fun w_56 =>
 bindB (Slot.isB v91 true) fun w_57 =>
 bind1 (gd w_57 (bif w_56 then (ofSlots (C.ti Q1) (List.take (C.ti Q1).size (List.drop 3 c1))) else none)) fun v94 =>
 bindB (Slot.isB v91 true) fun w_58 =>
 back (cal cw w_58 (tgtV (.val (.fn Q1D [])) [v94]) s_3) fun v95 s_4 =>
 bindB (Slot.isB v91 true) fun w_59 =>
 bind1 (gd w_59 (unS .not v95)) fun v96 =>
 bind1 (pickS v91 v96 (.val (.bool false))) fun v97 =>
 bindB (Slot.isB v97 false) fun w_60 =>
 bindB (Slot.isB v97 false) fun w_61 =>
 bind1 (gd w_61 (bif w_60 then (ofSlots (C.ti Q3) (List.take (C.ti Q3).size (List.drop 0 c1))) else none)) fun v100 =>
 bindB (Slot.isB v97 false) fun w_62 =>
 bind1 (gd w_62 (binS (C.ti Q3) .eql v100 (.val (.int .i64 13)))) fun v101 =>
 bindB (Slot.isB v97 false) fun w_63 =>
 bindB (Slot.isB (gdV w_63 v101) true) fun w_64 =>
 bindB (Slot.isB (gdV w_63 v101) true) fun w_65 =>
 bind1 (gd w_65 (bif w_64 then (ofSlots (C.ti Q1) (List.take (C.ti Q1).size (List.drop 3 c1))) else none)) fun v104 =>
 bindB (Slot.isB (gdV w_63 v101) true) fun w_66 =>
 bind1 (gd w_66 (binS (C.ti Q1) .lss v104 (.val (.int .i64 1)))) fun v105 =>
 bindB (Slot.isB (gdV w_63 v101) true) fun w_67 =>
 bindB (Slot.isB (gdV w_67 v105) false) fun w_68 =>
 bindB (Slot.isB (gdV w_67 v105) false) fun w_69 =>
 bind1 (gd w_69 (bif w_68 then (ofSlots (C.ti Q1) (List.take (C.ti Q1).size (List.drop 3 c1))) else none)) fun v108 =>
 bindB (Slot.isB (gdV w_67 v105) false) fun w_70 =>
 bind1 (gd w_70 (binS (C.ti Q1) .gtr v108 (.val (.int .i64 9)))) fun v109 =>
 bindB (Slot.isB (gdV w_63 v101) true) fun w_71 =>
 bind1 (gd w_71 (pickS (gdV w_67 v105) (.val (.bool true)) v109)) fun v110 =>
 bindB (Slot.isB v97 false) fun w_72 =>
 bind1 (gd w_72 (pickS (gdV w_63 v101) v110 (.val (.bool false)))) fun v111 =>
 bind1 (pickS v97 (.val (.bool true)) v111) fun v112 =>
 condS v112 (
 some (.ret (.val (.int .i64 2)), s_4)) (
 bind1 (ofSlots (C.ti QJ) (List.take (C.ti QJ).size (List.drop 4 c1))) fun v115 =>
 bind1 (lenS (C.ti QJ) v115) fun v116 =>
 bind1 (ofSlots (C.ti Q1) (List.take (C.ti Q1).size (List.drop 4 c3))) fun v118 =>
 bind1 (binS (C.ti Q1) .lss v116 v118) fun v119 =>
 bindB (Slot.isB v119 false) fun w_73 =>
 bindB (Slot.isB v119 false) fun w_74 =>
 bind1 (gd w_74 (bif w_73 then (ofSlots (C.ti QJ) (List.take (C.ti QJ).size (List.drop 4 c1))) else none)) fun v122 =>
 bindB (Slot.isB v119 false) fun w_75 =>
 bind1 (gd w_75 (lenS (C.ti QJ) v122)) fun v123 =>
 bindB (Slot.isB v119 false) fun w_76 =>
 bindB (Slot.isB v119 false) fun w_77 =>
 bind1 (gd w_77 (bif w_76 then (ofSlots (C.ti Q1) (List.take (C.ti Q1).size (List.drop 5 c3))) else none)) fun v125 =>
 bindB (Slot.isB v119 false) fun w_78 =>
 bind1 (gd w_78 (binS (C.ti Q1) .gtr v123 v125)) fun v126 =>
 bind1 (pickS v119 (.val (.bool true)) v126) fun v127 =>
 bindB (Slot.isB v127 false) fun w_79 =>
 bindB (Slot.isB v127 false) fun w_80 =>
 bind1 (gd w_80 (bif w_79 then (ofSlots (C.ti Qg) (List.take (C.ti Qg).size (List.drop 2 c3))) else none)) fun v130 =>
 bindB (Slot.isB v127 false) fun w_81 =>
 bindB (Slot.isB (gdV w_81 v130) true) fun w_82 =>
 bindB (Slot.isB (gdV w_81 v130) true) fun w_83 =>
 bind1 (gd w_83 (bif w_82 then (ofSlots (C.ti Qx) (List.take (C.ti Qx).size (List.drop 5 c1))) else none)) fun v133 =>
 bindB (Slot.isB (gdV w_81 v130) true) fun w_84 =>
 bind1 (gd w_84 (lenS (C.ti Qx) v133)) fun v134 =>
 bindB (Slot.isB (gdV w_81 v130) true) fun w_85 =>
 bind1 (gd w_85 (binS (C.ti Q1) .eql v134 (.val (.int .i64 0)))) fun v135 =>
 bindB (Slot.isB v127 false) fun w_86 =>
 bind1 (gd w_86 (pickS (gdV w_81 v130) v135 (.val (.bool false)))) fun v136 =>
 bind1 (pickS v127 (.val (.bool true)) v136) fun v137 =>
 bindB (Slot.isB v137 false) fun w_87 =>
 bindB (Slot.isB v137 false) fun w_88 =>
 bind1 (gd w_88 (bif w_87 then (ofSlots (C.ti Qg) (List.take (C.ti Qg).size (List.drop 3 c3))) else none)) fun v140 =>
 bindB (Slot.isB v137 false) fun w_89 =>
 bindB (Slot.isB (gdV w_89 v140) true) fun w_90 =>
 bindB (Slot.isB (gdV w_89 v140) true) fun w_91 =>
 bind1 (gd w_91 (bif w_90 then (ofSlots (C.ti Qz) (List.take (C.ti Qz).size (List.drop 6 c1))) else none)) fun v143 =>
 bindB (Slot.isB (gdV w_89 v140) true) fun w_92 =>
 bind1 (gd w_92 (lenS (C.ti Qz) v143)) fun v144 =>
 bindB (Slot.isB (gdV w_89 v140) true) fun w_93 =>
 bind1 (gd w_93 (binS (C.ti Q1) .eql v144 (.val (.int .i64 0)))) fun v145 =>
 bindB (Slot.isB v137 false) fun w_94 =>
 bind1 (gd w_94 (pickS (gdV w_89 v140) v145 (.val (.bool false)))) fun v146 =>
 bind1 (pickS v137 (.val (.bool true)) v146) fun v147 =>
 condS v147 (
 some (.ret (.val (.int .i64 19)), s_4)) (
 some (.ret (.val (.int .i64 0)), s_4))))) := (Q6 _ _ _).trans (by kernel_rfl)
noncomputable def QI : List Slot → Slot → Slot → Slot → Slot → St → Res := fun x1 x3 x4 x5 x6 s => pwD Q0E [.seqR, .seqR, .seqR] Try.f62 [(1, .var x1), (3, .s x3), (4, .s x4), (5, .s x5), (6, .s x6)] s
theorem Q5r : ∀ x1 x3 x4 x5 x6 s_1, QI x1 x3 x4 x5 x6 s_1 =
 nt x3 fun v23 =>
 iT v23 fun w =>
 iT v23 fun w_1 =>
 gG w_1 w Q2 2 x1 fun v26 =>
 iT v23 fun w_2 =>
 gB w_2 Q2 .neq v26 (sv []) fun v27 =>
 pk v23 v27 (bv false) fun v28 =>
 iF v28 fun w_3 =>
 iF v28 fun w_4 =>
 bind1 (gd w_4 (unS .not (gdV w_3 x4))) fun v31 =>
 iF v28 fun w_5 =>
 bindB (Slot.isB (gdV w_5 v31) true) fun w_6 =>
 bindB (Slot.isB (gdV w_5 v31) true) fun w_7 =>
 gG w_7 w_6 Q1 3 x1 fun v34 =>
 bindB (Slot.isB (gdV w_5 v31) true) fun w_8 =>
 gB w_8 Q1 .neq v34 (iv 0) fun v35 =>
 iF v28 fun w_9 =>
 bind1 (gd w_9 (pickS (gdV w_5 v31) v35 (bv false))) fun v36 =>
 pk v28 (bv true) v36 fun v37 =>
 iF v37 fun w_10 =>
 iF v37 fun w_11 =>
 gB w_11 Q1 .eql (gdV w_10 x6) (iv 0) fun v40 =>
 iF v37 fun w_12 =>
 bindB (Slot.isB (gdV w_12 v40) true) fun w_13 =>
 bindB (Slot.isB (gdV w_12 v40) true) fun w_14 =>
 gG w_14 w_13 QZ 4 x1 fun v43 =>
 bindB (Slot.isB (gdV w_12 v40) true) fun w_15 =>
 gL w_15 QZ v43 fun v44 =>
 bindB (Slot.isB (gdV w_12 v40) true) fun w_16 =>
 gB w_16 Q1 .gtr v44 (iv 0) fun v45 =>
 iF v37 fun w_17 =>
 bind1 (gd w_17 (pickS (gdV w_12 v40) v45 (bv false))) fun v46 =>
 pk v37 (bv true) v46 fun v47 =>
 condS v47 (
 some (.ret (iv 29), s_1)) (
 gC QE 0 x1 fun v50 =>
 bn QE .eql v50 (iv 4) fun v51 =>
 iT v51 fun w_18 =>
 iT v51 fun w_19 =>
 gG w_19 w_18 Q2 2 x1 fun v54 =>
 iT v51 fun w_20 =>
 cg w_20 ZL [v54] s_1 fun v55 s_2 =>
 iT v51 fun w_21 =>
 gN w_21 v55 fun v56 =>
 pk v51 v56 (bv false) fun v57 =>
 iF v57 fun w_22 =>
 iF v57 fun w_23 =>
 bindB (Slot.isB (gdV w_23 (gdV w_22 x3)) true) fun w_24 =>
 bindB (Slot.isB (gdV w_23 (gdV w_22 x3)) true) fun w_25 =>
 gG w_25 w_24 QE 0 x1 fun v62 =>
 bindB (Slot.isB (gdV w_23 (gdV w_22 x3)) true) fun w_26 =>
 gB w_26 QE .neq v62 (iv 4) fun v63 =>
 iF v57 fun w_27 =>
 bind1 (gd w_27 (pickS (gdV w_23 (gdV w_22 x3)) v63 (bv false))) fun v64 =>
 iF v57 fun w_28 =>
 bindB (Slot.isB (gdV w_28 v64) true) fun w_29 =>
 bindB (Slot.isB (gdV w_28 v64) true) fun w_30 =>
 gG w_30 w_29 Q2 2 x1 fun v67 =>
 bindB (Slot.isB (gdV w_28 v64) true) fun w_31 =>
 cg w_31 Q0k [v67] s_2 fun v68 s_3 =>
 bindB (Slot.isB (gdV w_28 v64) true) fun w_32 =>
 gN w_32 v68 fun v69 =>
 iF v57 fun w_33 =>
 bind1 (gd w_33 (pickS (gdV w_28 v64) v69 (bv false))) fun v70 =>
 pk v57 (bv true) v70 fun v71 =>
 condS v71 (
 some (.ret (iv 8), s_3)) (
 iT x4 fun w_34 =>
 iT x4 fun w_35 =>
 gG w_35 w_34 Q1 3 x1 fun v76 =>
 iT x4 fun w_36 =>
 cg w_36 Q1D [v76] s_3 fun v77 s_4 =>
 iT x4 fun w_37 =>
 gN w_37 v77 fun v78 =>
 pk x4 v78 (bv false) fun v79 =>
 condS v79 (
 some (.ret (iv 2), s_4)) (
 gC QZ 4 x1 fun v82 =>
 ln QZ v82 fun v83 =>
 bn Q1 .lss v83 x5 fun v85 =>
 iF v85 fun w_38 =>
 iF v85 fun w_39 =>
 gG w_39 w_38 QZ 4 x1 fun v88 =>
 iF v85 fun w_40 =>
 gL w_40 QZ v88 fun v89 =>
 iF v85 fun w_41 =>
 iF v85 fun w_42 =>
 gB w_42 Q1 .gtr v89 (gdV w_41 x6) fun v91 =>
 pk v85 (bv true) v91 fun v92 =>
 condS v92 (
 some (.ret (iv 19), s_4)) (
 some (.ret (iv 0), s_4))))) := by intros; unfold QI; exact (Q1p _).trans (by kernel_rfl)
theorem Q7I (a0 : AV) (s : St) : cw (.f Q0E) [a0] s =
 bx Q0l (.val a0) fun c1 =>
 gC QE 0 c1 fun v8 =>
 bn QE .eql v8 (iv 1) fun v10 =>
 condS v10 (
 QI c1 (bv false) (bv false) (iv 0) (iv 0) s) (
 bn QE .eql v8 (iv 2) fun v12 =>
 condS v12 (
 QI c1 (bv true) (bv false) (iv 0) (iv 0) s) (
 bn QE .eql v8 (iv 3) fun v14 =>
 condS v14 (
 QI c1 (bv false) (bv true) (iv 0) (iv 0) s) (
 bn QE .eql v8 (iv 4) fun v16 =>
 condS v16 (
 QI c1 (bv true) (bv false) (iv 0) (iv 1) s) (
 bn QE .eql v8 (iv 5) fun v18 =>
 condS v18 (
 QI c1 (bv false) (bv false) (iv 2) (iv 8) s) (
 bn QE .eql v8 (iv 6) fun v20 =>
 condS v20 (
 QI c1 (bv true) (bv false) (iv 1) (iv 1) s) (
 some (.ret (iv 29), s))))))) := (Q6 _ _ _).trans (by kernel_rfl)
noncomputable def QY : Slot → Slot → Slot → St → Res := fun x3_1 x4_1 x5_1 s => pwD Q03 [.seqR, .seqR, .seqR, .seqR, .seqR] Try.f63 [(3, .s x3_1), (4, .s x4_1), (5, .s x5_1)] s
noncomputable def Zl : List Slot → Slot → Slot → Slot → Slot → Slot → St → Res := fun x1 x3 x4 x5 x56 x61 s => pwD Q03 [.seqR, .seqR, .seqR, .seqR, .seqL, .seqR, .block, .seqR] Try.f63 [(1, .var x1), (3, .s x3), (4, .s x4), (5, .s x5), (56, .s x56), (61, .s x61)] s
theorem Q6g : ∀ x3_1 x4_1 x5_1 s_2, QY x3_1 x4_1 x5_1 s_2 =
 bn Q1 .lss x3_1 x4_1 fun v74 =>
 iF v74 fun w_26 =>
 iF v74 fun w_27 =>
 iF v74 fun w_28 =>
 gB w_28 Q1 .gtr (gdV w_26 x3_1) (gdV w_27 x5_1) fun v78 =>
 pk v74 (bv true) v78 fun v79 =>
 condS v79 (
 some (.ret (iv 19), s_2)) (
 some (.ret (iv 0), s_2)) := by intros; unfold QY; exact (Q1p _).trans (by kernel_rfl)
theorem Q6f : ∀ x1 x3 x4 x5 x56 x61 s_1, Zl x1 x3 x4 x5 x56 x61 s_1 =
 condS x61 (
 QY x3 x4 x5 s_1) (
 bn Q2 .eql x56 (sv [114, 101, 102]) fun v67 =>
 condS v67 (
 QY x3 (iv 1) (iv 1) s_1) (
 bn Q2 .eql x56 (sv [45, 62]) fun v69 =>
 condS v69 (
 QY x3 (iv 2) (iv 2) s_1) (
 bn Q2 .eql x56 (sv [42]) fun v71 =>
 condS v71 (
 QY x3 (iv 2) (iv 8) s_1) (
 gC Q2 2 x1 fun v58 =>
 ca Q0k [v58] s_1 fun v59 s_3 =>
 nt v59 fun v60 =>
 condS v60 (
 some (.ret (iv 8), s_3)) (
 QY x3 x4 (iv 8) s_3))))) := by intros; unfold Zl; exact (Q1p _).trans (by kernel_rfl)
theorem Q8P (a0 : AV) (s : St) : cw (.f Q03) [a0] s =
 bx Q4 (.val a0) fun c1 =>
 gC Q8 3 c1 fun v7 =>
 ln Q8 v7 fun v8 =>
 gC Qb 0 c1 fun v11 =>
 bn Qb .eql v11 (iv 1) fun v12 =>
 iT v12 fun w =>
 iT v12 fun w_1 =>
 gG w_1 w Q2 2 c1 fun v15 =>
 iT v12 fun w_2 =>
 gB w_2 Q2 .neq v15 (sv []) fun v16 =>
 iT v12 fun w_3 =>
 bindB (Slot.isB (gdV w_3 v16) false) fun w_4 =>
 bindB (Slot.isB (gdV w_3 v16) false) fun w_5 =>
 gB w_5 Q1 .gtr (gdV w_4 v8) (iv 0) fun v19 =>
 iT v12 fun w_6 =>
 bind1 (gd w_6 (pickS (gdV w_3 v16) (bv true) v19)) fun v20 =>
 pk v12 v20 (bv false) fun v21 =>
 iF v21 fun w_7 =>
 iF v21 fun w_8 =>
 gG w_8 w_7 Qb 0 c1 fun v24 =>
 iF v21 fun w_9 =>
 gB w_9 Qb .eql v24 (iv 2) fun v25 =>
 iF v21 fun w_10 =>
 bindB (Slot.isB (gdV w_10 v25) true) fun w_11 =>
 bindB (Slot.isB (gdV w_10 v25) true) fun w_12 =>
 gG w_12 w_11 Q1 1 c1 fun v28 =>
 bindB (Slot.isB (gdV w_10 v25) true) fun w_13 =>
 gB w_13 Q1 .neq v28 (iv 0) fun v29 =>
 iF v21 fun w_14 =>
 bind1 (gd w_14 (pickS (gdV w_10 v25) v29 (bv false))) fun v30 =>
 pk v21 (bv true) v30 fun v31 =>
 iF v31 fun w_15 =>
 iF v31 fun w_16 =>
 gG w_16 w_15 Qb 0 c1 fun v34 =>
 iF v31 fun w_17 =>
 gB w_17 Qb .neq v34 (iv 1) fun v35 =>
 iF v31 fun w_18 =>
 bindB (Slot.isB (gdV w_18 v35) true) fun w_19 =>
 bindB (Slot.isB (gdV w_18 v35) true) fun w_20 =>
 gG w_20 w_19 Qb 0 c1 fun v38 =>
 bindB (Slot.isB (gdV w_18 v35) true) fun w_21 =>
 gB w_21 Qb .neq v38 (iv 2) fun v39 =>
 iF v31 fun w_22 =>
 bind1 (gd w_22 (pickS (gdV w_18 v35) v39 (bv false))) fun v40 =>
 pk v31 (bv true) v40 fun v41 =>
 condS v41 (
 some (.ret (iv 29), s)) (
 gC Qb 0 c1 fun v44 =>
 bn Qb .eql v44 (iv 1) fun v45 =>
 iT v45 fun w_23 =>
 iT v45 fun w_24 =>
 gG w_24 w_23 Q1 1 c1 fun v48 =>
 iT v45 fun w_25 =>
 gB w_25 Q1 .lss v48 (iv 0) fun v49 =>
 pk v45 v49 (bv false) fun v50 =>
 condS v50 (
 some (.ret (iv 2), s)) (
 gC Qb 0 c1 fun v53 =>
 bn Qb .eql v53 (iv 1) fun v54 =>
 condS v54 (
 some (.ret (iv 0), s)) (
 gC Q2 2 c1 fun v56 =>
 bn Q2 .eql v56 (sv [105, 110, 116]) fun v62 =>
 condS v62 (
 Zl c1 v8 (iv 0) (iv 0) v56 v62 s) (
 bn Q2 .eql v56 (sv [98, 111, 111, 108]) fun v63 =>
 condS v63 (
 Zl c1 v8 (iv 0) (iv 0) v56 v63 s) (
 bn Q2 .eql v56 (sv [117, 110, 105, 116]) fun v64 =>
 condS v64 (
 Zl c1 v8 (iv 0) (iv 0) v56 v64 s) (
 bn Q2 .eql v56 (sv [101, 120, 110]) fun v65 =>
 Zl c1 v8 (iv 0) (iv 0) v56 v65 s)))))) := (Q6 _ _ _).trans (by kernel_rfl)
noncomputable def QW : Slot → List Slot → Slot → Slot → St → Res := fun x1 x2 x7 x8 s => lpD QN [.seqR, .seqL, .seqR, .block] Try.f64 [(1, .s x1), (2, .var x2), (7, .s x7), (8, .s x8)] s
theorem Q10 : ∀ x1 x2 x7 x8 s_1, QW x1 x2 x7 x8 s_1 =
 bn Q1 .lss x8 x7 fun v9 =>
 condS v9 (
 gA Qm x2 fun v11 =>
 ix Zn x1 x8 fun v14 =>
 fa 0 v14 fun v15 =>
 cn QT [v11, v15] s_1 fun v16 s_2 =>
 nt v16 fun v17 =>
 iF v17 fun w =>
 bind1 (gd w (ofSlots (C.ti Qm) (List.take (C.ti Qm).size x2))) fun v19 =>
 iF v17 fun w_1 =>
 iF v17 fun w_2 =>
 iF v17 fun w_3 =>
 bind1 (gd w_3 (ixS (C.ti Zn).size (gdV w_1 x1) (gdV w_2 x8))) fun v22 =>
 iF v17 fun w_4 =>
 bind1 (gd w_4 (faV 5 v22)) fun v23 =>
 iF v17 fun w_5 =>
 back (noPan (cal cw w_5 (tgtV (.val (.fn Zc [])) [v19, v23]) s_2)) fun v24 s_3 =>
 iF v17 fun w_6 =>
 gN w_6 v24 fun v25 =>
 pk v17 (bv true) v25 fun v26 =>
 condS v26 (
 some (.ret (bv false), s_3)) (
 nx x8 fun v27 =>
 QW x1 x2 x7 v27 s_3)) (
 some (.ret (bv true), s_1)) := by intros; unfold QW; exact (Qc _ _ _ _ _ _).trans (by kernel_rfl)
theorem Q1X (a0 : AV) (a1 : AV) (s : St) : cw (.f QN) [a0, a1] s =
 bx Qm (.val a0) fun c2 =>
 ln Qx (.val a1) fun v7 =>
 QW (.val a1) c2 v7 (iv 0) s := (Q6 _ _ _).trans (by kernel_rfl)
noncomputable def QX : Slot → Slot → List Slot → Slot → Slot → St → Res := fun x1 x2 x3 x19 x20 s => lpD QO [.seqR, .seqR, .seqL, .seqR, .block] Try.f65 [(1, .s x1), (2, .s x2), (3, .var x3), (19, .s x19), (20, .s x20)] s
theorem Q11 : ∀ x1 x2 x3 x19 x20 s_2, QX x1 x2 x3 x19 x20 s_2 =
 bn Q1 .lss x20 x19 fun v21 =>
 condS v21 (
 gA Qm x3 fun v23 =>
 bind1 (nilCheckV x1) fun v25 =>
 fa 3 v25 fun v26 =>
 ld Q8 s_2 v26 fun v27 =>
 ix Q4 v27 x20 fun v29 =>
 cn QO [v23, v29, x2] s_2 fun v31 s_3 =>
 nt v31 fun v32 =>
 condS v32 (
 some (.ret (bv false), s_3)) (
 nx x20 fun v33 =>
 QX x1 x2 x3 x19 v33 s_3)) (
 some (.ret (bv true), s_2)) := by intros; unfold QX; exact (Qc _ _ _ _ _ _).trans (by kernel_rfl)
theorem Q50 (a0 : AV) (a1 : AV) (a2 : AV) (s : St) : cw (.f QO) [a0, a1, a2] s =
 bx Qm (.val a0) fun c3 =>
 gC Qh 0 c3 fun v9 =>
 bd QA [(6, Q2n, (.val a1)), (7, Q1, (.val a2))] fun v12 =>
 back (cal cw true (tgtV v9 [v12]) s) fun v13 s_1 =>
 nt v13 fun v14 =>
 condS v14 (
 some (.ret (bv false), s_1)) (
 bind1 (nilCheckV (.val a1)) fun v16 =>
 fa 3 v16 fun v17 =>
 ld Q8 s_1 v17 fun v18 =>
 ln Q8 v18 fun v19 =>
 QX (.val a1) (.val a2) c3 v19 (iv 0) s_1) := (Q6 _ _ _).trans (by kernel_rfl)
noncomputable def ZT : Slot → Slot → Slot → Slot → St → Res := fun x3 x7 x8 x9 s => lpD Zv [.seqR, .seqR, .seqL, .seqR, .block] Try.f66 [(3, .s x3), (7, .s x7), (8, .s x8), (9, .s x9)] s
theorem Q2z : ∀ x3 x7 x8 x9 s_1, ZT x3 x7 x8 x9 s_1 =
 bn Q1 .lss x9 x8 fun v10 =>
 condS v10 (
 ix Q0l x7 x9 fun v11 =>
 ld Q0l s_1 v11 fun v12 =>
 bx Q0l v12 fun c =>
 pZ Q0l c fun c5 =>
 gA Q0l c5 fun v14 =>
 ca Zv [v14] s_1 fun v15 s_2 =>
 bind1 (max2 x3 v15) fun v16 =>
 nx x9 fun v17 =>
 ZT v16 x7 x8 v17 s_2) (
 nx x3 fun v19 =>
 some (.ret v19, s_1)) := by intros; unfold ZT; exact (Qc _ _ _ _ _ _).trans (by kernel_rfl)
theorem Q8M (a0 : AV) (s : St) : cw (.f Zv) [a0] s =
 bx Q0l (.val a0) fun c1 =>
 gC QZ 4 c1 fun v7 =>
 ln QZ v7 fun v8 =>
 ZT (iv 0) v7 v8 (iv 0) s := (Q6 _ _ _).trans (by kernel_rfl)
noncomputable def ZS : Slot → Slot → Slot → Slot → St → Res := fun x3 x14 x15 x16 s => lpD Q02 [.seqR, .seqR, .seqL, .seqR, .block] Try.f67 [(3, .s x3), (14, .s x14), (15, .s x15), (16, .s x16)] s
theorem Q2y : ∀ x3 x14 x15 x16 s_3, ZS x3 x14 x15 x16 s_3 =
 bn Q1 .lss x16 x15 fun v17 =>
 condS v17 (
 ix ZZ x14 x16 fun v18 =>
 ld ZZ s_3 v18 fun v19 =>
 bx ZZ v19 fun c =>
 pZ ZZ c fun c5 =>
 gA ZZ c5 fun v21 =>
 ca Q02 [v21] s_3 fun v22 s_4 =>
 bind1 (max2 x3 v22) fun v23 =>
 nx x16 fun v24 =>
 ZS v23 x14 x15 v24 s_4) (
 nx x3 fun v26 =>
 some (.ret v26, s_3)) := by intros; unfold ZS; exact (Qc _ _ _ _ _ _).trans (by kernel_rfl)
theorem Q8L (a0 : AV) (s : St) : cw (.f Q02) [a0] s =
 bx ZZ (.val a0) fun c1 =>
 gC Qz 6 c1 fun v7 =>
 cn QL [v7] s fun v8 s_1 =>
 gC Qx 5 c1 fun v10 =>
 cn QQ [v10] s_1 fun v11 s_2 =>
 bind1 (max2 v8 v11) fun v12 =>
 gC QJ 4 c1 fun v14 =>
 ln QJ v14 fun v15 =>
 ZS v12 v14 v15 (iv 0) s_2 := (Q6 _ _ _).trans (by kernel_rfl)
theorem Q8y (a0 : AV) (a1 : AV) (s : St) : cw (.f Q24) [a0, a1] s =
 condS (.val a1) (
 bn Qu .geq (.val a0) (.val (.int .u8 65)) fun v7 =>
 iT v7 fun w =>
 iT v7 fun w_1 =>
 gB w_1 Qu .leq (gdV w (.val a0)) (.val (.int .u8 90)) fun v10 =>
 pk v7 v10 (bv false) fun v11 =>
 some (.ret v11, s)) (
 bn Qu .geq (.val a0) (.val (.int .u8 97)) fun v13 =>
 iT v13 fun w_2 =>
 iT v13 fun w_3 =>
 gB w_3 Qu .leq (gdV w_2 (.val a0)) (.val (.int .u8 122)) fun v16 =>
 pk v13 v16 (bv false) fun v17 =>
 iF v17 fun w_4 =>
 iF v17 fun w_5 =>
 gB w_5 Qu .eql (gdV w_4 (.val a0)) (.val (.int .u8 95)) fun v20 =>
 pk v17 (bv true) v20 fun v21 =>
 some (.ret v21, s)) := (Q6 _ _ _).trans (by kernel_rfl)
theorem Qay (a0 : AV) (s : St) : cw (.f Q38) [a0] s =
 bn Qu .geq (.val a0) (.val (.int .u8 97)) fun v4 =>
 iT v4 fun w =>
 iT v4 fun w_1 =>
 gB w_1 Qu .leq (gdV w (.val a0)) (.val (.int .u8 122)) fun v7 =>
 pk v4 v7 (bv false) fun v8 =>
 iF v8 fun w_2 =>
 iF v8 fun w_3 =>
 gB w_3 Qu .geq (gdV w_2 (.val a0)) (.val (.int .u8 65)) fun v11 =>
 iF v8 fun w_4 =>
 bindB (Slot.isB (gdV w_4 v11) true) fun w_5 =>
 bindB (Slot.isB (gdV w_4 v11) true) fun w_6 =>
 gB w_6 Qu .leq (gdV w_5 (.val a0)) (.val (.int .u8 90)) fun v14 =>
 iF v8 fun w_7 =>
 bind1 (gd w_7 (pickS (gdV w_4 v11) v14 (bv false))) fun v15 =>
 pk v8 (bv true) v15 fun v16 =>
 iF v16 fun w_8 =>
 iF v16 fun w_9 =>
 gB w_9 Qu .geq (gdV w_8 (.val a0)) (.val (.int .u8 48)) fun v19 =>
 iF v16 fun w_10 =>
 bindB (Slot.isB (gdV w_10 v19) true) fun w_11 =>
 bindB (Slot.isB (gdV w_10 v19) true) fun w_12 =>
 gB w_12 Qu .leq (gdV w_11 (.val a0)) (.val (.int .u8 57)) fun v22 =>
 iF v16 fun w_13 =>
 bind1 (gd w_13 (pickS (gdV w_10 v19) v22 (bv false))) fun v23 =>
 pk v16 (bv true) v23 fun v24 =>
 iF v24 fun w_14 =>
 iF v24 fun w_15 =>
 gB w_15 Qu .eql (gdV w_14 (.val a0)) (.val (.int .u8 95)) fun v27 =>
 pk v24 (bv true) v27 fun v28 =>
 iF v28 fun w_16 =>
 iF v28 fun w_17 =>
 gB w_17 Qu .eql (gdV w_16 (.val a0)) (.val (.int .u8 39)) fun v31 =>
 pk v28 (bv true) v31 fun v32 =>
 some (.ret v32, s) := (Q6 _ _ _).trans (by kernel_rfl)
theorem QaK (a0 : AV) (s : St) : cw (.f Q1G) [a0] s =
 bn Qu .geq (.val a0) (.val (.int .u8 97)) fun v4 =>
 iT v4 fun w =>
 iT v4 fun w_1 =>
 gB w_1 Qu .leq (gdV w (.val a0)) (.val (.int .u8 122)) fun v7 =>
 pk v4 v7 (bv false) fun v8 =>
 iF v8 fun w_2 =>
 iF v8 fun w_3 =>
 gB w_3 Qu .eql (gdV w_2 (.val a0)) (.val (.int .u8 95)) fun v11 =>
 pk v8 (bv true) v11 fun v12 =>
 some (.ret v12, s) := (Q6 _ _ _).trans (by kernel_rfl)
noncomputable def Q1f : Slot → Slot → St → Res := fun x0 x3 s => lpD Q1F [.seqR, .seqL, .seqR, .block] Try.f71 [(0, .s x0), (3, .s x3)] s
theorem Q4w : ∀ x0 x3 s_1, Q1f x0 x3 s_1 =
 ln Q2 x0 fun v7 =>
 bn Q1 .lss x3 v7 fun v8 =>
 condS v8 (
 bind1 (indexS (C.ti Q2) (C.ti T_0) x0 x3) fun v13 =>
 ca Q1G [v13] s_1 fun v15 s_2 =>
 nt v15 fun v16 =>
 iT v16 fun w =>
 iT v16 fun w_1 =>
 cg w_1 Q1C [(gdV w v13)] s_2 fun v19 s_3 =>
 iT v16 fun w_2 =>
 gN w_2 v19 fun v20 =>
 pk v16 v20 (bv false) fun v21 =>
 iT v21 fun w_3 =>
 iT v21 fun w_4 =>
 gB w_4 Qu .lss (gdV w_3 v13) (.val (.int .u8 48)) fun v24 =>
 iT v21 fun w_5 =>
 bindB (Slot.isB (gdV w_5 v24) false) fun w_6 =>
 bindB (Slot.isB (gdV w_5 v24) false) fun w_7 =>
 gB w_7 Qu .gtr (gdV w_6 v13) (.val (.int .u8 57)) fun v27 =>
 iT v21 fun w_8 =>
 bind1 (gd w_8 (pickS (gdV w_5 v24) (bv true) v27)) fun v28 =>
 pk v21 v28 (bv false) fun v29 =>
 iT v29 fun w_9 =>
 iT v29 fun w_10 =>
 gB w_10 Qu .neq (gdV w_9 v13) (.val (.int .u8 39)) fun v32 =>
 pk v29 v32 (bv false) fun v33 =>
 condS v33 (
 some (.ret (bv false), s_3)) (
 nx x3 fun v10 =>
 Q1f x0 v10 s_3)) (
 ln Q2 x0 fun v35 =>
 bn Q1 .leq v35 (iv 32) fun v36 =>
 some (.ret v36, s_1)) := by intros; unfold Q1f; exact (Qc _ _ _ _ _ _).trans (by kernel_rfl)
theorem Qck (a0 : AV) (s : St) : cw (.f Q1F) [a0] s =
 Q1f (.val a0) (iv 1) s := (Q6 _ _ _).trans (by kernel_rfl)
theorem Q8J (a0 : AV) (s : St) : cw (.f Q0S) [a0] s =
 bn Q2 .neq (.val a0) (sv []) fun v4 =>
 iT v4 fun w =>
 iT v4 fun w_1 =>
 bind1 (gd w_1 (indexS (C.ti Q2) (C.ti T_0) (gdV w (.val a0)) (iv 0))) fun v7 =>
 iT v4 fun w_2 =>
 cg w_2 Q1C [v7] s fun v8 s_1 =>
 pk v4 v8 (bv false) fun v9 =>
 iT v9 fun w_3 =>
 iT v9 fun w_4 =>
 cg w_4 Q1F [(gdV w_3 (.val a0))] s_1 fun v12 s_2 =>
 pk v9 v12 (bv false) fun v13 =>
 some (.ret v13, s_2) := (Q6 _ _ _).trans (by kernel_rfl)
end Go.Proofs.Ytoahliipbclneaa