/- A part of the proof: G2. -/
import Derived.Test.YtoahliipbclneaaGreatM4
set_option linter.unusedVariables false
set_option linter.unusedSimpArgs false
namespace Go.Proofs.YtoahliipbclneaaGreat
open Go Go.Am
set_option linter.unusedVariables false
noncomputable def Zq : Slot → List Slot → Slot → Slot → St → Res := fun x0 x3 x5 x8 s => lpD Q0r [.seqR, .seqR, .seqR, .seqR, .seqR, .seqR, .seqL, .seqR, .block] Tryz.f5 [(0, .s x0), (3, .var x3), (5, .s x5), (8, .s x8)] s
theorem Q2m : ∀ x0 x3 x5 x8 s_8, Zq x0 x3 x5 x8 s_8 =
 gC Qj 4 x3 fun v64 =>
 ln Qj v64 fun v65 =>
 bn Q1 .lss x8 v65 fun v66 =>
 condS v66 (
 gC Qj 4 x3 fun v72 =>
 ix Qi v72 x8 fun v74 =>
 fa 0 v74 fun v75 =>
 ld Q2 s_8 v75 fun v76 =>
 ca Q1g [x5, v76] s_8 fun v77 s_9 =>
 ex v77 0 fun v78 =>
 ex v77 1 fun v79 =>
 bx Q6 v78 fun c_1 =>
 pZ Q6 c_1 fun c9 =>
 gC Qj 4 x3 fun v83 =>
 ix Qi v83 x8 fun v85 =>
 fa 0 v85 fun v86 =>
 ld Q2 s_9 v86 fun v87 =>
 ca Q1g [x0, v87] s_9 fun v88 s_10 =>
 ex v88 0 fun v89 =>
 ex v88 1 fun v90 =>
 bx Q6 v89 fun c_2 =>
 pZ Q6 c_2 fun c11 =>
 nt v79 fun v92 =>
 iF v92 fun w_14 =>
 pk v92 (bv true) (gdV w_14 v90) fun v95 =>
 iF v95 fun w_15 =>
 iF v95 fun w_16 =>
 gG w_16 w_15 Qh 4 c9 fun v98 =>
 iF v95 fun w_17 =>
 iF v95 fun w_18 =>
 gG w_18 w_17 Qj 4 x3 fun v100 =>
 iF v95 fun w_19 =>
 iF v95 fun w_20 =>
 bind1 (gd w_20 (ixS (C.ti Qi).size v100 (gdV w_19 x8))) fun v102 =>
 iF v95 fun w_21 =>
 bind1 (gd w_21 (faV 2 v102)) fun v103 =>
 iF v95 fun w_22 =>
 bind1 (gd w_22 (ldV (C.ti Qh) false s_10 v103)) fun v104 =>
 iF v95 fun w_23 =>
 gB w_23 Qh .neq v98 v104 fun v105 =>
 pk v95 (bv true) v105 fun v106 =>
 iF v106 fun w_24 =>
 bind1 (gd w_24 (ofSlots (C.ti Q6) (List.take (C.ti Q6).size c9))) fun v108 =>
 iF v106 fun w_25 =>
 iF v106 fun w_26 =>
 iF v106 fun w_27 =>
 gL w_27 Qz (gdV w_26 x0) fun v111 =>
 iF v106 fun w_28 =>
 iF v106 fun w_29 =>
 gB w_29 Q1 .add v111 (gdV w_28 x8) fun v113 =>
 iF v106 fun w_30 =>
 bind1 (gd w_30 (ixS (C.ti Q6).size (gdV w_25 x5) v113)) fun v114 =>
 iF v106 fun w_31 =>
 bind1 (gd w_31 (ldV (C.ti Q6) false s_10 v114)) fun v115 =>
 iF v106 fun w_32 =>
 back (noPan (cal cw w_32 (tgtV (.val (.fn Q0s [])) [v108, v115]) s_10)) fun v116 s_11 =>
 iF v106 fun w_33 =>
 gN w_33 v116 fun v117 =>
 pk v106 (bv true) v117 fun v118 =>
 condS v118 (
 some (.ret (bv false), s_11)) (
 nx x8 fun v68 =>
 Zq x0 x3 x5 v68 s_11)) (
 ca Q16 [] s_8 fun v119 s_12 =>
 some (.ret v119, s_12)) := by intros; unfold Zq; exact (Qb _ _ _ _ _ _).trans (by kernel_rfl)
theorem Q7t (a0 : AV) (a1 : AV) (s : St) : cw (.f Q0r) [a0, a1] s =
 bx Qc (.val a1) fun c3 =>
 gA Qc c3 fun v13 =>
 bs Qc [v13] fun v14 =>
 ca Q28 [v14] s fun v15 s_1 =>
 nt v15 fun v16 =>
 iF v16 fun w =>
 iF v16 fun w_1 =>
 cg w_1 Zm [(gdV w (.val a0))] s_1 fun v19 s_2 =>
 iF v16 fun w_2 =>
 gN w_2 v19 fun v20 =>
 pk v16 (bv true) v20 fun v21 =>
 condS v21 (
 ca Q16 [] s_2 fun v22 s_3 =>
 some (.ret v22, s_3)) (
 gA Qc c3 fun v25 =>
 ca Z1 [(.val a0), v25] s_2 fun v26 s_4 =>
 ex v26 0 fun v27 =>
 ex v26 1 fun v28 =>
 bx Q7 v28 fun c =>
 pZ Q7 c fun c6 =>
 gA Q7 c6 fun v29 =>
 bd Q7 [] fun v30 =>
 bn Q7 .neq v29 v30 fun v31 =>
 condS v31 (
 ln Qz v27 fun v33 =>
 bn Q1 .eql v33 (iv 0) fun v34 =>
 iT v34 fun w_3 =>
 cg w_3 Q16 [] s_4 fun v36 s_5 =>
 pk v34 v36 (bv false) fun v37 =>
 some (.ret v37, s_5)) (
 ln Qz (.val a0) fun v39 =>
 gC Qj 4 c3 fun v41 =>
 ln Qj v41 fun v42 =>
 bn Q1 .add v39 v42 fun v43 =>
 ln Qz v27 fun v45 =>
 bn Q1 .neq v45 v43 fun v47 =>
 iF v47 fun w_4 =>
 iF v47 fun w_5 =>
 cg w_5 Zm [(gdV w_4 v27)] s_4 fun v50 s_6 =>
 iF v47 fun w_6 =>
 gN w_6 v50 fun v51 =>
 pk v47 (bv true) v51 fun v52 =>
 iF v52 fun w_7 =>
 iF v52 fun w_8 =>
 iF v52 fun w_9 =>
 gL w_9 Qz (gdV w_8 (.val a0)) fun v56 =>
 iF v52 fun w_10 =>
 bind1 (gd w_10 (sliceS (C.ti Qz) (C.ti Q6).size (gdV w_7 v27) none (some v56) none)) fun v57 =>
 iF v52 fun w_11 =>
 iF v52 fun w_12 =>
 cg w_12 Q2u [v57, (gdV w_11 (.val a0))] s_6 fun v59 s_7 =>
 iF v52 fun w_13 =>
 gN w_13 v59 fun v60 =>
 pk v52 (bv true) v60 fun v61 =>
 condS v61 (
 some (.ret (bv false), s_7)) (
 Zq (.val a0) c3 v27 (iv 0) s_7))) := (Q5 _ _ _).trans (by kernel_rfl)
noncomputable def Q1N : Slot → Slot → St → Res := fun x0 x3 s => lpD Q28 [.seqR, .seqL, .seqR, .block] Tryz.f6 [(0, .s x0), (3, .s x3)] s
theorem Q3S : ∀ x0 x3 s_1, Q1N x0 x3 s_1 =
 ln Qo x0 fun v6 =>
 bn Q1 .lss x3 v6 fun v7 =>
 condS v7 (
 nx x3 fun v13 =>
 bind1 (sliceS (C.ti Qo) (C.ti Qc).size x0 (some x3) (some v13) none) fun v14 =>
 ca Q3H [v14] s_1 fun v15 s_2 =>
 bd Q7 [] fun v16 =>
 bn Q7 .neq v15 v16 fun v17 =>
 condS v17 (
 some (.ret (bv false), s_2)) (
 nx x3 fun v9 =>
 Q1N x0 v9 s_2)) (
 some (.ret (bv true), s_1)) := by intros; unfold Q1N; exact (Qb _ _ _ _ _ _).trans (by kernel_rfl)
theorem Qbg (a0 : AV) (s : St) : cw (.f Q28) [a0] s =
 Q1N (.val a0) (iv 0) s := (Q5 _ _ _).trans (by kernel_rfl)
theorem Qbf (s : St) : cw (.f Q16) [] s =
 bd Qi [(0, Q2, (sv [78, 111, 110, 101]))] fun v6 =>
 bd Q4 [(0, Qk, (iv 1))] fun v7 =>
 bd Qi [(0, Q2, (sv [83, 111, 109, 101])), (2, Qh, (bv true)), (3, Q4, v7)] fun v8 =>
 bs Qi [v6, v8] fun v9 =>
 bd Qc [(0, Qe, (iv 3)), (2, Q2, (sv [111, 112, 116])), (3, Q1, (iv 1)), (4, Qj, v9)] fun v10 =>
 bx Qc v10 fun c =>
 pZ Qc c fun c1 =>
 cn Q1u [] s fun v12 s_1 =>
 gA Qc c1 fun v13 =>
 cn Z1 [v12, v13] s_1 fun v14 s_2 =>
 ex v14 0 fun v15 =>
 ex v14 1 fun v16 =>
 bx Q7 v16 fun c_1 =>
 pZ Q7 c_1 fun c3 =>
 ca Q1g [v15, (sv [83, 111, 109, 101])] s_2 fun v19 s_3 =>
 ex v19 0 fun v20 =>
 ex v19 1 fun v21 =>
 bx Q6 v20 fun c_2 =>
 pZ Q6 c_2 fun c4 =>
 ln Qz v15 fun v23 =>
 bn Q1 .eql v23 (iv 8) fun v24 =>
 iT v24 fun w =>
 bind1 (gd w (ofSlots (C.ti Q7) (List.take (C.ti Q7).size c3))) fun v26 =>
 iT v24 fun w_1 =>
 bind1 (gd w_1 (buildS (C.ti Q7).zero [])) fun v27 =>
 iT v24 fun w_2 =>
 gB w_2 Q7 .eql v26 v27 fun v28 =>
 pk v24 v28 (bv false) fun v29 =>
 iT v29 fun w_3 =>
 pk v29 (gdV w_3 v21) (bv false) fun v32 =>
 iT v32 fun w_4 =>
 iT v32 fun w_5 =>
 gG w_5 w_4 Q1 2 c4 fun v35 =>
 iT v32 fun w_6 =>
 gB w_6 Q1 .eql v35 (iv 1) fun v36 =>
 pk v32 v36 (bv false) fun v37 =>
 iT v37 fun w_7 =>
 iT v37 fun w_8 =>
 gG w_8 w_7 Q1 3 c4 fun v40 =>
 iT v37 fun w_9 =>
 gB w_9 Q1 .eql v40 (iv 2) fun v41 =>
 pk v37 v41 (bv false) fun v42 =>
 iT v42 fun w_10 =>
 iT v42 fun w_11 =>
 chkP w_10 w_11 fun _ =>
 iT v42 fun w_12 =>
 bind1 (gd w_12 (bif (w_10 && w_11) then (ofSlots (C.ti Q1) (List.take (C.ti Q1).size (List.drop 5 c4))) else none)) fun v46 =>
 iT v42 fun w_13 =>
 gB w_13 Q1 .eql v46 (iv 1) fun v47 =>
 pk v42 v47 (bv false) fun v48 =>
 iT v48 fun w_14 =>
 iT v48 fun w_15 =>
 chkP w_14 w_15 fun _ =>
 iT v48 fun w_16 =>
 chkP (w_14 && w_15) w_16 fun _ =>
 iT v48 fun w_17 =>
 bind1 (gd w_17 (bif ((w_14 && w_15) && w_16) then (ofSlots (C.ti Q2) (List.take (C.ti Q2).size (List.drop 8 c4))) else none)) fun v53 =>
 iT v48 fun w_18 =>
 gB w_18 Q2 .eql v53 (sv [45, 62]) fun v54 =>
 pk v48 v54 (bv false) fun v55 =>
 iT v55 fun w_19 =>
 iT v55 fun w_20 =>
 cg w_20 Zm [(gdV w_19 v15)] s_3 fun v58 s_4 =>
 pk v55 v58 (bv false) fun v59 =>
 some (.ret v59, s_4) := (Q5 _ _ _).trans (by kernel_rfl)
noncomputable def Q1l : List Slot → Slot → List Slot → St → Res := fun x5_4 x6_4 x18_2 s => pwD Z1 [.seqR, .scope, .seqR, .seqR, .seqR, .seqR, .seqR, .seqR, .seqR, .seqR, .seqR, .seqR, .seqR] Tryz.f9 [(5, .var x5_4), (6, .s x6_4), (18, .var x18_2)] s
noncomputable def Q3m : List Slot → List Slot → Slot → Slot → Slot → Slot → Slot → Slot → List Slot → Slot → List Slot → List Slot → List Slot → Slot → Slot → Slot → St → Res := fun x3_4 x5_5 x6_5 x7_4 x8_4 x9_4 x10_4 x13_3 x16_2 x17_2 x18_3 x20_1 x25 x90_2 x91_2 x92_2 s => pwD Z1 [.seqR, .scope, .seqR, .seqR, .seqR, .seqR, .seqR, .seqR, .seqR, .seqR, .seqR, .seqR, .seqL, .seqR, .block, .loop, .seqR, .seqR, .seqL, .block, .seqR, .seqR, .seqR, .seqR, .seqR, .seqR, .seqR, .seqR] Tryz.f9 [(3, .var x3_4), (5, .var x5_5), (6, .s x6_5), (7, .s x7_4), (8, .s x8_4), (9, .s x9_4), (10, .s x10_4), (13, .s x13_3), (16, .var x16_2), (17, .s x17_2), (18, .var x18_3), (20, .var x20_1), (25, .var x25), (90, .s x90_2), (91, .s x91_2), (92, .s x92_2)] s
noncomputable def ZH : List Slot → List Slot → Slot → Slot → Slot → Slot → Slot → Slot → List Slot → Slot → List Slot → List Slot → Slot → Slot → Slot → Slot → Slot → St → Res := fun x3_3 x5_3 x6_3 x7_3 x8_3 x9_3 x10_3 x13_2 x16_1 x17_1 x18_1 x20 x21 x22 x90_1 x91_1 x92_1 s => pwD Z1 [.seqR, .scope, .seqR, .seqR, .seqR, .seqR, .seqR, .seqR, .seqR, .seqR, .seqR, .seqR, .seqL, .seqR, .block, .loop, .seqR, .seqR, .seqL, .block, .seqR, .seqR, .seqR, .seqR] Tryz.f9 [(3, .var x3_3), (5, .var x5_3), (6, .s x6_3), (7, .s x7_3), (8, .s x8_3), (9, .s x9_3), (10, .s x10_3), (13, .s x13_2), (16, .var x16_1), (17, .s x17_1), (18, .var x18_1), (20, .var x20), (21, .s x21), (22, .s x22), (90, .s x90_1), (91, .s x91_1), (92, .s x92_1)] s
noncomputable def Q1W : List Slot → List Slot → Slot → Slot → Slot → Slot → Slot → Slot → List Slot → Slot → List Slot → Slot → Slot → Slot → St → Res := fun x3_2 x5_2 x6_2 x7_2 x8_2 x9_2 x10_2 x13_1 x16 x17 x18 x90 x91 x92 s => lpD Z1 [.seqR, .scope, .seqR, .seqR, .seqR, .seqR, .seqR, .seqR, .seqR, .seqR, .seqR, .seqR, .seqL, .seqR, .block] Tryz.f9 [(3, .var x3_2), (5, .var x5_2), (6, .s x6_2), (7, .s x7_2), (8, .s x8_2), (9, .s x9_2), (10, .s x10_2), (13, .s x13_1), (16, .var x16), (17, .s x17), (18, .var x18), (90, .s x90), (91, .s x91), (92, .s x92)] s
noncomputable def Q1k : List Slot → List Slot → Slot → Slot → Slot → Slot → Slot → Slot → St → Res := fun x3_1 x5_1 x6_1 x7_1 x8_1 x9_1 x10_1 x13 s => pwD Z1 [.seqR, .scope, .seqR, .seqR, .seqR, .seqR, .seqR, .seqR, .seqR] Tryz.f9 [(3, .var x3_1), (5, .var x5_1), (6, .s x6_1), (7, .s x7_1), (8, .s x8_1), (9, .s x9_1), (10, .s x10_1), (13, .s x13)] s
noncomputable def Q0n : List Slot → List Slot → Slot → Slot → Slot → Slot → Slot → Slot → Slot → Slot → St → Res := fun x3 x5 x6 x7 x8 x9 x10 x34 x35 x36 s => lpD Z1 [.seqR, .scope, .seqR, .seqR, .seqR, .seqR, .seqL, .seqR, .block] Tryz.f9 [(3, .var x3), (5, .var x5), (6, .s x6), (7, .s x7), (8, .s x8), (9, .s x9), (10, .s x10), (34, .s x34), (35, .s x35), (36, .s x36)] s
theorem Q5N : ∀ x5_4 x6_4 x18_2 s_10, Q1l x5_4 x6_4 x18_2 s_10 =
 gC Qq 0 x18_2 fun v165 =>
 bn Qq .neq v165 (iv 0) fun v166 =>
 condS v166 (
 gA Q7 x18_2 fun v167 =>
 bx Q7 v167 fun c_5 =>
 pt x5_4 0 c_5 fun c5_1 =>
 rt [(some (.val (.nils))), (ofSlots (C.ti Q7) (List.take (C.ti Q7).size c5_1))] s_10) (
 bd Q7 [] fun v169 =>
 bx Q7 v169 fun c_6 =>
 pt x5_4 0 c_6 fun c5_2 =>
 rt [(some x6_4), (ofSlots (C.ti Q7) (List.take (C.ti Q7).size c5_2))] s_10) := by intros; unfold Q1l; exact (Q0t _).trans (by kernel_rfl)
theorem Q5O : ∀ x3_4 x5_5 x6_5 x7_4 x8_4 x9_4 x10_4 x13_3 x16_2 x17_2 x18_3 x20_1 x25 x90_2 x91_2 x92_2 s_14, Q3m x3_4 x5_5 x6_5 x7_4 x8_4 x9_4 x10_4 x13_3 x16_2 x17_2 x18_3 x20_1 x25 x90_2 x91_2 x92_2 s_14 =
 gC Q2 0 x20_1 fun v149 =>
 gC Qh 2 x20_1 fun v154 =>
 gA Q4 x25 fun v156 =>
 bd Q0m [(0, Q1, x17_2), (1, Q4, v156)] fun v157 =>
 bd Q6 [(0, Q2, v149), (1, Q2, x13_3), (2, Q1, x9_4), (3, Q1, x10_4), (4, Qh, v154), (5, Q0m, v157)] fun v158 =>
 bs Q6 [v158] fun v159 =>
 ap Q6 s_14 x6_5 v159 fun v160 s_15 =>
 nx x9_4 fun v162 =>
 nx x92_2 fun v163 =>
 Q1W x3_4 x5_5 v160 x7_4 x8_4 v162 x10_4 x13_3 x16_2 x17_2 x18_3 x90_2 x91_2 v163 s_15 := by intros; unfold Q3m; exact (Q0t _).trans (by kernel_rfl)
theorem Q3f : ∀ x3_3 x5_3 x6_3 x7_3 x8_3 x9_3 x10_3 x13_2 x16_1 x17_1 x18_1 x20 x21 x22 x90_1 x91_1 x92_1 s_9, ZH x3_3 x5_3 x6_3 x7_3 x8_3 x9_3 x10_3 x13_2 x16_1 x17_1 x18_1 x20 x21 x22 x90_1 x91_1 x92_1 s_9 =
 bn Qq .neq x21 (iv 0) fun v128 =>
 condS v128 (
 gC Q1 1 x20 fun v131 =>
 bd Q7 [(0, Qq, x21), (1, Q1, v131), (2, Q2, x22)] fun v133 =>
 bx Q7 v133 fun c_4 =>
 pt x18_1 0 c_4 fun c18 =>
 Q1l x5_3 x6_3 c18 s_9) (
 gC Q2 0 x20 fun v136 =>
 lk Q2 Q1 s_9 x8_3 v136 false fun v137 =>
 nx v137 fun v138 =>
 upd2 Q2 Q1 s_9 x8_3 v136 v138 fun _ s_11 =>
 gA Q4 x16_1 fun v139 =>
 ca Q8W [v139, (.val (.nils))] s_11 fun v140 s_12 =>
 bx Q4 v140 fun c_7 =>
 pZ Q4 c_7 fun c25 =>
 gC Qh 2 x20 fun v142 =>
 condS v142 (
 gC Q4 3 x20 fun v144 =>
 gA Q4 x16_1 fun v145 =>
 ca QaY [v144, v145] s_12 fun v146 s_13 =>
 bx Q4 v146 fun c_8 =>
 pt c25 0 c_8 fun c25_1 =>
 Q3m x3_3 x5_3 x6_3 x7_3 x8_3 x9_3 x10_3 x13_2 x16_1 x17_1 x18_1 x20 c25_1 x90_1 x91_1 x92_1 s_13) (
 Q3m x3_3 x5_3 x6_3 x7_3 x8_3 x9_3 x10_3 x13_2 x16_1 x17_1 x18_1 x20 c25 x90_1 x91_1 x92_1 s_12)) := by intros; unfold ZH; exact (Q0t _).trans (by kernel_rfl)
theorem ZN : ∀ x3_2 x5_2 x6_2 x7_2 x8_2 x9_2 x10_2 x13_1 x16 x17 x18 x90 x91 x92 s_8, Q1W x3_2 x5_2 x6_2 x7_2 x8_2 x9_2 x10_2 x13_1 x16 x17 x18 x90 x91 x92 s_8 =
 bn Q1 .lss x92 x91 fun v93 =>
 condS v93 (
 ix Qi x90 x92 fun v94 =>
 ld Qi s_8 v94 fun v95 =>
 bx Qi v95 fun c_3 =>
 pZ Qi c_3 fun c20 =>
 gC Q2 0 c20 fun v97 =>
 gC Q2 0 c20 fun v101 =>
 lk Q2 Q1 s_8 x8_2 v101 false fun v102 =>
 bn Q1 .gtr v102 (iv 0) fun v103 =>
 condS v103 (
 ZH x3_2 x5_2 x6_2 x7_2 x8_2 x9_2 x10_2 x13_1 x16 x17 x18 c20 (iv 9) v97 x90 x91 x92 s_8) (
 gC Qe 0 x3_2 fun v106 =>
 bn Qe .eql v106 (iv 4) fun v107 =>
 iT v107 fun w_3 =>
 iT v107 fun w_4 =>
 gB w_4 Q1 .gtr (gdV w_3 x9_2) (iv 1023) fun v110 =>
 pk v107 v110 (bv false) fun v111 =>
 condS v111 (
 ZH x3_2 x5_2 x6_2 x7_2 x8_2 x9_2 x10_2 x13_1 x16 x17 x18 c20 (iv 19) v97 x90 x91 x92 s_8) (
 gC Qh 2 c20 fun v114 =>
 condS v114 (
 gC Q4 3 c20 fun v119 =>
 ca Q4r [x7_2, x17, v119] s_8 fun v120 s_16 =>
 ex v120 0 fun v121 =>
 ex v120 1 fun v122 =>
 bn Qq .neq v121 (iv 0) fun v124 =>
 condS v124 (
 ZH x3_2 x5_2 x6_2 x7_2 x8_2 x9_2 x10_2 x13_1 x16 x17 x18 c20 v121 v122 x90 x91 x92 s_16) (
 ZH x3_2 x5_2 x6_2 x7_2 x8_2 x9_2 x10_2 x13_1 x16 x17 x18 c20 (iv 0) v97 x90 x91 x92 s_16)) (
 ZH x3_2 x5_2 x6_2 x7_2 x8_2 x9_2 x10_2 x13_1 x16 x17 x18 c20 (iv 0) v97 x90 x91 x92 s_8)))) (
 Q1l x5_2 x6_2 x18 s_8) := by intros; unfold Q1W; exact (Qb _ _ _ _ _ _).trans (by kernel_rfl)
theorem Qb6 : ∀ x3_1 x5_1 x6_1 x7_1 x8_1 x9_1 x10_1 x13 s_6, Q1k x3_1 x5_1 x6_1 x7_1 x8_1 x9_1 x10_1 x13 s_6 =
 gA Qc x3_1 fun v85 =>
 ca Q1T [v85] s_6 fun v86 s_7 =>
 ex v86 0 fun v87 =>
 ex v86 1 fun v88 =>
 bx Q4 v87 fun c_2 =>
 pZ Q4 c_2 fun c16 =>
 gC Qj 4 x3_1 fun v90 =>
 ln Qj v90 fun v91 =>
 Q1W x3_1 x5_1 x6_1 x7_1 x8_1 x9_1 x10_1 x13 c16 v88 ((List.map .val (C.ti Q7).zero)) v90 v91 (iv 0) s_7 := by intros; unfold Q1k; exact (Q0t _).trans (by kernel_rfl)
theorem Q5P : ∀ x3 x5 x6 x7 x8 x9 x10 x34 x35 x36 s_3, Q0n x3 x5 x6 x7 x8 x9 x10 x34 x35 x36 s_3 =
 bn Q1 .lss x36 x35 fun v37 =>
 condS v37 (
 ix Q6 x34 x36 fun v38 =>
 ld Q6 s_3 v38 fun v39 =>
 bx Q6 v39 fun c =>
 pZ Q6 c fun c12 =>
 gC Q2 0 c12 fun v42 =>
 lk Q2 Q1 s_3 x8 v42 false fun v43 =>
 nx v43 fun v44 =>
 upd2 Q2 Q1 s_3 x8 v42 v44 fun _ s_4 =>
 gC Qe 0 x3 fun v46 =>
 bn Qe .eql v46 (iv 4) fun v47 =>
 iT v47 fun w =>
 iT v47 fun w_1 =>
 gG w_1 w Q2 1 c12 fun v50 =>
 iT v47 fun w_2 =>
 gB w_2 Q2 .eql v50 (sv [101, 120, 110]) fun v51 =>
 pk v47 v51 (bv false) fun v52 =>
 condS v52 (
 nx x9 fun v54 =>
 nx x36 fun v55 =>
 Q0n x3 x5 x6 x7 x8 v54 x10 x34 x35 v55 s_4) (
 nx x36 fun v55_1 =>
 Q0n x3 x5 x6 x7 x8 x9 x10 x34 x35 v55_1 s_4)) (
 gC Q2 2 x3 fun v57 =>
 gC Qe 0 x3 fun v59 =>
 bn Qe .eql v59 (iv 3) fun v63 =>
 condS v63 (
 gC Q2 2 x3 fun v67 =>
 lk Q2 Q1 s_3 x7 v67 true fun v68 =>
 ex v68 0 fun v69 =>
 ex v68 1 fun v70 =>
 condS v70 (
 gC Q1 1 x3 fun v73 =>
 gC Q2 2 x3 fun v75 =>
 bd Q7 [(0, Qq, (iv 9)), (1, Q1, v73), (2, Q2, v75)] fun v76 =>
 bx Q7 v76 fun c_1 =>
 pt x5 0 c_1 fun c5 =>
 rt [(some (.val (.nils))), (ofSlots (C.ti Q7) (List.take (C.ti Q7).size c5))] s_3) (
 gC Q2 2 x3 fun v79 =>
 gC Q1 3 x3 fun v81 =>
 upd2 Q2 Q1 s_3 x7 v79 v81 fun _ s_5 =>
 Q1k x3 x5 x6 x7 x8 x9 x10 v57 s_5)) (
 bn Qe .eql v59 (iv 4) fun v83 =>
 condS v83 (
 Q1k x3 x5 x6 x7 x8 x9 (iv 0) (sv [101, 120, 110]) s_3) (
 bd Q7 [] fun v61 =>
 bx Q7 v61 fun c_9 =>
 pt x5 0 c_9 fun c5_3 =>
 rt [(some x6), (ofSlots (C.ti Q7) (List.take (C.ti Q7).size c5_3))] s_3))) := by intros; unfold Q0n; exact (Qb _ _ _ _ _ _).trans (by kernel_rfl)
theorem QeG (a0 : AV) (a1 : AV) (s : St) : cw (.f Z1) [a0, a1] s =
 bx Qc (.val a1) fun c3 =>
 ca Q27 [(.val a0)] s fun v27 s_1 =>
 ca Q2r [(.val a0)] s_1 fun v29 s_2 =>
 gC Qj 4 c3 fun v32 =>
 ln Qj v32 fun v33 =>
 ln Qz (.val a0) fun v35 =>
 Q0n c3 ((List.map .val (C.ti Q7).zero)) v27 v29 (.val (.mp s_2.locs.length)) (iv 0) v33 (.val a0) v35 (iv 0) (St.addLoc s_2 (.map [] 0)) := (Q5 _ _ _).trans (by kernel_rfl)
noncomputable def Q1e : Slot → Slot → Slot → St → Res := fun x0 x1 x5 s => lpD Q2u [.seqR, .seqR, .seqL, .seqR, .block] Tryz.f11 [(0, .s x0), (1, .s x1), (5, .s x5)] s
theorem Q4T : ∀ x0 x1 x5 s_1, Q1e x0 x1 x5 s_1 =
 ln Q0V x0 fun v13 =>
 bn Q1 .lss x5 v13 fun v14 =>
 condS v14 (
 ix Q6 x0 x5 fun v19 =>
 ld Q6 s_1 v19 fun v20 =>
 ix Q6 x1 x5 fun v23 =>
 ld Q6 s_1 v23 fun v24 =>
 cn Q0s [v20, v24] s_1 fun v25 s_2 =>
 nt v25 fun v26 =>
 condS v26 (
 some (.ret (bv false), s_2)) (
 nx x5 fun v16 =>
 Q1e x0 x1 v16 s_2)) (
 some (.ret (bv true), s_1)) := by intros; unfold Q1e; exact (Qb _ _ _ _ _ _).trans (by kernel_rfl)
theorem QcX (a0 : AV) (a1 : AV) (s : St) : cw (.f Q2u) [a0, a1] s =
 ln Q0V (.val a0) fun v7 =>
 ln Q0V (.val a1) fun v9 =>
 bn Q1 .neq v7 v9 fun v10 =>
 condS v10 (
 some (.ret (bv false), s)) (
 Q1e (.val a0) (.val a1) (iv 0) s) := (Q5 _ _ _).trans (by kernel_rfl)
theorem Qbo (a0 : AV) (s : St) : cw (.f Q3H) [a0] s =
 ca Q4d [(.val a0)] s fun v4 s_1 =>
 ca Z8 [(.val a0)] s_1 fun v6 s_2 =>
 ca Q17 [v4, v6] s_2 fun v7 s_3 =>
 bx Q7 v7 fun c =>
 pZ Q7 c fun c2 =>
 gA Q7 c2 fun v => some (.ret v, s_3) := (Q5 _ _ _).trans (by kernel_rfl)
noncomputable def Q2F : List Slot → Slot → Slot → Slot → Slot → St → Res := fun x3 x4 x10 x11 x12 s => lpD Q55 [.seqR, .seqR, .seqL, .seqR, .block] Tryz.f13 [(3, .var x3), (4, .s x4), (10, .s x10), (11, .s x11), (12, .s x12)] s
theorem Q6F : ∀ x3 x4 x10 x11 x12 s_2, Q2F x3 x4 x10 x11 x12 s_2 =
 bn Q1 .lss x12 x11 fun v13 =>
 condS v13 (
 ix Qc x10 x12 fun v14 =>
 ld Qc s_2 v14 fun v15 =>
 bx Qc v15 fun c =>
 pZ Qc c fun c6 =>
 gA Qc c6 fun v18 =>
 ca Z1 [x4, v18] s_2 fun v19 s_3 =>
 ex v19 0 fun v20 =>
 ex v19 1 fun v21 =>
 bx Q7 v21 fun c_1 =>
 pZ Q7 c_1 fun c8 =>
 gC Qq 0 c8 fun v23 =>
 bn Qq .neq v23 (iv 0) fun v24 =>
 condS v24 (
 gA Q7 c8 fun v25 =>
 bx Q7 v25 fun c_2 =>
 pt x3 0 c_2 fun c3 =>
 rt [(some (.val (.nils))), (ofSlots (C.ti Q7) (List.take (C.ti Q7).size c3))] s_3) (
 nx x12 fun v27 =>
 Q2F x3 v20 x10 x11 v27 s_3)) (
 bd Q7 [] fun v29 =>
 bx Q7 v29 fun c_3 =>
 pt x3 0 c_3 fun c3_1 =>
 rt [(some x4), (ofSlots (C.ti Q7) (List.take (C.ti Q7).size c3_1))] s_2) := by intros; unfold Q2F; exact (Qb _ _ _ _ _ _).trans (by kernel_rfl)
theorem QfT (a0 : AV) (s : St) : cw (.f Q55) [a0] s =
 ca Q1u [] s fun v9 s_1 =>
 ln Qo (.val a0) fun v11 =>
 Q2F ((List.map .val (C.ti Q7).zero)) v9 (.val a0) v11 (iv 0) s_1 := (Q5 _ _ _).trans (by kernel_rfl)
noncomputable def Q18 : Slot → Slot → List Slot → List Slot → Slot → Slot → Slot → St → Res := fun x0_1 x4_1 x6 x7 x21_1 x22_1 x23_1 s => pwD Zm [.seqR, .seqR, .seqR, .seqR, .seqL, .seqR, .block, .loop, .seqR, .seqR, .seqL, .block, .seqR, .seqR, .seqR] Tryz.f15 [(0, .s x0_1), (4, .s x4_1), (6, .var x6), (7, .var x7), (21, .s x21_1), (22, .s x22_1), (23, .s x23_1)] s
noncomputable def Q03 : Slot → Slot → Slot → Slot → Slot → St → Res := fun x0_2 x4_2 x91 x92 x93 s => lpD Zm [.seqR, .seqR, .seqR, .seqR, .seqR, .seqL, .seqR, .block] Tryz.f15 [(0, .s x0_2), (4, .s x4_2), (91, .s x91), (92, .s x92), (93, .s x93)] s
noncomputable def Zz : Slot → Slot → Slot → Slot → Slot → St → Res := fun x0 x4 x21 x22 x23 s => lpD Zm [.seqR, .seqR, .seqR, .seqR, .seqL, .seqR, .block] Tryz.f15 [(0, .s x0), (4, .s x4), (21, .s x21), (22, .s x22), (23, .s x23)] s
theorem Q2g : ∀ x0_1 x4_1 x6 x7 x21_1 x22_1 x23_1 s_5, Q18 x0_1 x4_1 x6 x7 x21_1 x22_1 x23_1 s_5 =
 ln Qo x4_1 fun v43 =>
 gC Qe 0 x7 fun v45 =>
 bn Qe .eql v45 (iv 3) fun v46 =>
 iT v46 fun w =>
 iT v46 fun w_1 =>
 gB w_1 Q1 .gtr (gdV w v43) (iv 0) fun v49 =>
 pk v46 v49 (bv false) fun v50 =>
 iT v50 fun w_2 =>
 iT v50 fun w_3 =>
 iT v50 fun w_4 =>
 gB w_4 Q1 .sub (gdV w_3 v43) (iv 1) fun v54 =>
 iT v50 fun w_5 =>
 bind1 (gd w_5 (ixS (C.ti Qc).size (gdV w_2 x4_1) v54)) fun v55 =>
 iT v50 fun w_6 =>
 bind1 (gd w_6 (faV 0 v55)) fun v56 =>
 iT v50 fun w_7 =>
 bind1 (gd w_7 (ldV (C.ti Qe) false s_5 v56)) fun v57 =>
 iT v50 fun w_8 =>
 gB w_8 Qe .eql v57 (iv 3) fun v58 =>
 pk v50 v58 (bv false) fun v59 =>
 iT v59 fun w_9 =>
 iT v59 fun w_10 =>
 iT v59 fun w_11 =>
 gB w_11 Q1 .sub (gdV w_10 v43) (iv 1) fun v63 =>
 iT v59 fun w_12 =>
 bind1 (gd w_12 (ixS (C.ti Qc).size (gdV w_9 x4_1) v63)) fun v64 =>
 iT v59 fun w_13 =>
 bind1 (gd w_13 (faV 2 v64)) fun v65 =>
 iT v59 fun w_14 =>
 bind1 (gd w_14 (ldV (C.ti Q2) false s_5 v65)) fun v66 =>
 iT v59 fun w_15 =>
 iT v59 fun w_16 =>
 gG w_16 w_15 Q2 1 x6 fun v68 =>
 iT v59 fun w_17 =>
 gB w_17 Q2 .eql v66 v68 fun v69 =>
 pk v59 v69 (bv false) fun v70 =>
 condS v70 (
 bn Q1 .sub v43 (iv 1) fun v73 =>
 bn Q1 .sub v43 (iv 1) fun v76 =>
 ix Qc x4_1 v76 fun v77 =>
 fa 4 v77 fun v78 =>
 ld Qj s_5 v78 fun v79 =>
 gA Q6 x6 fun v80 =>
 cn Q0Y [v80] s_5 fun v81 s_6 =>
 bs Qi [v81] fun v82 =>
 bind2 (appendV Qi (C.ti Qi) s_6 v79 v82) fun v83 s_7 =>
 ix Qc x4_1 v73 fun v84 =>
 fa 4 v84 fun v85 =>
 bx Qj v83 fun c_3 =>
 sto s_7 v85 c_3 fun s_8 =>
 nx x23_1 fun v90 =>
 Zz x0_1 x4_1 x21_1 x22_1 v90 s_8) (
 gA Qc x7 fun v87 =>
 bs Qc [v87] fun v88 =>
 bind2 (appendV Qc (C.ti Qc) s_5 x4_1 v88) fun v89 s_9 =>
 nx x23_1 fun v90_1 =>
 Zz x0_1 v89 x21_1 x22_1 v90_1 s_9) := by intros; unfold Q18; exact (Q0t _).trans (by kernel_rfl)
theorem Q4z : ∀ x0_2 x4_2 x91 x92 x93 s_11, Q03 x0_2 x4_2 x91 x92 x93 s_11 =
 bn Q1 .lss x93 x92 fun v94 =>
 condS v94 (
 ix Qc x91 x93 fun v95 =>
 ld Qc s_11 v95 fun v96 =>
 bx Qc v96 fun c_4 =>
 pZ Qc c_4 fun c10 =>
 gA Qc c10 fun v97 =>
 bs Qc [v97] fun v98 =>
 ca Q4t [v98] s_11 fun v99 s_12 =>
 bind1 (fieldS (C.ti Q7) (C.ti Qq) 0 v99) fun v100 =>
 bn Qq .neq v100 (iv 0) fun v101 =>
 condS v101 (
 some (.ret (bv false), s_12)) (
 nx x93 fun v102 =>
 Q03 x0_2 x4_2 x91 x92 v102 s_12)) (
 ca Q55 [x4_2] s_11 fun v105 s_13 =>
 ex v105 0 fun v106 =>
 ex v105 1 fun v107 =>
 bx Q7 v107 fun c_5 =>
 pZ Q7 c_5 fun c12 =>
 gC Qq 0 c12 fun v109 =>
 bn Qq .eql v109 (iv 0) fun v110 =>
 iT v110 fun w_18 =>
 iT v110 fun w_19 =>
 iT v110 fun w_20 =>
 cg w_20 Qv [(gdV w_18 x0_2), (gdV w_19 v106), (.val (.fn Q1U []))] s_13 fun v114 s_14 =>
 pk v110 v114 (bv false) fun v115 =>
 some (.ret v115, s_14)) := by intros; unfold Q03; exact (Qb _ _ _ _ _ _).trans (by kernel_rfl)
theorem Q4y : ∀ x0 x4 x21 x22 x23 s_2, Zz x0 x4 x21 x22 x23 s_2 =
 bn Q1 .lss x23 x22 fun v24 =>
 condS v24 (
 ix Q6 x21 x23 fun v25 =>
 ld Q6 s_2 v25 fun v26 =>
 bx Q6 v26 fun c =>
 pZ Q6 c fun c6 =>
 gC Q2 1 c6 fun v28 =>
 gC Q1 5 c6 fun v31 =>
 gA Q6 c6 fun v32 =>
 cn Q0Y [v32] s_2 fun v33 s_3 =>
 bind2 (bslV Qi (C.ti Qi) s_3 [v33]) fun v34 s_4 =>
 bd Qc [(0, Qe, (iv 3)), (2, Q2, v28), (3, Q1, v31), (4, Qj, v34)] fun v35 =>
 bx Qc v35 fun c_1 =>
 pZ Qc c_1 fun c7 =>
 gC Q2 1 c6 fun v37 =>
 bn Q2 .eql v37 (sv [101, 120, 110]) fun v38 =>
 condS v38 (
 gC Qj 4 c7 fun v40 =>
 bd Qc [(0, Qe, (iv 4)), (4, Qj, v40)] fun v41 =>
 bx Qc v41 fun c_2 =>
 pt c7 0 c_2 fun c7_1 =>
 Q18 x0 x4 c6 c7_1 x21 x22 x23 s_4) (
 Q18 x0 x4 c6 c7 x21 x22 x23 s_4)) (
 bind2 (frzSlot C.ti x4 s_2) fun v4 s_10 =>
 ln Qo v4 fun v92 =>
 Q03 x0 v4 v4 v92 (iv 0) s_10) := by intros; unfold Zz; exact (Qb _ _ _ _ _ _).trans (by kernel_rfl)
theorem QcI (a0 : AV) (s : St) : cw (.f Zm) [a0] s =
 ca Q1u [] s fun v13 s_1 =>
 ln Qz v13 fun v14 =>
 ln Qz (.val a0) fun v16 =>
 bn Q1 .lss v16 v14 fun v18 =>
 condS v18 (
 some (.ret (bv false), s_1)) (
 bind1 (sliceS (C.ti Qz) (C.ti Q6).size (.val a0) (some v14) none none) fun v21 =>
 ln Qz v21 fun v22 =>
 Zz (.val a0) (.val (.nils)) v21 v22 (iv 0) s_1) := (Q5 _ _ _).trans (by kernel_rfl)
noncomputable def Q1x : Slot → List Slot → Slot → Slot → Slot → St → Res := fun x1 x4 x8 x9 x10 s => lpD Q1g [.seqR, .seqL, .seqR, .block] Tryz.f16 [(1, .s x1), (4, .var x4), (8, .s x8), (9, .s x9), (10, .s x10)] s
theorem Q5a : ∀ x1 x4 x8 x9 x10 s_1, Q1x x1 x4 x8 x9 x10 s_1 =
 bn Q1 .lss x10 x9 fun v11 =>
 condS v11 (
 ix Q6 x8 x10 fun v12 =>
 ld Q6 s_1 v12 fun v13 =>
 bx Q6 v13 fun c =>
 pZ Q6 c fun c7 =>
 gC Q2 0 c7 fun v15 =>
 bn Q2 .eql v15 x1 fun v17 =>
 condS v17 (
 gC Q4 6 c7 fun v20 =>
 ca Q0u [v20] s_1 fun v21 s_2 =>
 bx Q4 v21 fun c_1 =>
 pt c7 6 c_1 fun c7_1 =>
 gA Q6 c7_1 fun v24 =>
 bx Q6 v24 fun c_2 =>
 pt x4 0 c_2 fun c4 =>
 rt [(ofSlots (C.ti Q6) (List.take (C.ti Q6).size c4)), (some (bv true))] s_2) (
 nx x10 fun v25 =>
 Q1x x1 x4 x8 x9 v25 s_1)) (
 bd Q6 [] fun v26 =>
 bx Q6 v26 fun c_3 =>
 pt x4 0 c_3 fun c4_1 =>
 rt [(ofSlots (C.ti Q6) (List.take (C.ti Q6).size c4_1)), (some (bv false))] s_1) := by intros; unfold Q1x; exact (Qb _ _ _ _ _ _).trans (by kernel_rfl)
theorem Qdq (a0 : AV) (a1 : AV) (s : St) : cw (.f Q1g) [a0, a1] s =
 ln Qz (.val a0) fun v9 =>
 Q1x (.val a1) ((List.map .val (C.ti Q6).zero)) (.val a0) v9 (iv 0) s := (Q5 _ _ _).trans (by kernel_rfl)
theorem Q7J (a0 : AV) (a1 : AV) (s : St) : cw (.f Q0s) [a0, a1] s =
 bx Q6 (.val a0) fun c2 =>
 bx Q6 (.val a1) fun c3 =>
 gC Q2 0 c2 fun v6 =>
 gC Q2 0 c3 fun v8 =>
 bn Q2 .eql v6 v8 fun v9 =>
 iT v9 fun w =>
 iT v9 fun w_1 =>
 gG w_1 w Q2 1 c2 fun v12 =>
 iT v9 fun w_2 =>
 iT v9 fun w_3 =>
 gG w_3 w_2 Q2 1 c3 fun v14 =>
 iT v9 fun w_4 =>
 gB w_4 Q2 .eql v12 v14 fun v15 =>
 pk v9 v15 (bv false) fun v16 =>
 iT v16 fun w_5 =>
 iT v16 fun w_6 =>
 gG w_6 w_5 Q1 2 c2 fun v19 =>
 iT v16 fun w_7 =>
 iT v16 fun w_8 =>
 gG w_8 w_7 Q1 2 c3 fun v21 =>
 iT v16 fun w_9 =>
 gB w_9 Q1 .eql v19 v21 fun v22 =>
 pk v16 v22 (bv false) fun v23 =>
 iT v23 fun w_10 =>
 iT v23 fun w_11 =>
 gG w_11 w_10 Q1 3 c2 fun v26 =>
 iT v23 fun w_12 =>
 iT v23 fun w_13 =>
 gG w_13 w_12 Q1 3 c3 fun v28 =>
 iT v23 fun w_14 =>
 gB w_14 Q1 .eql v26 v28 fun v29 =>
 pk v23 v29 (bv false) fun v30 =>
 iT v30 fun w_15 =>
 iT v30 fun w_16 =>
 gG w_16 w_15 Qh 4 c2 fun v33 =>
 iT v30 fun w_17 =>
 iT v30 fun w_18 =>
 gG w_18 w_17 Qh 4 c3 fun v35 =>
 iT v30 fun w_19 =>
 gB w_19 Qh .eql v33 v35 fun v36 =>
 pk v30 v36 (bv false) fun v37 =>
 iT v37 fun w_20 =>
 iT v37 fun w_21 =>
 chkP w_20 w_21 fun _ =>
 iT v37 fun w_22 =>
 bind1 (gd w_22 (bif (w_20 && w_21) then (ofSlots (C.ti Q1) (List.take (C.ti Q1).size (List.drop 5 c2))) else none)) fun v41 =>
 iT v37 fun w_23 =>
 iT v37 fun w_24 =>
 chkP w_23 w_24 fun _ =>
 iT v37 fun w_25 =>
 bind1 (gd w_25 (bif (w_23 && w_24) then (ofSlots (C.ti Q1) (List.take (C.ti Q1).size (List.drop 5 c3))) else none)) fun v44 =>
 iT v37 fun w_26 =>
 gB w_26 Q1 .eql v41 v44 fun v45 =>
 pk v37 v45 (bv false) fun v46 =>
 iT v46 fun w_27 =>
 iT v46 fun w_28 =>
 chkP w_27 w_28 fun _ =>
 iT v46 fun w_29 =>
 bind1 (gd w_29 (bif (w_27 && w_28) then (ofSlots (C.ti Q4) (List.take (C.ti Q4).size (List.drop 6 c2))) else none)) fun v50 =>
 iT v46 fun w_30 =>
 iT v46 fun w_31 =>
 chkP w_30 w_31 fun _ =>
 iT v46 fun w_32 =>
 bind1 (gd w_32 (bif (w_30 && w_31) then (ofSlots (C.ti Q4) (List.take (C.ti Q4).size (List.drop 6 c3))) else none)) fun v53 =>
 iT v46 fun w_33 =>
 cg w_33 Q0y [v50, v53] s fun v54 s_1 =>
 pk v46 v54 (bv false) fun v55 =>
 some (.ret v55, s_1) := (Q5 _ _ _).trans (by kernel_rfl)
theorem QcJ (s : St) : cw (.f Q1u) [] s =
 ca Zn [(sv [40, 41]), (sv [117, 110, 105, 116]), (iv 0), (iv 1)] s fun v1 s_1 =>
 ca Zn [(sv [102, 97, 108, 115, 101]), (sv [98, 111, 111, 108]), (iv 0), (iv 2)] s_1 fun v2 s_2 =>
 ca Zn [(sv [116, 114, 117, 101]), (sv [98, 111, 111, 108]), (iv 1), (iv 2)] s_2 fun v3 s_3 =>
 ca Zn [(sv [68, 105, 118]), (sv [101, 120, 110]), (iv 0), (iv 0)] s_3 fun v4 s_4 =>
 ca Zn [(sv [69, 111, 102]), (sv [101, 120, 110]), (iv 1), (iv 0)] s_4 fun v5 s_5 =>
 ca Zn [(sv [77, 97, 116, 99, 104]), (sv [101, 120, 110]), (iv 2), (iv 0)] s_5 fun v6 s_6 =>
 bs Q6 [v1, v2, v3, v4, v5, v6] fun v7 =>
 some (.ret v7, s_6) := (Q5 _ _ _).trans (by kernel_rfl)
noncomputable def Q0E : Slot → Slot → Slot → Slot → St → Res := fun x3 x9 x10 x11 s => lpD Q27 [.seqR, .seqR, .seqL, .seqR, .block] Tryz.f20 [(3, .s x3), (9, .s x9), (10, .s x10), (11, .s x11)] s
theorem Q3Q : ∀ x3 x9 x10 x11 s_2, Q0E x3 x9 x10 x11 s_2 =
 bn Q1 .lss x11 x10 fun v12 =>
 condS v12 (
 ix Q6 x9 x11 fun v13 =>
 ld Q6 s_2 v13 fun v14 =>
 bx Q6 v14 fun c =>
 pZ Q6 c fun c5 =>
 gC Q4 6 c5 fun v17 =>
 ca Q0u [v17] s_2 fun v18 s_3 =>
 bx Q4 v18 fun c_1 =>
 pt c5 6 c_1 fun c5_1 =>
 gA Q6 c5_1 fun v22 =>
 bs Q6 [v22] fun v23 =>
 ap Q6 s_3 x3 v23 fun v24 s_4 =>
 nx x11 fun v25 =>
 Q0E v24 x9 x10 v25 s_4) (
 some (.ret x3, s_2)) := by intros; unfold Q0E; exact (Qb _ _ _ _ _ _).trans (by kernel_rfl)
theorem Qb9 (a0 : AV) (s : St) : cw (.f Q27) [a0] s =
 ln Qz (.val a0) fun v7 =>
 bind2 (makeS Q6 (C.ti Q6) s (iv 0) v7) fun v8 s_1 =>
 ln Qz (.val a0) fun v10 =>
 Q0E v8 (.val a0) v10 (iv 0) s_1 := (Q5 _ _ _).trans (by kernel_rfl)
noncomputable def Q04 : Slot → Slot → Slot → Slot → St → Res := fun x3 x10 x11 x12 s => lpD Q2r [.seqR, .seqR, .seqL, .seqR, .block] Tryz.f21 [(3, .s x3), (10, .s x10), (11, .s x11), (12, .s x12)] s
theorem Q4C : ∀ x3 x10 x11 x12 s_8, Q04 x3 x10 x11 x12 s_8 =
 bn Q1 .lss x12 x11 fun v13 =>
 condS v13 (
 ix Q6 x10 x12 fun v14 =>
 ld Q6 s_8 v14 fun v15 =>
 bx Q6 v15 fun c =>
 pZ Q6 c fun c5 =>
 gC Q2 1 c5 fun v19 =>
 lk Q2 Q1 s_8 x3 v19 true fun v20 =>
 ex v20 0 fun v21 =>
 ex v20 1 fun v22 =>
 nt v22 fun v24 =>
 condS v24 (
 gC Q2 1 c5 fun v27 =>
 gC Q1 5 c5 fun v30 =>
 upd2 Q2 Q1 s_8 x3 v27 v30 fun _ s_9 =>
 nx x12 fun v31 =>
 Q04 x3 x10 x11 v31 s_9) (
 nx x12 fun v31_1 =>
 Q04 x3 x10 x11 v31_1 s_8)) (
 some (.ret x3, s_8)) := by intros; unfold Q04; exact (Qb _ _ _ _ _ _).trans (by kernel_rfl)
theorem QcL (a0 : AV) (s : St) : cw (.f Q2r) [a0] s =
 upd2 Q2 Q1 (St.addLoc s (.map [] 0)) (.val (.mp s.locs.length)) (sv [105, 110, 116]) (iv (-1)) fun _ s_1 =>
 upd2 Q2 Q1 s_1 (.val (.mp s.locs.length)) (sv [98, 111, 111, 108]) (iv (-1)) fun _ s_2 =>
 upd2 Q2 Q1 s_2 (.val (.mp s.locs.length)) (sv [117, 110, 105, 116]) (iv (-1)) fun _ s_3 =>
 upd2 Q2 Q1 s_3 (.val (.mp s.locs.length)) (sv [101, 120, 110]) (iv (-1)) fun _ s_4 =>
 upd2 Q2 Q1 s_4 (.val (.mp s.locs.length)) (sv [114, 101, 102]) (iv (-1)) fun _ s_5 =>
 upd2 Q2 Q1 s_5 (.val (.mp s.locs.length)) (sv [45, 62]) (iv (-1)) fun _ s_6 =>
 upd2 Q2 Q1 s_6 (.val (.mp s.locs.length)) (sv [42]) (iv (-1)) fun _ s_7 =>
 ln Qz (.val a0) fun v11 =>
 Q04 (.val (.mp s.locs.length)) (.val a0) v11 (iv 0) s_7 := (Q5 _ _ _).trans (by kernel_rfl)
noncomputable def Q0F : List Slot → List Slot → Slot → Slot → Slot → St → Res := fun x1 x2 x4 x11 x12 s => lpD Q1T [.seqR, .seqR, .seqR, .seqL, .seqR, .block] Tryz.f22 [(1, .var x1), (2, .var x2), (4, .s x4), (11, .s x11), (12, .s x12)] s
theorem Q5c : ∀ x1 x2 x4 x11 x12 s_2, Q0F x1 x2 x4 x11 x12 s_2 =
 bn Q1 .lss x12 x11 fun v13 =>
 condS v13 (
 bd Q4 [(0, Qk, (iv 1)), (1, Q1, x12)] fun v17 =>
 bs Q4 [v17] fun v18 =>
 ap Q4 s_2 x4 v18 fun v19 s_3 =>
 nx x12 fun v20 =>
 Q0F x1 x2 v19 x11 v20 s_3) (
 gC Q2 2 x1 fun v22 =>
 cn Q3c [v22, x4] s_2 fun v24 s_4 =>
 gC Q1 3 x1 fun v26 =>
 bx Q4 v24 fun c_1 =>
 pt x2 0 c_1 fun c2_1 =>
 rt [(ofSlots (C.ti Q4) (List.take (C.ti Q4).size c2_1)), (some v26)] s_4) := by intros; unfold Q0F; exact (Qb _ _ _ _ _ _).trans (by kernel_rfl)
theorem Q4B (a0 : AV) (s : St) : cw (.f Q1T) [a0] s =
 bx Qc (.val a0) fun c1 =>
 gC Qe 0 c1 fun v7 =>
 bn Qe .eql v7 (iv 4) fun v8 =>
 condS v8 (
 ca Q3c [(sv [101, 120, 110]), (.val (.nils))] s fun v9 s_1 =>
 bx Q4 v9 fun c =>
 pZ Q4 c fun c2 =>
 rt [(ofSlots (C.ti Q4) (List.take (C.ti Q4).size c2)), (some (iv 0))] s_1) (
 gC Q1 3 c1 fun v11 =>
 Q0F c1 ((List.map .val (C.ti Q4).zero)) (.val (.nils)) v11 (iv 0) s) := (Q5 _ _ _).trans (by kernel_rfl)
theorem QcN (a0 : AV) (a1 : AV) (a2 : AV) (s : St) : cw (.f Q4r) [a0, a1, a2] s =
 bx QQ (.val a0) fun c3 =>
 bindA (avs c3) fun l3 =>
 bx Q1 (.val a1) fun c4 =>
 bindA (avs c4) fun l4 =>
 bx Q4 (.val a2) fun c5 =>
 bind1 (fnS Q0v [(.val (.cp l4)), (.val (.cp l3)), (.val (.vp s.locs.length 0))]) fun v9 =>
 bx Ql v9 fun c =>
 sto (St.addLoc s (.var (List.map .val (C.ti Ql).zero))) (.val (.vp s.locs.length 0)) c fun s_1 =>
 ld Ql s_1 (.val (.vp s.locs.length 0)) fun v10 =>
 gA Q4 c5 fun v11 =>
 back (cal cw true (tgtV v10 [v11]) s_1) fun v12 s_2 =>
 ex v12 0 fun v13 =>
 ex v12 1 fun v14 =>
 rt [(some v13), (some v14)] s_2 := (Q5 _ _ _).trans (by kernel_rfl)
theorem QhA (a0 : AV) (a1 : AV) (s : St) : cw (.f Q8W) [a0, a1] s =
 bx Q4 (.val a0) fun c2 =>
 bx Qd (.val a1) fun c3 =>
 bindA (avs c3) fun l3 =>
 gA Q4 c2 fun v5 =>
 bind1 (fnS Q66 [(.val (.cp l3))]) fun v6 =>
 ca Q1V [v5, v6] s fun v7 s_1 =>
 bx Q4 v7 fun c =>
 pZ Q4 c fun c4 =>
 gA Q4 c4 fun v => some (.ret v, s_1) := (Q5 _ _ _).trans (by kernel_rfl)
theorem QiL (a0 : AV) (a1 : AV) (s : St) : cw (.f QaY) [a0, a1] s =
 bx Q4 (.val a0) fun c2 =>
 bx Q4 (.val a1) fun c3 =>
 gA Q4 c2 fun v5 =>
 gA Q4 c3 fun v6 =>
 bs Q4 [v5, v6] fun v7 =>
 ca Q3c [(sv [45, 62]), v7] s fun v8 s_1 =>
 bx Q4 v8 fun c =>
 pZ Q4 c fun c4 =>
 gA Q4 c4 fun v => some (.ret v, s_1) := (Q5 _ _ _).trans (by kernel_rfl)
noncomputable def Q1d : Slot → List Slot → Slot → Slot → St → Res := fun x1 x2 x5 x6 s => lpD Q0x [.seqR, .seqR, .seqL, .seqR, .block] Tryz.f32 [(1, .s x1), (2, .var x2), (5, .s x5), (6, .s x6)] s
theorem Q4Q : ∀ x1 x2 x5 x6 s_1, Q1d x1 x2 x5 x6 s_1 =
 gC Qd 3 x2 fun v13 =>
 ln Qd v13 fun v14 =>
 bn Q1 .lss x6 v14 fun v15 =>
 condS v15 (
 gC Qd 3 x2 fun v20 =>
 ix Q4 v20 x6 fun v22 =>
 ld Q4 s_1 v22 fun v23 =>
 ca Q0x [v23, x1] s_1 fun v25 s_2 =>
 ap Qa s_2 x5 v25 fun v26 s_3 =>
 nx x6 fun v17 =>
 Q1d x1 x2 v26 v17 s_3) (
 some (.ret x5, s_1)) := by intros; unfold Q1d; exact (Qb _ _ _ _ _ _).trans (by kernel_rfl)
theorem QcS (a0 : AV) (a1 : AV) (s : St) : cw (.f Q0x) [a0, a1] s =
 bx Q4 (.val a0) fun c2 =>
 gA Q4 c2 fun v7 =>
 bd Qa [(0, Q1, (iv 4)), (22, Q4, v7), (2, Q1, (.val a1))] fun v9 =>
 bs Qa [v9] fun v10 =>
 Q1d (.val a1) c2 v10 (iv 0) s := (Q5 _ _ _).trans (by kernel_rfl)
noncomputable def Q0Q : Slot → List Slot → Slot → Slot → Slot → St → Res := fun x0_1 x4_1 x5_1 x6 x7 s => pwD Q17 [.seqR, .seqR, .seqR, .seqL, .seqR, .block, .loop, .seqR, .seqL, .block, .seqR, .seqR, .thn, .seqR] Tryz.f35 [(0, .s x0_1), (4, .var x4_1), (5, .s x5_1), (6, .s x6), (7, .s x7)] s
noncomputable def Q0R : Slot → List Slot → Slot → St → Res := fun x0 x4 x5 s => lpD Q17 [.seqR, .seqR, .seqR, .seqL, .seqR, .block] Tryz.f35 [(0, .s x0), (4, .var x4), (5, .s x5)] s
theorem Q85 : ∀ x0_1 x4_1 x5_1 x6 x7 s_4, Q0Q x0_1 x4_1 x5_1 x6 x7 s_4 =
 ix Qa x0_1 x5_1 fun v36 =>
 fa 2 v36 fun v37 =>
 ld Q1 s_4 v37 fun v38 =>
 bd Q7 [(0, Qq, x6), (1, Q1, v38), (2, Q2, x7)] fun v40 =>
 bx Q7 v40 fun c_2 =>
 pt x4_1 0 c_2 fun c4_2 =>
 gA Q7 c4_2 fun v => some (.ret v, s_4) := by intros; unfold Q0Q; exact (Q0t _).trans (by kernel_rfl)
theorem Q43 : ∀ x0 x4 x5 s_2, Q0R x0 x4 x5 s_2 =
 ln Zj x0 fun v17 =>
 bn Q1 .lss x5 v17 fun v18 =>
 condS v18 (
 ix Qa x0 x5 fun v24 =>
 ld Qa s_2 v24 fun v25 =>
 ca Q3J [v25] s_2 fun v26 s_3 =>
 ex v26 0 fun v27 =>
 ex v26 1 fun v28 =>
 bn Qq .neq v27 (iv 0) fun v30 =>
 condS v30 (
 bn Qq .neq v27 (iv 8) fun v32 =>
 condS v32 (
 Q0Q x0 x4 x5 v27 (sv []) s_3) (
 Q0Q x0 x4 x5 v27 v28 s_3)) (
 nx x5 fun v20 =>
 Q0R x0 x4 v20 s_3)) (
 bd Q7 [] fun v41 =>
 bx Q7 v41 fun c_3 =>
 pt x4 0 c_3 fun c4_3 =>
 gA Q7 c4_3 fun v => some (.ret v, s_2)) := by intros; unfold Q0R; exact (Qb _ _ _ _ _ _).trans (by kernel_rfl)
theorem Qbv (a0 : AV) (a1 : AV) (s : St) : cw (.f Q17) [a0, a1] s =
 ca Q2a [(.val a0)] s fun v9 s_1 =>
 bn Q1 .gtr v9 (iv 8192) fun v10 =>
 condS v10 (
 bd Q7 [(0, Qq, (iv 4))] fun v11 =>
 bx Q7 v11 fun c =>
 pZ Q7 c fun c4 =>
 gA Q7 c4 fun v => some (.ret v, s_1)) (
 bn Q1 .gtr (.val a1) (iv 100) fun v13 =>
 condS v13 (
 bd Q7 [(0, Qq, (iv 7))] fun v14 =>
 bx Q7 v14 fun c_1 =>
 pZ Q7 c_1 fun c4_1 =>
 gA Q7 c4_1 fun v => some (.ret v, s_1)) (
 Q0R (.val a0) ((List.map .val (C.ti Q7).zero)) (iv 0) s_1)) := (Q5 _ _ _).trans (by kernel_rfl)
noncomputable def Q1Z : Slot → Slot → Slot → St → Res := fun x0 x3 x4 s => lpD Q4d [.seqR, .seqR, .seqL, .seqR, .block] Tryz.f36 [(0, .s x0), (3, .s x3), (4, .s x4)] s
theorem Q5X : ∀ x0 x3 x4 s_1, Q1Z x0 x3 x4 s_1 =
 ln Qo x0 fun v7 =>
 bn Q1 .lss x4 v7 fun v8 =>
 condS v8 (
 ix Qc x0 x4 fun v14 =>
 ld Qc s_1 v14 fun v15 =>
 ca Zx [v15, (bv false)] s_1 fun v16 s_2 =>
 ap Qa s_2 x3 v16 fun v17 s_3 =>
 nx x4 fun v10 =>
 Q1Z x0 v17 v10 s_3) (
 some (.ret x3, s_1)) := by intros; unfold Q1Z; exact (Qb _ _ _ _ _ _).trans (by kernel_rfl)
theorem QeV (a0 : AV) (s : St) : cw (.f Q4d) [a0] s =
 Q1Z (.val a0) (.val (.nils)) (iv 0) s := (Q5 _ _ _).trans (by kernel_rfl)
noncomputable def Q06 : Slot → Slot → Slot → Slot → Slot → St → Res := fun x0_3 x3_3 x4_3 x5_2 x8 s => lpD Z8 [.seqR, .seqR, .seqL, .seqR, .block, .loop, .seqR, .seqL, .block, .seqR, .seqR, .seqR, .seqL, .seqR, .block] Tryz.f37 [(0, .s x0_3), (3, .s x3_3), (4, .s x4_3), (5, .s x5_2), (8, .s x8)] s
noncomputable def Q1c : Slot → Slot → Slot → Slot → Slot → St → Res := fun x0_2 x3_2 x4_2 x5_1 x7 s => lpD Z8 [.seqR, .seqR, .seqL, .seqR, .block, .loop, .seqR, .seqL, .block, .seqR, .seqR, .seqL, .seqR, .block] Tryz.f37 [(0, .s x0_2), (3, .s x3_2), (4, .s x4_2), (5, .s x5_1), (7, .s x7)] s
noncomputable def Q1b : Slot → Slot → Slot → Slot → Slot → St → Res := fun x0_1 x3_1 x4_1 x5 x6 s => lpD Z8 [.seqR, .seqR, .seqL, .seqR, .block, .loop, .seqR, .seqL, .block, .seqR, .seqL, .seqR, .block] Tryz.f37 [(0, .s x0_1), (3, .s x3_1), (4, .s x4_1), (5, .s x5), (6, .s x6)] s
noncomputable def Ze : Slot → Slot → Slot → St → Res := fun x0 x3 x4 s => lpD Z8 [.seqR, .seqR, .seqL, .seqR, .block] Tryz.f37 [(0, .s x0), (3, .s x3), (4, .s x4)] s
theorem Q4N : ∀ x0_3 x3_3 x4_3 x5_2 x8 s_8, Q06 x0_3 x3_3 x4_3 x5_2 x8 s_8 =
 ix Qc x0_3 x4_3 fun v84 =>
 fa 4 v84 fun v85 =>
 ld Qj s_8 v85 fun v86 =>
 ln Qj v86 fun v87 =>
 bn Q1 .lss x8 v87 fun v88 =>
 condS v88 (
 ix Qc x0_3 x4_3 fun v93 =>
 fa 4 v93 fun v94 =>
 ld Qj s_8 v94 fun v95 =>
 ix Qi v95 x8 fun v97 =>
 fa 2 v97 fun v98 =>
 ld Qh s_8 v98 fun v99 =>
 condS v99 (
 ix Qc x0_3 x4_3 fun v103 =>
 fa 4 v103 fun v104 =>
 ld Qj s_8 v104 fun v105 =>
 ix Qi v105 x8 fun v107 =>
 fa 3 v107 fun v108 =>
 ld Q4 s_8 v108 fun v109 =>
 ca ZL [v109] s_8 fun v110 s_9 =>
 bind1 (max2 x5_2 v110) fun v111 =>
 nx x8 fun v90 =>
 Q06 x0_3 x3_3 x4_3 v111 v90 s_9) (
 nx x8 fun v90_1 =>
 Q06 x0_3 x3_3 x4_3 x5_2 v90_1 s_8)) (
 nx x5_2 fun v114 =>
 bind1 (max2 x3_3 v114) fun v115 =>
 nx x4_3 fun v14 =>
 Ze x0_3 v115 v14 s_8) := by intros; unfold Q06; exact (Qb _ _ _ _ _ _).trans (by kernel_rfl)
theorem Q4M : ∀ x0_2 x3_2 x4_2 x5_1 x7 s_5, Q1c x0_2 x3_2 x4_2 x5_1 x7 s_5 =
 ix Qc x0_2 x4_2 fun v50 =>
 fa 6 v50 fun v51 =>
 ld QE s_5 v51 fun v52 =>
 ln QE v52 fun v53 =>
 bn Q1 .lss x7 v53 fun v54 =>
 condS v54 (
 ix Qc x0_2 x4_2 fun v60 =>
 fa 6 v60 fun v61 =>
 bind1 (ldV (C.ti QE) true s_5 v61) fun v62 =>
 ix ZD v62 x7 fun v64 =>
 fa 2 v64 fun v65 =>
 fa 0 v65 fun v66 =>
 bind1 (ldV (C.ti QM) true s_5 v66) fun v67 =>
 cn QV [v67] s_5 fun v68 s_6 =>
 ix Qc x0_2 x4_2 fun v71 =>
 fa 6 v71 fun v72 =>
 bind1 (ldV (C.ti QE) true s_6 v72) fun v73 =>
 ix ZD v73 x7 fun v75 =>
 fa 2 v75 fun v76 =>
 fa 5 v76 fun v77 =>
 bind1 (ldV (C.ti QL) true s_6 v77) fun v78 =>
 cn QU [v78] s_6 fun v79 s_7 =>
 bind1 (max3 x5_1 v68 v79) fun v80 =>
 nx x7 fun v56 =>
 Q1c x0_2 x3_2 x4_2 v80 v56 s_7) (
 Q06 x0_2 x3_2 x4_2 x5_1 (iv 0) s_5) := by intros; unfold Q1c; exact (Qb _ _ _ _ _ _).trans (by kernel_rfl)
theorem Q4L : ∀ x0_1 x3_1 x4_1 x5 x6 s_2, Q1b x0_1 x3_1 x4_1 x5 x6 s_2 =
 ix Qc x0_1 x4_1 fun v18 =>
 fa 5 v18 fun v19 =>
 ld Qg s_2 v19 fun v20 =>
 ln Qg v20 fun v21 =>
 bn Q1 .lss x6 v21 fun v22 =>
 condS v22 (
 ix Qc x0_1 x4_1 fun v28 =>
 fa 5 v28 fun v29 =>
 bind1 (ldV (C.ti Qg) true s_2 v29) fun v30 =>
 ix QI v30 x6 fun v32 =>
 fa 0 v32 fun v33 =>
 bind1 (ldV (C.ti QM) true s_2 v33) fun v34 =>
 cn QV [v34] s_2 fun v35 s_3 =>
 ix Qc x0_1 x4_1 fun v38 =>
 fa 5 v38 fun v39 =>
 bind1 (ldV (C.ti Qg) true s_3 v39) fun v40 =>
 ix QI v40 x6 fun v42 =>
 fa 5 v42 fun v43 =>
 bind1 (ldV (C.ti QL) true s_3 v43) fun v44 =>
 cn QU [v44] s_3 fun v45 s_4 =>
 bind1 (max3 x5 v35 v45) fun v46 =>
 nx x6 fun v24 =>
 Q1b x0_1 x3_1 x4_1 v46 v24 s_4) (
 Q1c x0_1 x3_1 x4_1 x5 (iv 0) s_2) := by intros; unfold Q1b; exact (Qb _ _ _ _ _ _).trans (by kernel_rfl)
theorem Q4K : ∀ x0 x3 x4 s_1, Ze x0 x3 x4 s_1 =
 ln Qo x0 fun v11 =>
 bn Q1 .lss x4 v11 fun v12 =>
 condS v12 (
 Q1b x0 x3 x4 (iv 0) (iv 0) s_1) (
 some (.ret x3, s_1)) := by intros; unfold Ze; exact (Qb _ _ _ _ _ _).trans (by kernel_rfl)
theorem Q6P (a0 : AV) (s : St) : cw (.f Z8) [a0] s =
 Ze (.val a0) (iv 0) (iv 0) s := (Q5 _ _ _).trans (by kernel_rfl)
theorem Q8f (a0 : AV) (s : St) : cw (.f Q0Y) [a0] s =
 bx Q6 (.val a0) fun c1 =>
 gC Q2 0 c1 fun v5 =>
 gC Qh 4 c1 fun v7 =>
 bd Qi [(0, Q2, v5), (2, Qh, v7)] fun v8 =>
 bx Qi v8 fun c =>
 pZ Qi c fun c3 =>
 gC Qh 4 c1 fun v10 =>
 iT v10 fun w =>
 iT v10 fun w_1 =>
 chkP w w_1 fun _ =>
 iT v10 fun w_2 =>
 chkP (w && w_1) w_2 fun _ =>
 iT v10 fun w_3 =>
 bind1 (gd w_3 (bif ((w && w_1) && w_2) then (ofSlots (C.ti Qd) (List.take (C.ti Qd).size (List.drop 9 c1))) else none)) fun v15 =>
 iT v10 fun w_4 =>
 gL w_4 Qd v15 fun v16 =>
 iT v10 fun w_5 =>
 gB w_5 Q1 .eql v16 (iv 2) fun v17 =>
 pk v10 v17 (bv false) fun v18 =>
 condS v18 (
 gC Qd 9 c1 fun v22 =>
 ix Q4 v22 (iv 0) fun v23 =>
 ld Q4 s v23 fun v24 =>
 bx Q4 v24 fun c_1 =>
 pt c3 3 c_1 fun c3_1 =>
 gA Qi c3_1 fun v26 =>
 bx Qi v26 fun c_2 =>
 pZ Qi c_2 fun c2 =>
 gA Qi c2 fun v => some (.ret v, s)) (
 gA Qi c3 fun v26_1 =>
 bx Qi v26_1 fun c_3 =>
 pZ Qi c_3 fun c2_1 =>
 gA Qi c2_1 fun v => some (.ret v, s)) := (Q5 _ _ _).trans (by kernel_rfl)
theorem Qd0 (a0 : AV) (s : St) : cw (.f Q4t) [a0] s =
 bx Qo (.val a0) fun c1 =>
 bindA (avs c1) fun l1 =>
 ld Qo s (.val (.cp l1)) fun v3 =>
 ca Q3b [v3] s fun v4 s_1 =>
 bind1 (fnS Q3a [(.val (.cp l1))]) fun v5 =>
 ca Q2y [v4, v5] s_1 fun v6 s_2 =>
 bx Q7 v6 fun c =>
 pZ Q7 c fun c2 =>
 gA Q7 c2 fun v => some (.ret v, s_2) := (Q5 _ _ _).trans (by kernel_rfl)
noncomputable def Qp : Slot → Slot → Slot → Slot → Slot → St → Res := fun x1 x2 x15 x16 x17 s => lpD Qv [.seqR, .seqR, .seqL, .seqR, .block] Tryz.f41 [(1, .s x1), (2, .s x2), (15, .s x15), (16, .s x16), (17, .s x17)] s
theorem QS : ∀ x1 x2 x15 x16 x17 s_1, Qp x1 x2 x15 x16 x17 s_1 =
 bn Q1 .lss x17 x16 fun v18 =>
 condS v18 (
 ix Q6 x15 x17 fun v20 =>
 ld Q6 s_1 v20 fun v21 =>
 bx Q6 v21 fun c =>
 pZ Q6 c fun c8 =>
 ix Q6 x1 x17 fun v24 =>
 ld Q6 s_1 v24 fun v25 =>
 bx Q6 v25 fun c_1 =>
 pZ Q6 c_1 fun c9 =>
 gA Q6 c8 fun v27 =>
 gA Q6 c9 fun v28 =>
 back (cal cw true (tgtV x2 [v27, v28]) s_1) fun v29 s_2 =>
 nt v29 fun v30 =>
 condS v30 (
 some (.ret (bv false), s_2)) (
 nx x17 fun v31 =>
 Qp x1 x2 x15 x16 v31 s_2)) (
 some (.ret (bv true), s_1)) := by intros; unfold Qp; exact (Qb _ _ _ _ _ _).trans (by kernel_rfl)
theorem Q0q (a0 : AV) (a1 : AV) (a2 : AV) (s : St) : cw (.f Qv) [a0, a1, a2] s =
 ln Qz (.val a0) fun v11 =>
 ln Qz (.val a1) fun v13 =>
 bn Q1 .neq v11 v13 fun v14 =>
 condS v14 (
 some (.ret (bv false), s)) (
 ln Qz (.val a0) fun v16 =>
 Qp (.val a1) (.val a2) (.val a0) v16 (iv 0) s) := (Q5 _ _ _).trans (by kernel_rfl)
theorem Qds (a0 : AV) (a1 : AV) (s : St) : cw (.f Q1U) [a0, a1] s =
 bx Q6 (.val a0) fun c2 =>
 bx Q6 (.val a1) fun c3 =>
 gC Q2 0 c2 fun v6 =>
 gC Q2 0 c3 fun v8 =>
 bn Q2 .eql v6 v8 fun v9 =>
 iT v9 fun w =>
 iT v9 fun w_1 =>
 gG w_1 w Q2 1 c2 fun v12 =>
 iT v9 fun w_2 =>
 iT v9 fun w_3 =>
 gG w_3 w_2 Q2 1 c3 fun v14 =>
 iT v9 fun w_4 =>
 gB w_4 Q2 .eql v12 v14 fun v15 =>
 pk v9 v15 (bv false) fun v16 =>
 iT v16 fun w_5 =>
 iT v16 fun w_6 =>
 gG w_6 w_5 Q1 2 c2 fun v19 =>
 iT v16 fun w_7 =>
 iT v16 fun w_8 =>
 gG w_8 w_7 Q1 2 c3 fun v21 =>
 iT v16 fun w_9 =>
 gB w_9 Q1 .eql v19 v21 fun v22 =>
 pk v16 v22 (bv false) fun v23 =>
 iT v23 fun w_10 =>
 iT v23 fun w_11 =>
 gG w_11 w_10 Q1 3 c2 fun v26 =>
 iT v23 fun w_12 =>
 iT v23 fun w_13 =>
 gG w_13 w_12 Q1 3 c3 fun v28 =>
 iT v23 fun w_14 =>
 gB w_14 Q1 .eql v26 v28 fun v29 =>
 pk v23 v29 (bv false) fun v30 =>
 iT v30 fun w_15 =>
 iT v30 fun w_16 =>
 gG w_16 w_15 Qh 4 c2 fun v33 =>
 iT v30 fun w_17 =>
 iT v30 fun w_18 =>
 gG w_18 w_17 Qh 4 c3 fun v35 =>
 iT v30 fun w_19 =>
 gB w_19 Qh .eql v33 v35 fun v36 =>
 pk v30 v36 (bv false) fun v37 =>
 iT v37 fun w_20 =>
 iT v37 fun w_21 =>
 chkP w_20 w_21 fun _ =>
 iT v37 fun w_22 =>
 bind1 (gd w_22 (bif (w_20 && w_21) then (ofSlots (C.ti Q1) (List.take (C.ti Q1).size (List.drop 5 c2))) else none)) fun v41 =>
 iT v37 fun w_23 =>
 iT v37 fun w_24 =>
 chkP w_23 w_24 fun _ =>
 iT v37 fun w_25 =>
 bind1 (gd w_25 (bif (w_23 && w_24) then (ofSlots (C.ti Q1) (List.take (C.ti Q1).size (List.drop 5 c3))) else none)) fun v44 =>
 iT v37 fun w_26 =>
 gB w_26 Q1 .eql v41 v44 fun v45 =>
 pk v37 v45 (bv false) fun v46 =>
 iT v46 fun w_27 =>
 iT v46 fun w_28 =>
 chkP w_27 w_28 fun _ =>
 iT v46 fun w_29 =>
 bind1 (gd w_29 (bif (w_27 && w_28) then (ofSlots (C.ti Q4) (List.take (C.ti Q4).size (List.drop 6 c2))) else none)) fun v50 =>
 iT v46 fun w_30 =>
 iT v46 fun w_31 =>
 chkP w_30 w_31 fun _ =>
 iT v46 fun w_32 =>
 bind1 (gd w_32 (bif (w_30 && w_31) then (ofSlots (C.ti Q4) (List.take (C.ti Q4).size (List.drop 6 c3))) else none)) fun v53 =>
 iT v46 fun w_33 =>
 cg w_33 Q2j [v50, v53] s fun v54 s_1 =>
 pk v46 v54 (bv false) fun v55 =>
 some (.ret v55, s_1) := (Q5 _ _ _).trans (by kernel_rfl)
noncomputable def Q19 : List Slot → List Slot → Slot → Slot → Slot → St → Res := fun x1 x2 x10 x11 x12 s => lpD Q0u [.seqR, .seqR, .seqL, .seqR, .block] Tryz.f43 [(1, .var x1), (2, .var x2), (10, .s x10), (11, .s x11), (12, .s x12)] s
theorem Q11 : ∀ x1 x2 x10 x11 x12 s_2, Q19 x1 x2 x10 x11 x12 s_2 =
 bn Q1 .lss x12 x11 fun v13 =>
 condS v13 (
 ix Q4 x10 x12 fun v15 =>
 ld Q4 s_2 v15 fun v16 =>
 bx Q4 v16 fun c_1 =>
 pZ Q4 c_1 fun c4 =>
 gC Qd 3 x1 fun v18 =>
 gA Q4 c4 fun v20 =>
 cn Q0u [v20] s_2 fun v21 s_3 =>
 ix Q4 v18 x12 fun v22 =>
 bx Q4 v21 fun c_2 =>
 sto s_3 v22 c_2 fun s_4 =>
 nx x12 fun v23 =>
 Q19 x1 x2 x10 x11 v23 s_4) (
 bindLS (frzSlots C.ti x1 s_2) fun c1_2 s_5 =>
 gA Q4 c1_2 fun v24 =>
 bx Q4 v24 fun c_3 =>
 pt x2 0 c_3 fun c2 =>
 gA Q4 c2 fun v => some (.ret v, s_5)) := by intros; unfold Q19; exact (Qb _ _ _ _ _ _).trans (by kernel_rfl)
theorem QcK (a0 : AV) (s : St) : cw (.f Q0u) [a0] s =
 bx Q4 (.val a0) fun c1 =>
 gC Qd 3 c1 fun v6 =>
 ca Z5 [v6] s fun v7 s_1 =>
 bx Qd v7 fun c =>
 pt c1 3 c fun c1_1 =>
 gC Qd 3 c1_1 fun v10 =>
 ln Qd v10 fun v11 =>
 Q19 c1_1 ((List.map .val (C.ti Q4).zero)) v10 v11 (iv 0) s_1 := (Q5 _ _ _).trans (by kernel_rfl)
noncomputable def Q0f : List Slot → List Slot → Slot → St → Res := fun x2 x3 x5 s => lpD Q0y [.seqR, .seqR, .seqL, .seqR, .block] Tryz.f44 [(2, .var x2), (3, .var x3), (5, .s x5)] s
theorem Q3z : ∀ x2 x3 x5 s_1, Q0f x2 x3 x5 s_1 =
 gC Qd 3 x2 fun v36 =>
 ln Qd v36 fun v37 =>
 bn Q1 .lss x5 v37 fun v38 =>
 condS v38 (
 gC Qd 3 x2 fun v42 =>
 ix Q4 v42 x5 fun v44 =>
 ld Q4 s_1 v44 fun v45 =>
 gC Qd 3 x3 fun v47 =>
 ix Q4 v47 x5 fun v49 =>
 ld Q4 s_1 v49 fun v50 =>
 cn Q0y [v45, v50] s_1 fun v51 s_2 =>
 nt v51 fun v52 =>
 condS v52 (
 some (.ret (bv false), s_2)) (
 nx x5 fun v40 =>
 Q0f x2 x3 v40 s_2)) (
 some (.ret (bv true), s_1)) := by intros; unfold Q0f; exact (Qb _ _ _ _ _ _).trans (by kernel_rfl)
theorem Qav (a0 : AV) (a1 : AV) (s : St) : cw (.f Q0y) [a0, a1] s =
 bx Q4 (.val a0) fun c2 =>
 bx Q4 (.val a1) fun c3 =>
 gC Qk 0 c2 fun v7 =>
 gC Qk 0 c3 fun v9 =>
 bn Qk .neq v7 v9 fun v10 =>
 iF v10 fun w =>
 iF v10 fun w_1 =>
 gG w_1 w Q1 1 c2 fun v13 =>
 iF v10 fun w_2 =>
 iF v10 fun w_3 =>
 gG w_3 w_2 Q1 1 c3 fun v15 =>
 iF v10 fun w_4 =>
 gB w_4 Q1 .neq v13 v15 fun v16 =>
 pk v10 (bv true) v16 fun v17 =>
 iF v17 fun w_5 =>
 iF v17 fun w_6 =>
 gG w_6 w_5 Q2 2 c2 fun v20 =>
 iF v17 fun w_7 =>
 iF v17 fun w_8 =>
 gG w_8 w_7 Q2 2 c3 fun v22 =>
 iF v17 fun w_9 =>
 gB w_9 Q2 .neq v20 v22 fun v23 =>
 pk v17 (bv true) v23 fun v24 =>
 iF v24 fun w_10 =>
 iF v24 fun w_11 =>
 gG w_11 w_10 Qd 3 c2 fun v27 =>
 iF v24 fun w_12 =>
 gL w_12 Qd v27 fun v28 =>
 iF v24 fun w_13 =>
 iF v24 fun w_14 =>
 gG w_14 w_13 Qd 3 c3 fun v30 =>
 iF v24 fun w_15 =>
 gL w_15 Qd v30 fun v31 =>
 iF v24 fun w_16 =>
 gB w_16 Q1 .neq v28 v31 fun v32 =>
 pk v24 (bv true) v32 fun v33 =>
 condS v33 (
 some (.ret (bv false), s)) (
 Q0f c2 c3 (iv 0) s) := (Q5 _ _ _).trans (by kernel_rfl)
theorem QcM (a0 : AV) (a1 : AV) (a2 : AV) (a3 : AV) (s : St) : cw (.f Zn) [a0, a1, a2, a3] s =
 ca Q3c [(.val a1), (.val (.nils))] s fun v14 s_1 =>
 bd Q0m [(1, Q4, v14)] fun v15 =>
 bd Q6 [(0, Q2, (.val a0)), (1, Q2, (.val a1)), (2, Q1, (.val a2)), (3, Q1, (.val a3)), (5, Q0m, v15)] fun v16 =>
 bx Q6 v16 fun c =>
 pZ Q6 c fun c8 =>
 gA Q6 c8 fun v => some (.ret v, s_1) := (Q5 _ _ _).trans (by kernel_rfl)
noncomputable def Q4Y : List Slot → List Slot → Slot → Slot → Slot → St → Res := fun x4 x5 x10 x11 x12 s => lpD Q3c [.seqR, .seqR, .seqL, .seqR, .block] Tryz.f47 [(4, .var x4), (5, .var x5), (10, .s x10), (11, .s x11), (12, .s x12)] s
theorem Q8M : ∀ x4 x5 x10 x11 x12 s_1, Q4Y x4 x5 x10 x11 x12 s_1 =
 bn Q1 .lss x12 x11 fun v13 =>
 condS v13 (
 ix Q4 x10 x12 fun v14 =>
 ld Q4 s_1 v14 fun v15 =>
 bx Q4 v15 fun c_1 =>
 pZ Q4 c_1 fun c7 =>
 gC Qd 3 x5 fun v17 =>
 gA Q4 c7 fun v18 =>
 cn Q3d [v18] s_1 fun v19 s_2 =>
 bs Q4 [v19] fun v20 =>
 ap Q4 s_2 v17 v20 fun v21 s_3 =>
 bx Qd v21 fun c_2 =>
 pt x5 3 c_2 fun c5_1 =>
 nx x12 fun v23 =>
 Q4Y x4 c5_1 x10 x11 v23 s_3) (
 gA Q4 x5 fun v24 =>
 bx Q4 v24 fun c_3 =>
 pt x4 0 c_3 fun c4 =>
 gA Q4 c4 fun v => some (.ret v, s_1)) := by intros; unfold Q4Y; exact (Qb _ _ _ _ _ _).trans (by kernel_rfl)
theorem QiM (a0 : AV) (a1 : AV) (s : St) : cw (.f Q3c) [a0, a1] s =
 bd Q4 [(0, Qk, (iv 2)), (2, Q2, (.val a0))] fun v9 =>
 bx Q4 v9 fun c =>
 pZ Q4 c fun c5 =>
 ln Qd (.val a1) fun v11 =>
 Q4Y ((List.map .val (C.ti Q4).zero)) c5 (.val a1) v11 (iv 0) s := (Q5 _ _ _).trans (by kernel_rfl)
noncomputable def Q0d : Slot → Slot → Slot → Slot → St → Res := fun x3 x45 x46 x47 s => lpD Q0v [.seqR, .seqR, .seqR, .seqR, .seqL, .seqR, .block] Tryz.f48 [(3, .s x3), (45, .s x45), (46, .s x46), (47, .s x47)] s
theorem Q3t : ∀ x3 x45 x46 x47 s_1, Q0d x3 x45 x46 x47 s_1 =
 bn Q1 .lss x47 x46 fun v48 =>
 condS v48 (
 ix Q4 x45 x47 fun v49 =>
 ld Q4 s_1 v49 fun v50 =>
 bx Q4 v50 fun c =>
 pZ Q4 c fun c10 =>
 ld Ql s_1 x3 fun v52 =>
 gA Q4 c10 fun v53 =>
 back (cal cw true (tgtV v52 [v53]) s_1) fun v54 s_2 =>
 ex v54 0 fun v55 =>
 ex v54 1 fun v56 =>
 bn Qq .neq v55 (iv 0) fun v58 =>
 condS v58 (
 rt [(some v55), (some v56)] s_2) (
 nx x47 fun v61 =>
 Q0d x3 x45 x46 v61 s_2)) (
 rt [(some (iv 0)), (some (sv []))] s_1) := by intros; unfold Q0d; exact (Qb _ _ _ _ _ _).trans (by kernel_rfl)
theorem Q9N (a0 : AV) (a1 : AV) (a2 : AV) (a3 : AV) (s : St) : cw (.f Q0v) [a0, a1, a2, a3] s =
 bx Q4 (.val a0) fun c4 =>
 gC Qk 0 c4 fun v14 =>
 bn Qk .eql v14 (iv 1) fun v15 =>
 condS v15 (
 gC Q1 1 c4 fun v17 =>
 ld Q1 s (.val a1) fun v18 =>
 bn Q1 .geq v17 v18 fun v19 =>
 condS v19 (
 rt [(some (iv 16)), (some (sv []))] s) (
 rt [(some (iv 0)), (some (sv []))] s)) (
 ld QQ s (.val a2) fun v21 =>
 gC Q2 2 c4 fun v23 =>
 lk Q2 Q1 s v21 v23 true fun v24 =>
 ex v24 0 fun v25 =>
 ex v24 1 fun v26 =>
 nt v26 fun v29 =>
 condS v29 (
 gC Q2 2 c4 fun v31 =>
 rt [(some (iv 8)), (some v31)] s) (
 bn Q1 .geq v25 (iv 0) fun v34 =>
 iT v34 fun w =>
 iT v34 fun w_1 =>
 iT v34 fun w_2 =>
 gG w_2 w_1 Qd 3 c4 fun v38 =>
 iT v34 fun w_3 =>
 gL w_3 Qd v38 fun v39 =>
 iT v34 fun w_4 =>
 gB w_4 Q1 .neq (gdV w v25) v39 fun v40 =>
 pk v34 v40 (bv false) fun v41 =>
 condS v41 (
 gC Q2 2 c4 fun v43 =>
 rt [(some (iv 19)), (some v43)] s) (
 gC Qd 3 c4 fun v45 =>
 ln Qd v45 fun v46 =>
 Q0d (.val a3) v45 v46 (iv 0) s))) := (Q5 _ _ _).trans (by kernel_rfl)
noncomputable def Q1E : Slot → List Slot → List Slot → Slot → Slot → Slot → St → Res := fun x1 x4 x5 x23 x24 x25 s => lpD Q1V [.seqR, .seqR, .seqR, .seqL, .seqR, .block] Tryz.f49 [(1, .s x1), (4, .var x4), (5, .var x5), (23, .s x23), (24, .s x24), (25, .s x25)] s
theorem Q5s : ∀ x1 x4 x5 x23 x24 x25 s_2, Q1E x1 x4 x5 x23 x24 x25 s_2 =
 bn Q1 .lss x25 x24 fun v26 =>
 condS v26 (
 ix Q4 x23 x25 fun v27 =>
 ld Q4 s_2 v27 fun v28 =>
 bx Q4 v28 fun c_2 =>
 pZ Q4 c_2 fun c7 =>
 gC Qd 3 x5 fun v30 =>
 gA Q4 c7 fun v31 =>
 cn Q1V [v31, x1] s_2 fun v33 s_3 =>
 bs Q4 [v33] fun v34 =>
 ap Q4 s_3 v30 v34 fun v35 s_4 =>
 bx Qd v35 fun c_3 =>
 pt x5 3 c_3 fun c5_1 =>
 nx x25 fun v37 =>
 Q1E x1 x4 c5_1 x23 x24 v37 s_4) (
 gA Q4 x5 fun v38 =>
 bx Q4 v38 fun c_4 =>
 pt x4 0 c_4 fun c4_1 =>
 gA Q4 c4_1 fun v => some (.ret v, s_2)) := by intros; unfold Q1E; exact (Qb _ _ _ _ _ _).trans (by kernel_rfl)
theorem Qek (a0 : AV) (a1 : AV) (s : St) : cw (.f Q1V) [a0, a1] s =
 bx Q4 (.val a0) fun c2 =>
 gC Qk 0 c2 fun v9 =>
 bn Qk .eql v9 (iv 1) fun v10 =>
 condS v10 (
 gC Q1 1 c2 fun v13 =>
 back (cal cw true (tgtV (.val a1) [v13]) s) fun v14 s_1 =>
 bx Q4 v14 fun c =>
 pZ Q4 c fun c4 =>
 gA Q4 c4 fun v => some (.ret v, s_1)) (
 gC Qk 0 c2 fun v16 =>
 gC Q1 1 c2 fun v18 =>
 gC Q2 2 c2 fun v20 =>
 bd Q4 [(0, Qk, v16), (1, Q1, v18), (2, Q2, v20)] fun v21 =>
 bx Q4 v21 fun c_1 =>
 pZ Q4 c_1 fun c5 =>
 gC Qd 3 c2 fun v23 =>
 ln Qd v23 fun v24 =>
 Q1E (.val a1) ((List.map .val (C.ti Q4).zero)) c5 v23 v24 (iv 0) s) := (Q5 _ _ _).trans (by kernel_rfl)
theorem Q8N (a0 : AV) (a1 : AV) (s : St) : cw (.f Q66) [a0, a1] s =
 bn Q1 .geq (.val a0) (iv 0) fun v5 =>
 iT v5 fun w =>
 iT v5 fun w_1 =>
 bind1 (gd w_1 (ldV (C.ti Qd) false s (.val a1))) fun v8 =>
 iT v5 fun w_2 =>
 gL w_2 Qd v8 fun v9 =>
 iT v5 fun w_3 =>
 gB w_3 Q1 .lss (gdV w (.val a0)) v9 fun v10 =>
 pk v5 v10 (bv false) fun v11 =>
 condS v11 (
 ld Qd s (.val a1) fun v12 =>
 ix Q4 v12 (.val a0) fun v14 =>
 ld Q4 s v14 fun v15 =>
 ca Q3d [v15] s fun v16 s_1 =>
 bx Q4 v16 fun c =>
 pZ Q4 c fun c3 =>
 gA Q4 c3 fun v => some (.ret v, s_1)) (
 bd Q4 [(0, Qk, (iv 1)), (1, Q1, (.val a0))] fun v18 =>
 bx Q4 v18 fun c_1 =>
 pZ Q4 c_1 fun c3_1 =>
 gA Q4 c3_1 fun v => some (.ret v, s)) := (Q5 _ _ _).trans (by kernel_rfl)
noncomputable def Q3G : List Slot → List Slot → Slot → Slot → Slot → St → Res := fun x2 x3 x9 x10 x11 s => lpD Q3d [.seqR, .seqR, .seqR, .seqL, .seqR, .block] Tryz.f51 [(2, .var x2), (3, .var x3), (9, .s x9), (10, .s x10), (11, .s x11)] s
theorem Q7V : ∀ x2 x3 x9 x10 x11 s_1, Q3G x2 x3 x9 x10 x11 s_1 =
 bn Q1 .lss x11 x10 fun v12 =>
 condS v12 (
 ix Q4 x9 x11 fun v13 =>
 ld Q4 s_1 v13 fun v14 =>
 bx Q4 v14 fun c_2 =>
 pZ Q4 c_2 fun c5 =>
 gC Qd 3 x3 fun v16 =>
 gA Q4 c5 fun v17 =>
 cn Q3d [v17] s_1 fun v18 s_2 =>
 bs Q4 [v18] fun v19 =>
 ap Q4 s_2 v16 v19 fun v20 s_3 =>
 bx Qd v20 fun c_3 =>
 pt x3 3 c_3 fun c3_2 =>
 nx x11 fun v22 =>
 Q3G x2 c3_2 x9 x10 v22 s_3) (
 gA Q4 x3 fun v23 =>
 bx Q4 v23 fun c_4 =>
 pt x2 0 c_4 fun c2 =>
 gA Q4 c2 fun v => some (.ret v, s_1)) := by intros; unfold Q3G; exact (Qb _ _ _ _ _ _).trans (by kernel_rfl)
theorem QhB (a0 : AV) (s : St) : cw (.f Q3d) [a0] s =
 bx Q4 (.val a0) fun c1 =>
 gA Q4 c1 fun v6 =>
 bx Q4 v6 fun c =>
 pZ Q4 c fun c3 =>
 bx Qd (.val (.nils)) fun c_1 =>
 pt c3 3 c_1 fun c3_1 =>
 gC Qd 3 c1 fun v9 =>
 ln Qd v9 fun v10 =>
 Q3G ((List.map .val (C.ti Q4).zero)) c3_1 v9 v10 (iv 0) s := (Q5 _ _ _).trans (by kernel_rfl)
noncomputable def ZR : Slot → Slot → Slot → St → Res := fun x0 x3 x4 s => lpD Q2a [.seqR, .seqR, .seqL, .seqR, .block] Tryz.f54 [(0, .s x0), (3, .s x3), (4, .s x4)] s
theorem Q40 : ∀ x0 x3 x4 s_1, ZR x0 x3 x4 s_1 =
 ln Zj x0 fun v7 =>
 bn Q1 .lss x4 v7 fun v8 =>
 condS v8 (
 ix Qa x0 x4 fun v13 =>
 fa 0 v13 fun v14 =>
 ld Q1 s_1 v14 fun v15 =>
 bn Q1 .leq v15 (iv 4) fun v16 =>
 condS v16 (
 nx x3 fun v18 =>
 nx x4 fun v10 =>
 ZR x0 v18 v10 s_1) (
 nx x4 fun v10_1 =>
 ZR x0 x3 v10_1 s_1)) (
 some (.ret x3, s_1)) := by intros; unfold ZR; exact (Qb _ _ _ _ _ _).trans (by kernel_rfl)
theorem Qbr (a0 : AV) (s : St) : cw (.f Q2a) [a0] s =
 ZR (.val a0) (iv 0) (iv 0) s := (Q5 _ _ _).trans (by kernel_rfl)
theorem Qby (a0 : AV) (s : St) : cw (.f Q3J) [a0] s =
 bx Qa (.val a0) fun c1 =>
 gC Q1 0 c1 fun v5 =>
 bn Q1 .eql v5 (iv 1) fun v7 =>
 condS v7 (
 gC Qc 3 c1 fun v9 =>
 gC Qh 1 c1 fun v11 =>
 cn Q5t [v9, v11] s fun v12 s_1 =>
 gC Q2 5 c1 fun v15 =>
 rt [(some v12), (some v15)] s_1) (
 bn Q1 .eql v5 (iv 2) fun v17 =>
 condS v17 (
 gC QL 10 c1 fun v19 =>
 cn Q5u [v19] s fun v20 s_2 =>
 gC Q2 12 c1 fun v23 =>
 rt [(some v20), (some v23)] s_2) (
 bn Q1 .eql v5 (iv 3) fun v25 =>
 condS v25 (
 gC QM 17 c1 fun v27 =>
 cn Q5v [v27] s fun v28 s_3 =>
 gC Q2 19 c1 fun v31 =>
 rt [(some v28), (some v31)] s_3) (
 bn Q1 .eql v5 (iv 4) fun v33 =>
 condS v33 (
 gC Q4 22 c1 fun v35 =>
 cn Q65 [v35] s fun v36 s_4 =>
 gC Q2 24 c1 fun v39 =>
 rt [(some v36), (some v39)] s_4) (
 bn Q1 .eql v5 (iv 5) fun v41 =>
 condS v41 (
 gC Q2 26 c1 fun v44 =>
 ca Q0l [v44] s fun v45 s_5 =>
 nt v45 fun v46 =>
 condS v46 (
 gC Q2 26 c1 fun v49 =>
 rt [(some (iv 8)), (some v49)] s_5) (
 rt [(some (iv 0)), (some (sv []))] s_5)) (
 gC Qh 42 c1 fun v52 =>
 nt v52 fun v53 =>
 iT v53 fun w =>
 iT v53 fun w_1 =>
 chkP w w_1 fun _ =>
 iT v53 fun w_2 =>
 bind1 (gd w_2 (bif (w && w_1) then (ofSlots (C.ti Q4) (List.take (C.ti Q4).size (List.drop 43 c1))) else none)) fun v57 =>
 iT v53 fun w_3 =>
 cg w_3 Q39 [v57] s fun v58 s_6 =>
 iT v53 fun w_4 =>
 gN w_4 v58 fun v59 =>
 pk v53 v59 (bv false) fun v60 =>
 condS v60 (
 rt [(some (iv 29)), (some (sv []))] s_6) (
 gC Q2 40 c1 fun v63 =>
 ca Q1s [v63] s_6 fun v64 s_7 =>
 nt v64 fun v65 =>
 condS v65 (
 gC Q2 40 c1 fun v68 =>
 rt [(some (iv 8)), (some v68)] s_7) (
 rt [(some (iv 0)), (some (sv []))] s_7))))))) := (Q5 _ _ _).trans (by kernel_rfl)
noncomputable def ZQ : List Slot → Slot → Slot → St → Res := fun x2_2 x5_2 x8 s => lpD Zx [.seqR, .seqR, .seqR, .seqR, .seqL, .seqR, .block] Tryz.f56 [(2, .var x2_2), (5, .s x5_2), (8, .s x8)] s
noncomputable def Q0K : List Slot → Slot → Slot → St → Res := fun x2_1 x5_1 x7 s => lpD Zx [.seqR, .seqR, .seqR, .seqL, .seqR, .block] Tryz.f56 [(2, .var x2_1), (5, .s x5_1), (7, .s x7)] s
noncomputable def Q0J : List Slot → Slot → Slot → St → Res := fun x2 x5 x6 s => lpD Zx [.seqR, .seqR, .seqL, .seqR, .block] Tryz.f56 [(2, .var x2), (5, .s x5), (6, .s x6)] s
theorem Q1R : ∀ x2_2 x5_2 x8 s_8, ZQ x2_2 x5_2 x8 s_8 =
 gC Qj 4 x2_2 fun v64 =>
 ln Qj v64 fun v65 =>
 bn Q1 .lss x8 v65 fun v66 =>
 condS v66 (
 gC Qj 4 x2_2 fun v70 =>
 ix Qi v70 x8 fun v72 =>
 ld Qi s_8 v72 fun v73 =>
 bx Qi v73 fun c =>
 pZ Qi c fun c9 =>
 gA Qi c9 fun v75 =>
 gC Q1 1 c9 fun v77 =>
 bd Qa [(0, Q1, (iv 6)), (40, Qi, v75), (2, Q1, v77)] fun v78 =>
 bs Qa [v78] fun v79 =>
 ap Qa s_8 x5_2 v79 fun v80 s_9 =>
 gC Qh 2 c9 fun v82 =>
 condS v82 (
 gC Q4 3 c9 fun v85 =>
 gC Q1 1 c9 fun v87 =>
 ca Q0x [v85, v87] s_9 fun v88 s_10 =>
 ap Qa s_10 v80 v88 fun v89 s_11 =>
 nx x8 fun v68 =>
 ZQ x2_2 v89 v68 s_11) (
 nx x8 fun v68_1 =>
 ZQ x2_2 v80 v68_1 s_9)) (
 some (.ret x5_2, s_8)) := by intros; unfold ZQ; exact (Qb _ _ _ _ _ _).trans (by kernel_rfl)
theorem Q3U : ∀ x2_1 x5_1 x7 s_4, Q0K x2_1 x5_1 x7 s_4 =
 gC QE 6 x2_1 fun v33 =>
 ln QE v33 fun v34 =>
 bn Q1 .lss x7 v34 fun v35 =>
 condS v35 (
 gC QE 6 x2_1 fun v40 =>
 ix ZD v40 x7 fun v42 =>
 ld ZD s_4 v42 fun v43 =>
 gC QE 6 x2_1 fun v45 =>
 ix ZD v45 x7 fun v47 =>
 fa 1 v47 fun v48 =>
 ld Q1 s_4 v48 fun v49 =>
 bd Qa [(0, Q1, (iv 5)), (26, ZD, v43), (2, Q1, v49)] fun v50 =>
 bs Qa [v50] fun v51 =>
 ap Qa s_4 x5_1 v51 fun v52 s_5 =>
 gC QE 6 x2_1 fun v55 =>
 ix ZD v55 x7 fun v57 =>
 fa 2 v57 fun v58 =>
 ld QI s_5 v58 fun v59 =>
 ca Q0w [v59] s_5 fun v60 s_6 =>
 ap Qa s_6 v52 v60 fun v61 s_7 =>
 nx x7 fun v37 =>
 Q0K x2_1 v61 v37 s_7) (
 ZQ x2_1 x5_1 (iv 0) s_4) := by intros; unfold Q0K; exact (Qb _ _ _ _ _ _).trans (by kernel_rfl)
theorem Q3T : ∀ x2 x5 x6 s_1, Q0J x2 x5 x6 s_1 =
 gC Qg 5 x2 fun v18 =>
 ln Qg v18 fun v19 =>
 bn Q1 .lss x6 v19 fun v20 =>
 condS v20 (
 gC Qg 5 x2 fun v25 =>
 ix QI v25 x6 fun v27 =>
 ld QI s_1 v27 fun v28 =>
 ca Q0w [v28] s_1 fun v29 s_2 =>
 ap Qa s_2 x5 v29 fun v30 s_3 =>
 nx x6 fun v22 =>
 Q0J x2 v30 v22 s_3) (
 Q0K x2 x5 (iv 0) s_1) := by intros; unfold Q0J; exact (Qb _ _ _ _ _ _).trans (by kernel_rfl)
theorem Qbl (a0 : AV) (a1 : AV) (s : St) : cw (.f Zx) [a0, a1] s =
 bx Qc (.val a0) fun c2 =>
 gA Qc c2 fun v10 =>
 gC Q1 1 c2 fun v12 =>
 bd Qa [(0, Q1, (iv 1)), (3, Qc, v10), (2, Q1, v12), (1, Qh, (.val a1))] fun v14 =>
 bs Qa [v14] fun v15 =>
 Q0J c2 v15 (iv 0) s := (Q5 _ _ _).trans (by kernel_rfl)
noncomputable def ZX : List Slot → Slot → Slot → St → Res := fun x1 x3 x4 s => lpD QV [.seqR, .seqR, .seqL, .seqR, .block] Tryz.f57 [(1, .var x1), (3, .s x3), (4, .s x4)] s
theorem Q32 : ∀ x1 x3 x4 s_1, ZX x1 x3 x4 s_1 =
 gC Qs 4 x1 fun v7 =>
 ln Qs v7 fun v8 =>
 bn Q1 .lss x4 v8 fun v9 =>
 condS v9 (
 gC Qs 4 x1 fun v14 =>
 ix QM v14 x4 fun v16 =>
 ld QM s_1 v16 fun v17 =>
 ca QV [v17] s_1 fun v18 s_2 =>
 bind1 (max2 x3 v18) fun v19 =>
 nx x4 fun v11 =>
 ZX x1 v19 v11 s_2) (
 nx x3 fun v21 =>
 some (.ret v21, s_1)) := by intros; unfold ZX; exact (Qb _ _ _ _ _ _).trans (by kernel_rfl)
theorem Q9k (a0 : AV) (s : St) : cw (.f QV) [a0] s =
 bx QM (.val a0) fun c1 =>
 ZX c1 (iv 0) (iv 0) s := (Q5 _ _ _).trans (by kernel_rfl)
noncomputable def ZW : List Slot → Slot → Slot → St → Res := fun x1_1 x3_1 x5 s => lpD QU [.seqR, .seqR, .seqR, .seqL, .seqR, .block] Tryz.f58 [(1, .var x1_1), (3, .s x3_1), (5, .s x5)] s
noncomputable def ZV : List Slot → Slot → Slot → St → Res := fun x1 x3 x4 s => lpD QU [.seqR, .seqR, .seqL, .seqR, .block] Tryz.f58 [(1, .var x1), (3, .s x3), (4, .s x4)] s
theorem Q2W : ∀ x1_1 x3_1 x5 s_4, ZW x1_1 x3_1 x5 s_4 =
 gC Qg 5 x1_1 fun v26 =>
 ln Qg v26 fun v27 =>
 bn Q1 .lss x5 v27 fun v28 =>
 condS v28 (
 gC Qg 5 x1_1 fun v33 =>
 ix QI v33 x5 fun v35 =>
 fa 0 v35 fun v36 =>
 bind1 (ldV (C.ti QM) true s_4 v36) fun v37 =>
 cn QV [v37] s_4 fun v38 s_5 =>
 gC Qg 5 x1_1 fun v40 =>
 ix QI v40 x5 fun v42 =>
 fa 5 v42 fun v43 =>
 bind1 (ldV (C.ti QL) true s_5 v43) fun v44 =>
 cn QU [v44] s_5 fun v45 s_6 =>
 bind1 (max3 x3_1 v38 v45) fun v46 =>
 nx x5 fun v30 =>
 ZW x1_1 v46 v30 s_6) (
 nx x3_1 fun v48 =>
 some (.ret v48, s_4)) := by intros; unfold ZW; exact (Qb _ _ _ _ _ _).trans (by kernel_rfl)
theorem Q2V : ∀ x1 x3 x4 s_2, ZV x1 x3 x4 s_2 =
 gC Qr 4 x1 fun v11 =>
 ln Qr v11 fun v12 =>
 bn Q1 .lss x4 v12 fun v13 =>
 condS v13 (
 gC Qr 4 x1 fun v18 =>
 ix QL v18 x4 fun v20 =>
 ld QL s_2 v20 fun v21 =>
 ca QU [v21] s_2 fun v22 s_3 =>
 bind1 (max2 x3 v22) fun v23 =>
 nx x4 fun v15 =>
 ZV x1 v23 v15 s_3) (
 ZW x1 x3 (iv 0) s_2) := by intros; unfold ZV; exact (Qb _ _ _ _ _ _).trans (by kernel_rfl)
theorem Q9e (a0 : AV) (s : St) : cw (.f QU) [a0] s =
 bx QL (.val a0) fun c1 =>
 gC Qo 6 c1 fun v7 =>
 ca Z8 [v7] s fun v8 s_1 =>
 ZV c1 v8 (iv 0) s_1 := (Q5 _ _ _).trans (by kernel_rfl)
noncomputable def Q0h : List Slot → Slot → Slot → St → Res := fun x1 x3 x4 s => lpD ZL [.seqR, .seqR, .seqL, .seqR, .block] Tryz.f59 [(1, .var x1), (3, .s x3), (4, .s x4)] s
theorem Q3B : ∀ x1 x3 x4 s_1, Q0h x1 x3 x4 s_1 =
 gC Qd 3 x1 fun v7 =>
 ln Qd v7 fun v8 =>
 bn Q1 .lss x4 v8 fun v9 =>
 condS v9 (
 gC Qd 3 x1 fun v14 =>
 ix Q4 v14 x4 fun v16 =>
 ld Q4 s_1 v16 fun v17 =>
 ca ZL [v17] s_1 fun v18 s_2 =>
 bind1 (max2 x3 v18) fun v19 =>
 nx x4 fun v11 =>
 Q0h x1 v19 v11 s_2) (
 nx x3 fun v21 =>
 some (.ret v21, s_1)) := by intros; unfold Q0h; exact (Qb _ _ _ _ _ _).trans (by kernel_rfl)
theorem Qaw (a0 : AV) (s : St) : cw (.f ZL) [a0] s =
 bx Q4 (.val a0) fun c1 =>
 Q0h c1 (iv 0) (iv 0) s := (Q5 _ _ _).trans (by kernel_rfl)
noncomputable def Q3O (x4 : Slot) : Am.Obj := .loop .ready none Q2y [(4, .s x4)] [16] (rngAsg (codeAt [.seqR, .seqR, .seqR, .seqL, .seqR, .block] (body Tryz.f60))) (rngBody (codeAt [.seqR, .seqR, .seqR, .seqL, .seqR, .block] (body Tryz.f60)))
theorem Q9q (x4 : Slot) (y16 : AV) (loc : Nat) (s_5 : St) : yldR C (Q3O x4) loc [y16] s_5 = noPan (
 bx QJ (.val y16) fun c_2 =>
 pZ QJ c_2 fun c5 =>
 bindS (beginL loc s_5) fun s_6 =>
 gA QJ c5 fun v17 =>
 ca Q09 [v17] s_6 fun v18 s_7 =>
 bx Q7 v18 fun c_3 =>
 pZ Q7 c_3 fun c6 =>
 gC Qq 0 c6 fun v20 =>
 bn Qq .neq v20 (iv 0) fun v21 =>
 condS v21 (
 gA Q7 c6 fun v22 =>
 bx Q7 v22 fun c_4 =>
 sto s_7 x4 c_4 fun s_8 =>
 bindS (setLoop loc .done (some .ret) s_8) fun s_9 =>
 some (.ret (bv false), s_9)) (
 bindS (setLoop loc .ready none s_7) fun s_10 =>
 some (.ret (bv true), s_10))) := by kernel_rfl
theorem Qd5 (a0 : AV) (a1 : AV) (s : St) : cw (.f Q2y) [a0, a1] s =
 ca Q2v [(.val a0), (iv 8193)] (St.addLoc s (.var (List.map .val (C.ti Q7).zero))) fun v8 s_1 =>
 bn Q1 .gtr v8 (iv 8192) fun v9 =>
 condS v9 (
 bd Q7 [(0, Qq, (iv 4))] fun v10 =>
 bx Q7 v10 fun c =>
 sto s_1 (.val (.vp s.locs.length 0)) c fun s_2 =>
 bind1 (ldV (C.ti Q7) false s_2 (.val (.vp s.locs.length 0))) fun v => some (.ret v, s_2)) (
 back (cal cw true (tgtV (.val a1) []) s_1) fun v12 s_3 =>
 bn Q1 .gtr v12 (iv 100) fun v13 =>
 condS v13 (
 bd Q7 [(0, Qq, (iv 7))] fun v14 =>
 bx Q7 v14 fun c_1 =>
 sto s_3 (.val (.vp s.locs.length 0)) c_1 fun s_4 =>
 bind1 (ldV (C.ti Q7) false s_4 (.val (.vp s.locs.length 0))) fun v => some (.ret v, s_4)) (
 rangeC C cw (.val a0) s_3.locs.length (St.addLoc s_3 (Q3O (.val (.vp s.locs.length 0)))) fun s_11 =>
 endX s_3.locs.length s_11 (fun s_12 =>
 bd Q7 [] fun v23 =>
 bx Q7 v23 fun c_5 =>
 sto s_12 (.val (.vp s.locs.length 0)) c_5 fun s_15 =>
 bind1 (ldV (C.ti Q7) false s_15 (.val (.vp s.locs.length 0))) fun v => some (.ret v, s_15)) (fun s_13 =>
 bind1 (ldV (C.ti Q7) false s_13 (.val (.vp s.locs.length 0))) fun v => some (.ret v, s_13)) (fun j s_14 =>
 bif Nat.beq j 0 then (
 bd Q7 [] fun v23_1 =>
 bx Q7 v23_1 fun c_6 =>
 sto s_14 (.val (.vp s.locs.length 0)) c_6 fun s_16 =>
 bind1 (ldV (C.ti Q7) false s_16 (.val (.vp s.locs.length 0))) fun v => some (.ret v, s_16)) else (
(none : Res))))) := (Q5 _ _ _).trans (by kernel_rfl)
theorem QaM (a0 : AV) (s : St) : cw (.f Q3b) [a0] s =
 bx Qo (.val a0) fun c1 =>
 bindA (avs c1) fun l1 =>
 bind1 (fnS Q2f [(.val (.cp l1))]) fun v3 =>
 some (.ret v3, s) := (Q5 _ _ _).trans (by kernel_rfl)
theorem QaG (a0 : AV) (s : St) : cw (.f Q3a) [a0] s =
 ld Qo s (.val a0) fun v2 =>
 ca QW [v2] s fun v3 s_1 =>
 some (.ret v3, s_1) := (Q5 _ _ _).trans (by kernel_rfl)
noncomputable def Zk : Slot → Slot → Slot → Slot → Slot → Slot → Slot → Slot → St → Res := fun x3_2 x6_1 x11_2 x12_2 x13_2 x35 x36 x37 s => lpD QW [.seqR, .seqR, .seqL, .seqR, .block, .loop, .seqR, .seqR, .seqL, .block, .seqR, .seqR, .seqR, .seqL, .seqR, .block] Tryz.f63 [(3, .s x3_2), (6, .s x6_1), (11, .s x11_2), (12, .s x12_2), (13, .s x13_2), (35, .s x35), (36, .s x36), (37, .s x37)] s
noncomputable def ZY : Slot → List Slot → Slot → Slot → Slot → Slot → Slot → Slot → Slot → St → Res := fun x3_1 x5 x6 x11_1 x12_1 x13_1 x21 x22 x23 s => lpD QW [.seqR, .seqR, .seqL, .seqR, .block, .loop, .seqR, .seqR, .seqL, .block, .seqR, .seqR, .seqL, .seqR, .block] Tryz.f63 [(3, .s x3_1), (5, .var x5), (6, .s x6), (11, .s x11_1), (12, .s x12_1), (13, .s x13_1), (21, .s x21), (22, .s x22), (23, .s x23)] s
noncomputable def Z4 : Slot → Slot → Slot → Slot → St → Res := fun x3 x11 x12 x13 s => lpD QW [.seqR, .seqR, .seqL, .seqR, .block] Tryz.f63 [(3, .s x3), (11, .s x11), (12, .s x12), (13, .s x13)] s
theorem Q35 : ∀ x3_2 x6_1 x11_2 x12_2 x13_2 x35 x36 x37 s_5, Zk x3_2 x6_1 x11_2 x12_2 x13_2 x35 x36 x37 s_5 =
 bn Q1 .lss x37 x36 fun v38 =>
 condS v38 (
 ix Qi x35 x37 fun v39 =>
 ld Qi s_5 v39 fun v40 =>
 bx Qi v40 fun c_2 =>
 pZ Qi c_2 fun c10 =>
 gC Qh 2 c10 fun v42 =>
 condS v42 (
 gC Q4 3 c10 fun v45 =>
 ca Q00 [v45] s_5 fun v46 s_6 =>
 bind1 (max2 x6_1 v46) fun v47 =>
 nx x37 fun v48 =>
 Zk x3_2 v47 x11_2 x12_2 x13_2 x35 x36 v48 s_6) (
 nx x37 fun v48_1 =>
 Zk x3_2 x6_1 x11_2 x12_2 x13_2 x35 x36 v48_1 s_5)) (
 nx x6_1 fun v51 =>
 bind1 (max2 x3_2 v51) fun v52 =>
 nx x13_2 fun v53 =>
 Z4 v52 x11_2 x12_2 v53 s_5) := by intros; unfold Zk; exact (Qb _ _ _ _ _ _).trans (by kernel_rfl)
theorem Q34 : ∀ x3_1 x5 x6 x11_1 x12_1 x13_1 x21 x22 x23 s_3, ZY x3_1 x5 x6 x11_1 x12_1 x13_1 x21 x22 x23 s_3 =
 bn Q1 .lss x23 x22 fun v24 =>
 condS v24 (
 ix ZD x21 x23 fun v25 =>
 ld ZD s_3 v25 fun v26 =>
 bx ZD v26 fun c_1 =>
 pZ ZD c_1 fun c8 =>
 gC QI 2 c8 fun v29 =>
 bs QI [v29] fun v30 =>
 ca Z3 [v30] s_3 fun v31 s_4 =>
 bind1 (max2 x6 v31) fun v32 =>
 nx x23 fun v33 =>
 ZY x3_1 x5 v32 x11_1 x12_1 x13_1 x21 x22 v33 s_4) (
 gC Qj 4 x5 fun v35 =>
 ln Qj v35 fun v36 =>
 Zk x3_1 x6 x11_1 x12_1 x13_1 v35 v36 (iv 0) s_3) := by intros; unfold ZY; exact (Qb _ _ _ _ _ _).trans (by kernel_rfl)
theorem Q33 : ∀ x3 x11 x12 x13 s_1, Z4 x3 x11 x12 x13 s_1 =
 bn Q1 .lss x13 x12 fun v14 =>
 condS v14 (
 ix Qc x11 x13 fun v15 =>
 ld Qc s_1 v15 fun v16 =>
 bx Qc v16 fun c =>
 pZ Qc c fun c5 =>
 gC Qg 5 c5 fun v18 =>
 ca Z3 [v18] s_1 fun v19 s_2 =>
 gC QE 6 c5 fun v21 =>
 ln QE v21 fun v22 =>
 ZY x3 c5 v19 x11 x12 x13 v21 v22 (iv 0) s_2) (
 some (.ret x3, s_1)) := by intros; unfold Z4; exact (Qb _ _ _ _ _ _).trans (by kernel_rfl)
theorem Q4V (a0 : AV) (s : St) : cw (.f QW) [a0] s =
 ln Qo (.val a0) fun v12 =>
 Z4 (iv 0) (.val a0) v12 (iv 0) s := (Q5 _ _ _).trans (by kernel_rfl)
theorem Qgh (a0 : AV) (a1 : AV) (s : St) : cw (.f Q2j) [a0, a1] s =
 bx Q4 (.val a0) fun c2 =>
 bx Q4 (.val a1) fun c3 =>
 gC Qk 0 c2 fun v6 =>
 gC Qk 0 c3 fun v8 =>
 bn Qk .eql v6 v8 fun v9 =>
 iT v9 fun w =>
 iT v9 fun w_1 =>
 gG w_1 w Q1 1 c2 fun v12 =>
 iT v9 fun w_2 =>
 iT v9 fun w_3 =>
 gG w_3 w_2 Q1 1 c3 fun v14 =>
 iT v9 fun w_4 =>
 gB w_4 Q1 .eql v12 v14 fun v15 =>
 pk v9 v15 (bv false) fun v16 =>
 iT v16 fun w_5 =>
 iT v16 fun w_6 =>
 gG w_6 w_5 Q2 2 c2 fun v19 =>
 iT v16 fun w_7 =>
 iT v16 fun w_8 =>
 gG w_8 w_7 Q2 2 c3 fun v21 =>
 iT v16 fun w_9 =>
 gB w_9 Q2 .eql v19 v21 fun v22 =>
 pk v16 v22 (bv false) fun v23 =>
 iT v23 fun w_10 =>
 iT v23 fun w_11 =>
 gG w_11 w_10 Qd 3 c2 fun v26 =>
 iT v23 fun w_12 =>
 iT v23 fun w_13 =>
 gG w_13 w_12 Qd 3 c3 fun v28 =>
 iT v23 fun w_14 =>
 cg w_14 QK [v26, v28, (.val (.fn Q2j []))] s fun v29 s_1 =>
 pk v23 v29 (bv false) fun v30 =>
 some (.ret v30, s_1) := (Q5 _ _ _).trans (by kernel_rfl)
theorem Q0p (a0 : AV) (s : St) : cw (.f Z5) [a0] s =
 bn Qd .eql (.val a0) (.val (.nils)) fun v4 =>
 condS v4 (
 some (.ret (.val (.nils)), s)) (
 bs Q4 [] fun v5 =>
 bind2 (appendV Q4 (C.ti Q4) s v5 (.val a0)) fun v7 s_1 =>
 some (.ret v7, s_1)) := (Q5 _ _ _).trans (by kernel_rfl)
theorem Qe8 (a0 : AV) (a1 : AV) (s : St) : cw (.f Q5t) [a0, a1] s =
 bx Qc (.val a0) fun c2 =>
 gC Qe 0 c2 fun v10 =>
 bn Qe .eql v10 (iv 1) fun v11 =>
 gC Qe 0 c2 fun v13 =>
 bn Qe .eql v13 (iv 2) fun v14 =>
 gC Qe 0 c2 fun v16 =>
 bn Qe .eql v16 (iv 3) fun v17 =>
 gC Qe 0 c2 fun v19 =>
 bn Qe .eql v19 (iv 4) fun v20 =>
 nt v11 fun v22 =>
 iT v22 fun w =>
 iT v22 fun w_1 =>
 bind1 (gd w_1 (unS .not (gdV w v14))) fun v25 =>
 pk v22 v25 (bv false) fun v26 =>
 iT v26 fun w_2 =>
 iT v26 fun w_3 =>
 bind1 (gd w_3 (unS .not (gdV w_2 v17))) fun v29 =>
 pk v26 v29 (bv false) fun v30 =>
 iT v30 fun w_4 =>
 iT v30 fun w_5 =>
 bind1 (gd w_5 (unS .not (gdV w_4 v20))) fun v33 =>
 pk v30 v33 (bv false) fun v34 =>
 iF v34 fun w_6 =>
 iF v34 fun w_7 =>
 bindB (Slot.isB (gdV w_7 (gdV w_6 (.val a1))) true) fun w_8 =>
 bindB (Slot.isB (gdV w_7 (gdV w_6 (.val a1))) true) fun w_9 =>
 bind1 (gd w_9 (unS .not (gdV w_8 v11))) fun v39 =>
 iF v34 fun w_10 =>
 bind1 (gd w_10 (pickS (gdV w_7 (gdV w_6 (.val a1))) v39 (bv false))) fun v40 =>
 iF v34 fun w_11 =>
 bindB (Slot.isB (gdV w_11 v40) true) fun w_12 =>
 bindB (Slot.isB (gdV w_11 v40) true) fun w_13 =>
 bind1 (gd w_13 (unS .not (gdV w_12 v14))) fun v43 =>
 iF v34 fun w_14 =>
 bind1 (gd w_14 (pickS (gdV w_11 v40) v43 (bv false))) fun v44 =>
 pk v34 (bv true) v44 fun v45 =>
 condS v45 (
 some (.ret (iv 29), s)) (
 nt v11 fun v47 =>
 iT v47 fun w_15 =>
 iT v47 fun w_16 =>
 gG w_16 w_15 Qg 5 c2 fun v50 =>
 iT v47 fun w_17 =>
 gL w_17 Qg v50 fun v51 =>
 iT v47 fun w_18 =>
 gB w_18 Q1 .gtr v51 (iv 0) fun v52 =>
 pk v47 v52 (bv false) fun v53 =>
 iF v53 fun w_19 =>
 iF v53 fun w_20 =>
 bind1 (gd w_20 (unS .not (gdV w_19 v14))) fun v56 =>
 iF v53 fun w_21 =>
 bindB (Slot.isB (gdV w_21 v56) true) fun w_22 =>
 bindB (Slot.isB (gdV w_21 v56) true) fun w_23 =>
 gG w_23 w_22 QE 6 c2 fun v59 =>
 bindB (Slot.isB (gdV w_21 v56) true) fun w_24 =>
 gL w_24 QE v59 fun v60 =>
 bindB (Slot.isB (gdV w_21 v56) true) fun w_25 =>
 gB w_25 Q1 .gtr v60 (iv 0) fun v61 =>
 iF v53 fun w_26 =>
 bind1 (gd w_26 (pickS (gdV w_21 v56) v61 (bv false))) fun v62 =>
 pk v53 (bv true) v62 fun v63 =>
 iF v63 fun w_27 =>
 iF v63 fun w_28 =>
 bind1 (gd w_28 (unS .not (gdV w_27 v17))) fun v66 =>
 iF v63 fun w_29 =>
 bindB (Slot.isB (gdV w_29 v66) true) fun w_30 =>
 bindB (Slot.isB (gdV w_29 v66) true) fun w_31 =>
 gG w_31 w_30 Q2 2 c2 fun v69 =>
 bindB (Slot.isB (gdV w_29 v66) true) fun w_32 =>
 gB w_32 Q2 .neq v69 (sv []) fun v70 =>
 bindB (Slot.isB (gdV w_29 v66) true) fun w_33 =>
 bindB (Slot.isB (gdV w_33 v70) false) fun w_34 =>
 bindB (Slot.isB (gdV w_33 v70) false) fun w_35 =>
 gG w_35 w_34 Q1 3 c2 fun v73 =>
 bindB (Slot.isB (gdV w_33 v70) false) fun w_36 =>
 gB w_36 Q1 .neq v73 (iv 0) fun v74 =>
 bindB (Slot.isB (gdV w_29 v66) true) fun w_37 =>
 bind1 (gd w_37 (pickS (gdV w_33 v70) (bv true) v74)) fun v75 =>
 iF v63 fun w_38 =>
 bind1 (gd w_38 (pickS (gdV w_29 v66) v75 (bv false))) fun v76 =>
 pk v63 (bv true) v76 fun v77 =>
 iF v77 fun w_39 =>
 iF v77 fun w_40 =>
 bind1 (gd w_40 (unS .not (gdV w_39 v17))) fun v80 =>
 iF v77 fun w_41 =>
 bindB (Slot.isB (gdV w_41 v80) true) fun w_42 =>
 bindB (Slot.isB (gdV w_41 v80) true) fun w_43 =>
 bind1 (gd w_43 (unS .not (gdV w_42 v20))) fun v83 =>
 iF v77 fun w_44 =>
 bind1 (gd w_44 (pickS (gdV w_41 v80) v83 (bv false))) fun v84 =>
 iF v77 fun w_45 =>
 bindB (Slot.isB (gdV w_45 v84) true) fun w_46 =>
 bindB (Slot.isB (gdV w_45 v84) true) fun w_47 =>
 gG w_47 w_46 Qj 4 c2 fun v87 =>
 bindB (Slot.isB (gdV w_45 v84) true) fun w_48 =>
 gL w_48 Qj v87 fun v88 =>
 bindB (Slot.isB (gdV w_45 v84) true) fun w_49 =>
 gB w_49 Q1 .gtr v88 (iv 0) fun v89 =>
 iF v77 fun w_50 =>
 bind1 (gd w_50 (pickS (gdV w_45 v84) v89 (bv false))) fun v90 =>
 pk v77 (bv true) v90 fun v91 =>
 condS v91 (
 some (.ret (iv 29), s)) (
 iT v17 fun w_51 =>
 iT v17 fun w_52 =>
 gG w_52 w_51 Q2 2 c2 fun v95 =>
 iT v17 fun w_53 =>
 cg w_53 Q0l [v95] s fun v96 s_1 =>
 iT v17 fun w_54 =>
 gN w_54 v96 fun v97 =>
 pk v17 v97 (bv false) fun v98 =>
 condS v98 (
 some (.ret (iv 8), s_1)) (
 iT v11 fun w_55 =>
 iT v11 fun w_56 =>
 gG w_56 w_55 Qg 5 c2 fun v102 =>
 iT v11 fun w_57 =>
 gL w_57 Qg v102 fun v103 =>
 iT v11 fun w_58 =>
 gB w_58 Q1 .neq v103 (iv 1) fun v104 =>
 pk v11 v104 (bv false) fun v105 =>
 iF v105 fun w_59 =>
 iF v105 fun w_60 =>
 bindB (Slot.isB (gdV w_60 (gdV w_59 v14)) true) fun w_61 =>
 bindB (Slot.isB (gdV w_60 (gdV w_59 v14)) true) fun w_62 =>
 gG w_62 w_61 QE 6 c2 fun v110 =>
 bindB (Slot.isB (gdV w_60 (gdV w_59 v14)) true) fun w_63 =>
 gL w_63 QE v110 fun v111 =>
 bindB (Slot.isB (gdV w_60 (gdV w_59 v14)) true) fun w_64 =>
 gB w_64 Q1 .lss v111 (iv 1) fun v112 =>
 iF v105 fun w_65 =>
 bind1 (gd w_65 (pickS (gdV w_60 (gdV w_59 v14)) v112 (bv false))) fun v113 =>
 pk v105 (bv true) v113 fun v114 =>
 iF v114 fun w_66 =>
 iF v114 fun w_67 =>
 bindB (Slot.isB (gdV w_67 (gdV w_66 v17)) true) fun w_68 =>
 bindB (Slot.isB (gdV w_67 (gdV w_66 v17)) true) fun w_69 =>
 gG w_69 w_68 Q1 3 c2 fun v119 =>
 bindB (Slot.isB (gdV w_67 (gdV w_66 v17)) true) fun w_70 =>
 cg w_70 Q07 [v119, (iv 0), (iv 8)] s_1 fun v120 s_2 =>
 bindB (Slot.isB (gdV w_67 (gdV w_66 v17)) true) fun w_71 =>
 gN w_71 v120 fun v121 =>
 bindB (Slot.isB (gdV w_67 (gdV w_66 v17)) true) fun w_72 =>
 bindB (Slot.isB (gdV w_72 v121) false) fun w_73 =>
 bindB (Slot.isB (gdV w_72 v121) false) fun w_74 =>
 gG w_74 w_73 Qj 4 c2 fun v124 =>
 bindB (Slot.isB (gdV w_72 v121) false) fun w_75 =>
 gL w_75 Qj v124 fun v125 =>
 bindB (Slot.isB (gdV w_72 v121) false) fun w_76 =>
 cg w_76 Q07 [v125, (iv 1), (iv 64)] s_2 fun v126 s_3 =>
 bindB (Slot.isB (gdV w_72 v121) false) fun w_77 =>
 gN w_77 v126 fun v127 =>
 bindB (Slot.isB (gdV w_67 (gdV w_66 v17)) true) fun w_78 =>
 bind1 (gd w_78 (pickS (gdV w_72 v121) (bv true) v127)) fun v128 =>
 iF v114 fun w_79 =>
 bind1 (gd w_79 (pickS (gdV w_67 (gdV w_66 v17)) v128 (bv false))) fun v129 =>
 pk v114 (bv true) v129 fun v130 =>
 iF v130 fun w_80 =>
 iF v130 fun w_81 =>
 bindB (Slot.isB (gdV w_81 (gdV w_80 v20)) true) fun w_82 =>
 bindB (Slot.isB (gdV w_81 (gdV w_80 v20)) true) fun w_83 =>
 gG w_83 w_82 Qj 4 c2 fun v135 =>
 bindB (Slot.isB (gdV w_81 (gdV w_80 v20)) true) fun w_84 =>
 gL w_84 Qj v135 fun v136 =>
 bindB (Slot.isB (gdV w_81 (gdV w_80 v20)) true) fun w_85 =>
 gB w_85 Q1 .neq v136 (iv 1) fun v137 =>
 iF v130 fun w_86 =>
 bind1 (gd w_86 (pickS (gdV w_81 (gdV w_80 v20)) v137 (bv false))) fun v138 =>
 pk v130 (bv true) v138 fun v139 =>
 condS v139 (
 some (.ret (iv 19), s_3)) (
 some (.ret (iv 0), s_3))))) := (Q5 _ _ _).trans (by kernel_rfl)
theorem Qe9 (a0 : AV) (s : St) : cw (.f Q5u) [a0] s =
 bindL (boxCells (C.ti QL) (.val a0)) fun c1 =>
 bind1 (ofSlots (C.ti Q3) (List.take (C.ti Q3).size (List.drop 0 c1))) fun v10 =>
 bind1 (binS (C.ti Q3) .lss v10 (.val (.int .i64 1))) fun v12 =>
 bindB (Slot.isB v12 false) fun w =>
 bindB (Slot.isB v12 false) fun w_1 =>
 bind1 (gd w_1 (binS (C.ti Q3) .gtr (gdV w v10) (.val (.int .i64 20)))) fun v15 =>
 bind1 (pickS v12 (.val (.bool true)) v15) fun v16 =>
 condS v16 (
 some (.ret (.val (.int .i64 29)), s)) (
 back (cal cw true (tgtV (.val (.fn Q0z [])) [v10]) s) fun v19 s_1 =>
 bind1 (extractS v19 0) fun v20 =>
 bind1 (extractS v19 1) fun v21 =>
 bind1 (extractS v19 2) fun v22 =>
 bind1 (binS (C.ti Q3) .eql v10 (.val (.int .i64 5))) fun v24 =>
 bindB (Slot.isB v24 false) fun w_2 =>
 bindB (Slot.isB v24 false) fun w_3 =>
 bind1 (gd w_3 (binS (C.ti Q3) .eql (gdV w_2 v10) (.val (.int .i64 9)))) fun v27 =>
 bind1 (pickS v24 (.val (.bool true)) v27) fun v28 =>
 bindB (Slot.isB v28 false) fun w_4 =>
 bindB (Slot.isB v28 false) fun w_5 =>
 bind1 (gd w_5 (binS (C.ti Q3) .eql (gdV w_4 v10) (.val (.int .i64 11)))) fun v31 =>
 bind1 (pickS v28 (.val (.bool true)) v31) fun v32 =>
 bind1 (binS (C.ti Q3) .eql v10 (.val (.int .i64 2))) fun v34 =>
 bindB (Slot.isB v34 false) fun w_6 =>
 bindB (Slot.isB v34 false) fun w_7 =>
 bind1 (gd w_7 (binS (C.ti Q3) .eql (gdV w_6 v10) (.val (.int .i64 3)))) fun v37 =>
 bind1 (pickS v34 (.val (.bool true)) v37) fun v38 =>
 bind1 (unS .not v38) fun v40 =>
 bindB (Slot.isB v40 true) fun w_8 =>
 bindB (Slot.isB v40 true) fun w_9 =>
 bind1 (gd w_9 (bif w_8 then (ofSlots (C.ti Q2) (List.take (C.ti Q2).size (List.drop 2 c1))) else none)) fun v43 =>
 bindB (Slot.isB v40 true) fun w_10 =>
 bind1 (gd w_10 (binS (C.ti Q2) .neq v43 (.val (.str [])))) fun v44 =>
 bind1 (pickS v40 v44 (.val (.bool false))) fun v45 =>
 bindB (Slot.isB v45 false) fun w_11 =>
 bindB (Slot.isB v45 false) fun w_12 =>
 bind1 (gd w_12 (binS (C.ti Q3) .neq (gdV w_11 v10) (.val (.int .i64 1)))) fun v48 =>
 bindB (Slot.isB v45 false) fun w_13 =>
 bindB (Slot.isB (gdV w_13 v48) true) fun w_14 =>
 bindB (Slot.isB (gdV w_13 v48) true) fun w_15 =>
 bind1 (gd w_15 (binS (C.ti Q3) .neq (gdV w_14 v10) (.val (.int .i64 13)))) fun v51 =>
 bindB (Slot.isB v45 false) fun w_16 =>
 bind1 (gd w_16 (pickS (gdV w_13 v48) v51 (.val (.bool false)))) fun v52 =>
 bindB (Slot.isB v45 false) fun w_17 =>
 bindB (Slot.isB (gdV w_17 v52) true) fun w_18 =>
 bindB (Slot.isB (gdV w_17 v52) true) fun w_19 =>
 bind1 (gd w_19 (bif w_18 then (ofSlots (C.ti Q1) (List.take (C.ti Q1).size (List.drop 3 c1))) else none)) fun v55 =>
 bindB (Slot.isB (gdV w_17 v52) true) fun w_20 =>
 bind1 (gd w_20 (binS (C.ti Q1) .neq v55 (.val (.int .i64 0)))) fun v56 =>
 bindB (Slot.isB v45 false) fun w_21 =>
 bind1 (gd w_21 (pickS (gdV w_17 v52) v56 (.val (.bool false)))) fun v57 =>
 bind1 (pickS v45 (.val (.bool true)) v57) fun v58 =>
 bindB (Slot.isB v58 false) fun w_22 =>
 bindB (Slot.isB v58 false) fun w_23 =>
 bind1 (gd w_23 (unS .not (gdV w_22 v22))) fun v61 =>
 bindB (Slot.isB v58 false) fun w_24 =>
 bindB (Slot.isB (gdV w_24 v61) true) fun w_25 =>
 bindB (Slot.isB (gdV w_24 v61) true) fun w_26 =>
 bind1 (gd w_26 (bif w_25 then (ofSlots (C.ti Qr) (List.take (C.ti Qr).size (List.drop 4 c1))) else none)) fun v64 =>
 bindB (Slot.isB (gdV w_24 v61) true) fun w_27 =>
 bind1 (gd w_27 (lenS (C.ti Qr) v64)) fun v65 =>
 bindB (Slot.isB (gdV w_24 v61) true) fun w_28 =>
 bind1 (gd w_28 (binS (C.ti Q1) .gtr v65 (.val (.int .i64 0)))) fun v66 =>
 bindB (Slot.isB v58 false) fun w_29 =>
 bind1 (gd w_29 (pickS (gdV w_24 v61) v66 (.val (.bool false)))) fun v67 =>
 bind1 (pickS v58 (.val (.bool true)) v67) fun v68 =>
 bindB (Slot.isB v68 false) fun w_30 =>
 bindB (Slot.isB v68 false) fun w_31 =>
 bind1 (gd w_31 (unS .not (gdV w_30 v32))) fun v71 =>
 bindB (Slot.isB v68 false) fun w_32 =>
 bindB (Slot.isB (gdV w_32 v71) true) fun w_33 =>
 bindB (Slot.isB (gdV w_32 v71) true) fun w_34 =>
 bind1 (gd w_34 (bif w_33 then (ofSlots (C.ti Qg) (List.take (C.ti Qg).size (List.drop 5 c1))) else none)) fun v74 =>
 bindB (Slot.isB (gdV w_32 v71) true) fun w_35 =>
 bind1 (gd w_35 (lenS (C.ti Qg) v74)) fun v75 =>
 bindB (Slot.isB (gdV w_32 v71) true) fun w_36 =>
 bind1 (gd w_36 (binS (C.ti Q1) .gtr v75 (.val (.int .i64 0)))) fun v76 =>
 bindB (Slot.isB v68 false) fun w_37 =>
 bind1 (gd w_37 (pickS (gdV w_32 v71) v76 (.val (.bool false)))) fun v77 =>
 bind1 (pickS v68 (.val (.bool true)) v77) fun v78 =>
 bindB (Slot.isB v78 false) fun w_38 =>
 bindB (Slot.isB v78 false) fun w_39 =>
 bind1 (gd w_39 (binS (C.ti Q3) .neq (gdV w_38 v10) (.val (.int .i64 7)))) fun v81 =>
 bindB (Slot.isB v78 false) fun w_40 =>
 bindB (Slot.isB (gdV w_40 v81) true) fun w_41 =>
 bindB (Slot.isB (gdV w_40 v81) true) fun w_42 =>
 bind1 (gd w_42 (bif w_41 then (ofSlots (C.ti Qo) (List.take (C.ti Qo).size (List.drop 6 c1))) else none)) fun v84 =>
 bindB (Slot.isB (gdV w_40 v81) true) fun w_43 =>
 bind1 (gd w_43 (lenS (C.ti Qo) v84)) fun v85 =>
 bindB (Slot.isB (gdV w_40 v81) true) fun w_44 =>
 bind1 (gd w_44 (binS (C.ti Q1) .gtr v85 (.val (.int .i64 0)))) fun v86 =>
 bindB (Slot.isB v78 false) fun w_45 =>
 bind1 (gd w_45 (pickS (gdV w_40 v81) v86 (.val (.bool false)))) fun v87 =>
 bind1 (pickS v78 (.val (.bool true)) v87) fun v88 =>
 condS v88 (
 some (.ret (.val (.int .i64 29)), s_1)) (
 bind1 (binS (C.ti Q3) .eql v10 (.val (.int .i64 2))) fun v90 =>
 bindB (Slot.isB v90 true) fun w_46 =>
 bindB (Slot.isB v90 true) fun w_47 =>
 bind1 (gd w_47 (bif w_46 then (ofSlots (C.ti Q2) (List.take (C.ti Q2).size (List.drop 2 c1))) else none)) fun v93 =>
 bindB (Slot.isB v90 true) fun w_48 =>
 back (cal cw w_48 (tgtV (.val (.fn Q0l [])) [v93]) s_1) fun v94 s_2 =>
 bindB (Slot.isB v90 true) fun w_49 =>
 bind1 (gd w_49 (unS .not v94)) fun v95 =>
 bind1 (pickS v90 v95 (.val (.bool false))) fun v96 =>
 bindB (Slot.isB v96 false) fun w_50 =>
 bindB (Slot.isB v96 false) fun w_51 =>
 bind1 (gd w_51 (binS (C.ti Q3) .eql (gdV w_50 v10) (.val (.int .i64 3)))) fun v99 =>
 bindB (Slot.isB v96 false) fun w_52 =>
 bindB (Slot.isB (gdV w_52 v99) true) fun w_53 =>
 bindB (Slot.isB (gdV w_52 v99) true) fun w_54 =>
 bind1 (gd w_54 (bif w_53 then (ofSlots (C.ti Q2) (List.take (C.ti Q2).size (List.drop 2 c1))) else none)) fun v102 =>
 bindB (Slot.isB (gdV w_52 v99) true) fun w_55 =>
 back (cal cw w_55 (tgtV (.val (.fn Q3l [])) [v102]) s_2) fun v103 s_3 =>
 bindB (Slot.isB (gdV w_52 v99) true) fun w_56 =>
 bind1 (gd w_56 (unS .not v103)) fun v104 =>
 bindB (Slot.isB v96 false) fun w_57 =>
 bind1 (gd w_57 (pickS (gdV w_52 v99) v104 (.val (.bool false)))) fun v105 =>
 bind1 (pickS v96 (.val (.bool true)) v105) fun v106 =>
 condS v106 (
 some (.ret (.val (.int .i64 8)), s_3)) (
 bind1 (binS (C.ti Q3) .eql v10 (.val (.int .i64 1))) fun v108 =>
 bindB (Slot.isB v108 true) fun w_58 =>
 bindB (Slot.isB v108 true) fun w_59 =>
 bind1 (gd w_59 (bif w_58 then (ofSlots (C.ti Q1) (List.take (C.ti Q1).size (List.drop 3 c1))) else none)) fun v111 =>
 bindB (Slot.isB v108 true) fun w_60 =>
 back (cal cw w_60 (tgtV (.val (.fn Q2b [])) [v111]) s_3) fun v112 s_4 =>
 bindB (Slot.isB v108 true) fun w_61 =>
 bind1 (gd w_61 (unS .not v112)) fun v113 =>
 bind1 (pickS v108 v113 (.val (.bool false))) fun v114 =>
 bindB (Slot.isB v114 false) fun w_62 =>
 bindB (Slot.isB v114 false) fun w_63 =>
 bind1 (gd w_63 (binS (C.ti Q3) .eql (gdV w_62 v10) (.val (.int .i64 13)))) fun v117 =>
 bindB (Slot.isB v114 false) fun w_64 =>
 bindB (Slot.isB (gdV w_64 v117) true) fun w_65 =>
 bindB (Slot.isB (gdV w_64 v117) true) fun w_66 =>
 bind1 (gd w_66 (bif w_65 then (ofSlots (C.ti Q1) (List.take (C.ti Q1).size (List.drop 3 c1))) else none)) fun v120 =>
 bindB (Slot.isB (gdV w_64 v117) true) fun w_67 =>
 back (cal cw w_67 (tgtV (.val (.fn Q07 [])) [v120, (.val (.int .i64 1)), (.val (.int .i64 9))]) s_4) fun v121 s_5 =>
 bindB (Slot.isB (gdV w_64 v117) true) fun w_68 =>
 bind1 (gd w_68 (unS .not v121)) fun v122 =>
 bindB (Slot.isB v114 false) fun w_69 =>
 bind1 (gd w_69 (pickS (gdV w_64 v117) v122 (.val (.bool false)))) fun v123 =>
 bind1 (pickS v114 (.val (.bool true)) v123) fun v124 =>
 condS v124 (
 some (.ret (.val (.int .i64 2)), s_5)) (
 bindB (Slot.isB v22 true) fun w_70 =>
 bindB (Slot.isB v22 true) fun w_71 =>
 bind1 (gd w_71 (bif w_70 then (ofSlots (C.ti Qr) (List.take (C.ti Qr).size (List.drop 4 c1))) else none)) fun v128 =>
 bindB (Slot.isB v22 true) fun w_72 =>
 bind1 (gd w_72 (lenS (C.ti Qr) v128)) fun v129 =>
 bindB (Slot.isB v22 true) fun w_73 =>
 bindB (Slot.isB v22 true) fun w_74 =>
 bindB (Slot.isB v22 true) fun w_75 =>
 back (cal cw w_75 (tgtV (.val (.fn Q07 [])) [v129, (gdV w_73 v20), (gdV w_74 v21)]) s_5) fun v132 s_6 =>
 bindB (Slot.isB v22 true) fun w_76 =>
 bind1 (gd w_76 (unS .not v132)) fun v133 =>
 bind1 (pickS v22 v133 (.val (.bool false))) fun v134 =>
 bindB (Slot.isB v134 false) fun w_77 =>
 bindB (Slot.isB v134 false) fun w_78 =>
 bindB (Slot.isB (gdV w_78 (gdV w_77 v32)) true) fun w_79 =>
 bindB (Slot.isB (gdV w_78 (gdV w_77 v32)) true) fun w_80 =>
 bind1 (gd w_80 (bif w_79 then (ofSlots (C.ti Qg) (List.take (C.ti Qg).size (List.drop 5 c1))) else none)) fun v139 =>
 bindB (Slot.isB (gdV w_78 (gdV w_77 v32)) true) fun w_81 =>
 bind1 (gd w_81 (lenS (C.ti Qg) v139)) fun v140 =>
 bindB (Slot.isB (gdV w_78 (gdV w_77 v32)) true) fun w_82 =>
 bind1 (gd w_82 (binS (C.ti Q1) .lss v140 (.val (.int .i64 1)))) fun v141 =>
 bindB (Slot.isB v134 false) fun w_83 =>
 bind1 (gd w_83 (pickS (gdV w_78 (gdV w_77 v32)) v141 (.val (.bool false)))) fun v142 =>
 bind1 (pickS v134 (.val (.bool true)) v142) fun v143 =>
 bindB (Slot.isB v143 false) fun w_84 =>
 bindB (Slot.isB v143 false) fun w_85 =>
 bind1 (gd w_85 (binS (C.ti Q3) .eql (gdV w_84 v10) (.val (.int .i64 7)))) fun v146 =>
 bindB (Slot.isB v143 false) fun w_86 =>
 bindB (Slot.isB (gdV w_86 v146) true) fun w_87 =>
 bindB (Slot.isB (gdV w_86 v146) true) fun w_88 =>
 bind1 (gd w_88 (bif w_87 then (ofSlots (C.ti Qo) (List.take (C.ti Qo).size (List.drop 6 c1))) else none)) fun v149 =>
 bindB (Slot.isB (gdV w_86 v146) true) fun w_89 =>
 bind1 (gd w_89 (lenS (C.ti Qo) v149)) fun v150 =>
 bindB (Slot.isB (gdV w_86 v146) true) fun w_90 =>
 bind1 (gd w_90 (binS (C.ti Q1) .lss v150 (.val (.int .i64 1)))) fun v151 =>
 bindB (Slot.isB v143 false) fun w_91 =>
 bind1 (gd w_91 (pickS (gdV w_86 v146) v151 (.val (.bool false)))) fun v152 =>
 bind1 (pickS v143 (.val (.bool true)) v152) fun v153 =>
 condS v153 (
 some (.ret (.val (.int .i64 19)), s_6)) (
 some (.ret (.val (.int .i64 0)), s_6)))))) := (Q5 _ _ _).trans (by kernel_rfl)
theorem Qeb (a0 : AV) (s : St) : cw (.f Q5v) [a0] s =
 bx QM (.val a0) fun c1 =>
 gC Qn 0 c1 fun v7 =>
 bn Qn .lss v7 (iv 1) fun v9 =>
 iF v9 fun w =>
 iF v9 fun w_1 =>
 gB w_1 Qn .gtr (gdV w v7) (iv 6) fun v12 =>
 pk v9 (bv true) v12 fun v13 =>
 condS v13 (
 some (.ret (iv 29), s)) (
 bn Qn .eql v7 (iv 2) fun v15 =>
 iF v15 fun w_2 =>
 iF v15 fun w_3 =>
 gB w_3 Qn .eql (gdV w_2 v7) (iv 4) fun v18 =>
 pk v15 (bv true) v18 fun v19 =>
 iF v19 fun w_4 =>
 iF v19 fun w_5 =>
 gB w_5 Qn .eql (gdV w_4 v7) (iv 6) fun v22 =>
 pk v19 (bv true) v22 fun v23 =>
 bn Qn .eql v7 (iv 4) fun v25 =>
 iF v25 fun w_6 =>
 iF v25 fun w_7 =>
 gB w_7 Qn .eql (gdV w_6 v7) (iv 5) fun v28 =>
 pk v25 (bv true) v28 fun v29 =>
 iF v29 fun w_8 =>
 iF v29 fun w_9 =>
 gB w_9 Qn .eql (gdV w_8 v7) (iv 6) fun v32 =>
 pk v29 (bv true) v32 fun v33 =>
 nt v23 fun v35 =>
 iT v35 fun w_10 =>
 iT v35 fun w_11 =>
 gG w_11 w_10 Q2 2 c1 fun v38 =>
 iT v35 fun w_12 =>
 gB w_12 Q2 .neq v38 (sv []) fun v39 =>
 pk v35 v39 (bv false) fun v40 =>
 iF v40 fun w_13 =>
 iF v40 fun w_14 =>
 gB w_14 Qn .neq (gdV w_13 v7) (iv 3) fun v43 =>
 iF v40 fun w_15 =>
 bindB (Slot.isB (gdV w_15 v43) true) fun w_16 =>
 bindB (Slot.isB (gdV w_15 v43) true) fun w_17 =>
 gG w_17 w_16 Q1 3 c1 fun v46 =>
 bindB (Slot.isB (gdV w_15 v43) true) fun w_18 =>
 gB w_18 Q1 .neq v46 (iv 0) fun v47 =>
 iF v40 fun w_19 =>
 bind1 (gd w_19 (pickS (gdV w_15 v43) v47 (bv false))) fun v48 =>
 pk v40 (bv true) v48 fun v49 =>
 iF v49 fun w_20 =>
 iF v49 fun w_21 =>
 bind1 (gd w_21 (unS .not (gdV w_20 v33))) fun v52 =>
 iF v49 fun w_22 =>
 bindB (Slot.isB (gdV w_22 v52) true) fun w_23 =>
 bindB (Slot.isB (gdV w_22 v52) true) fun w_24 =>
 gG w_24 w_23 Qs 4 c1 fun v55 =>
 bindB (Slot.isB (gdV w_22 v52) true) fun w_25 =>
 gL w_25 Qs v55 fun v56 =>
 bindB (Slot.isB (gdV w_22 v52) true) fun w_26 =>
 gB w_26 Q1 .gtr v56 (iv 0) fun v57 =>
 iF v49 fun w_27 =>
 bind1 (gd w_27 (pickS (gdV w_22 v52) v57 (bv false))) fun v58 =>
 pk v49 (bv true) v58 fun v59 =>
 condS v59 (
 some (.ret (iv 29), s)) (
 bn Qn .eql v7 (iv 4) fun v61 =>
 iT v61 fun w_28 =>
 iT v61 fun w_29 =>
 gG w_29 w_28 Q2 2 c1 fun v64 =>
 iT v61 fun w_30 =>
 cg w_30 Q3l [v64] s fun v65 s_1 =>
 iT v61 fun w_31 =>
 gN w_31 v65 fun v66 =>
 pk v61 v66 (bv false) fun v67 =>
 iF v67 fun w_32 =>
 iF v67 fun w_33 =>
 bindB (Slot.isB (gdV w_33 (gdV w_32 v23)) true) fun w_34 =>
 bindB (Slot.isB (gdV w_33 (gdV w_32 v23)) true) fun w_35 =>
 gB w_35 Qn .neq (gdV w_34 v7) (iv 4) fun v72 =>
 iF v67 fun w_36 =>
 bind1 (gd w_36 (pickS (gdV w_33 (gdV w_32 v23)) v72 (bv false))) fun v73 =>
 iF v67 fun w_37 =>
 bindB (Slot.isB (gdV w_37 v73) true) fun w_38 =>
 bindB (Slot.isB (gdV w_37 v73) true) fun w_39 =>
 gG w_39 w_38 Q2 2 c1 fun v76 =>
 bindB (Slot.isB (gdV w_37 v73) true) fun w_40 =>
 cg w_40 Q0l [v76] s_1 fun v77 s_2 =>
 bindB (Slot.isB (gdV w_37 v73) true) fun w_41 =>
 gN w_41 v77 fun v78 =>
 iF v67 fun w_42 =>
 bind1 (gd w_42 (pickS (gdV w_37 v73) v78 (bv false))) fun v79 =>
 pk v67 (bv true) v79 fun v80 =>
 condS v80 (
 some (.ret (iv 8), s_2)) (
 bn Qn .eql v7 (iv 3) fun v82 =>
 iT v82 fun w_43 =>
 iT v82 fun w_44 =>
 gG w_44 w_43 Q1 3 c1 fun v85 =>
 iT v82 fun w_45 =>
 cg w_45 Q2b [v85] s_2 fun v86 s_3 =>
 iT v82 fun w_46 =>
 gN w_46 v86 fun v87 =>
 pk v82 v87 (bv false) fun v88 =>
 condS v88 (
 some (.ret (iv 2), s_3)) (
 bn Qn .eql v7 (iv 4) fun v90 =>
 iT v90 fun w_47 =>
 iT v90 fun w_48 =>
 gG w_48 w_47 Qs 4 c1 fun v93 =>
 iT v90 fun w_49 =>
 gL w_49 Qs v93 fun v94 =>
 iT v90 fun w_50 =>
 gB w_50 Q1 .gtr v94 (iv 1) fun v95 =>
 pk v90 v95 (bv false) fun v96 =>
 iF v96 fun w_51 =>
 iF v96 fun w_52 =>
 gB w_52 Qn .eql (gdV w_51 v7) (iv 5) fun v99 =>
 iF v96 fun w_53 =>
 bindB (Slot.isB (gdV w_53 v99) true) fun w_54 =>
 bindB (Slot.isB (gdV w_53 v99) true) fun w_55 =>
 gG w_55 w_54 Qs 4 c1 fun v102 =>
 bindB (Slot.isB (gdV w_53 v99) true) fun w_56 =>
 gL w_56 Qs v102 fun v103 =>
 bindB (Slot.isB (gdV w_53 v99) true) fun w_57 =>
 cg w_57 Q07 [v103, (iv 2), (iv 8)] s_3 fun v104 s_4 =>
 bindB (Slot.isB (gdV w_53 v99) true) fun w_58 =>
 gN w_58 v104 fun v105 =>
 iF v96 fun w_59 =>
 bind1 (gd w_59 (pickS (gdV w_53 v99) v105 (bv false))) fun v106 =>
 pk v96 (bv true) v106 fun v107 =>
 iF v107 fun w_60 =>
 iF v107 fun w_61 =>
 gB w_61 Qn .eql (gdV w_60 v7) (iv 6) fun v110 =>
 iF v107 fun w_62 =>
 bindB (Slot.isB (gdV w_62 v110) true) fun w_63 =>
 bindB (Slot.isB (gdV w_62 v110) true) fun w_64 =>
 gG w_64 w_63 Qs 4 c1 fun v113 =>
 bindB (Slot.isB (gdV w_62 v110) true) fun w_65 =>
 gL w_65 Qs v113 fun v114 =>
 bindB (Slot.isB (gdV w_62 v110) true) fun w_66 =>
 gB w_66 Q1 .neq v114 (iv 1) fun v115 =>
 iF v107 fun w_67 =>
 bind1 (gd w_67 (pickS (gdV w_62 v110) v115 (bv false))) fun v116 =>
 pk v107 (bv true) v116 fun v117 =>
 condS v117 (
 some (.ret (iv 19), s_4)) (
 some (.ret (iv 0), s_4)))))) := (Q5 _ _ _).trans (by kernel_rfl)
theorem QeX (a0 : AV) (s : St) : cw (.f Q65) [a0] s =
 bx Q4 (.val a0) fun c1 =>
 gC Qk 0 c1 fun v6 =>
 bn Qk .eql v6 (iv 1) fun v7 =>
 condS v7 (
 gC Q2 2 c1 fun v9 =>
 bn Q2 .neq v9 (sv []) fun v10 =>
 iF v10 fun w =>
 iF v10 fun w_1 =>
 gG w_1 w Qd 3 c1 fun v13 =>
 iF v10 fun w_2 =>
 gL w_2 Qd v13 fun v14 =>
 iF v10 fun w_3 =>
 gB w_3 Q1 .gtr v14 (iv 0) fun v15 =>
 pk v10 (bv true) v15 fun v16 =>
 condS v16 (
 some (.ret (iv 29), s)) (
 gC Q1 1 c1 fun v18 =>
 bn Q1 .lss v18 (iv 0) fun v19 =>
 condS v19 (
 some (.ret (iv 2), s)) (
 some (.ret (iv 0), s)))) (
 gC Qk 0 c1 fun v21 =>
 bn Qk .neq v21 (iv 2) fun v22 =>
 iF v22 fun w_4 =>
 iF v22 fun w_5 =>
 gG w_5 w_4 Q1 1 c1 fun v25 =>
 iF v22 fun w_6 =>
 gB w_6 Q1 .neq v25 (iv 0) fun v26 =>
 pk v22 (bv true) v26 fun v27 =>
 condS v27 (
 some (.ret (iv 29), s)) (
 gC Q2 2 c1 fun v29 =>
 bn Q2 .neq v29 (sv [114, 101, 102]) fun v30 =>
 iT v30 fun w_7 =>
 iT v30 fun w_8 =>
 gG w_8 w_7 Q2 2 c1 fun v33 =>
 iT v30 fun w_9 =>
 gB w_9 Q2 .neq v33 (sv [45, 62]) fun v34 =>
 pk v30 v34 (bv false) fun v35 =>
 iT v35 fun w_10 =>
 iT v35 fun w_11 =>
 gG w_11 w_10 Q2 2 c1 fun v38 =>
 iT v35 fun w_12 =>
 gB w_12 Q2 .neq v38 (sv [42]) fun v39 =>
 pk v35 v39 (bv false) fun v40 =>
 iT v40 fun w_13 =>
 iT v40 fun w_14 =>
 gG w_14 w_13 Q2 2 c1 fun v43 =>
 iT v40 fun w_15 =>
 cg w_15 Q0l [v43] s fun v44 s_1 =>
 iT v40 fun w_16 =>
 gN w_16 v44 fun v45 =>
 pk v40 v45 (bv false) fun v46 =>
 condS v46 (
 some (.ret (iv 8), s_1)) (
 gC Q2 2 c1 fun v49 =>
 ca Q2t [v49] s_1 fun v50 s_2 =>
 ex v50 0 fun v51 =>
 ex v50 1 fun v52 =>
 gC Qd 3 c1 fun v54 =>
 ln Qd v54 fun v55 =>
 ca Q07 [v55, v51, v52] s_2 fun v58 s_3 =>
 nt v58 fun v59 =>
 condS v59 (
 some (.ret (iv 19), s_3)) (
 some (.ret (iv 0), s_3))))) := (Q5 _ _ _).trans (by kernel_rfl)
theorem Qe7 (a0 : AV) (s : St) : cw (.f Q0l) [a0] s =
 ca Q0A [(.val a0), (bv false)] s fun v4 s_1 =>
 iT v4 fun w =>
 iT v4 fun w_1 =>
 gB w_1 Q2 .neq (gdV w (.val a0)) (sv [95]) fun v7 =>
 pk v4 v7 (bv false) fun v8 =>
 iT v8 fun w_2 =>
 iT v8 fun w_3 =>
 gB w_3 Q2 .neq (gdV w_2 (.val a0)) (sv [116, 114, 117, 101]) fun v11 =>
 pk v8 v11 (bv false) fun v12 =>
 iT v12 fun w_4 =>
 iT v12 fun w_5 =>
 gB w_5 Q2 .neq (gdV w_4 (.val a0)) (sv [102, 97, 108, 115, 101]) fun v15 =>
 pk v12 v15 (bv false) fun v16 =>
 iT v16 fun w_6 =>
 iT v16 fun w_7 =>
 cg w_7 Q3I [] s_1 fun v19 s_2 =>
 iT v16 fun w_8 =>
 cg w_8 Q29 [(gdV w_6 (.val a0)), v19] s_2 fun v20 s_3 =>
 iT v16 fun w_9 =>
 gN w_9 v20 fun v21 =>
 pk v16 v21 (bv false) fun v22 =>
 some (.ret v22, s_3) := (Q5 _ _ _).trans (by kernel_rfl)
theorem QaA (a0 : AV) (s : St) : cw (.f Q39) [a0] s =
 bx Q4 (.val a0) fun c1 =>
 gC Qk 0 c1 fun v4 =>
 bn Qk .eql v4 (iv 0) fun v5 =>
 iT v5 fun w =>
 iT v5 fun w_1 =>
 gG w_1 w Q1 1 c1 fun v8 =>
 iT v5 fun w_2 =>
 gB w_2 Q1 .eql v8 (iv 0) fun v9 =>
 pk v5 v9 (bv false) fun v10 =>
 iT v10 fun w_3 =>
 iT v10 fun w_4 =>
 gG w_4 w_3 Q2 2 c1 fun v13 =>
 iT v10 fun w_5 =>
 gB w_5 Q2 .eql v13 (sv []) fun v14 =>
 pk v10 v14 (bv false) fun v15 =>
 iT v15 fun w_6 =>
 iT v15 fun w_7 =>
 gG w_7 w_6 Qd 3 c1 fun v18 =>
 iT v15 fun w_8 =>
 gL w_8 Qd v18 fun v19 =>
 iT v15 fun w_9 =>
 gB w_9 Q1 .eql v19 (iv 0) fun v20 =>
 pk v15 v20 (bv false) fun v21 =>
 some (.ret v21, s) := (Q5 _ _ _).trans (by kernel_rfl)
theorem Q9d (a0 : AV) (s : St) : cw (.f Q1s) [a0] s =
 ca Q0A [(.val a0), (bv true)] s fun v4 s_1 =>
 some (.ret v4, s_1) := (Q5 _ _ _).trans (by kernel_rfl)
theorem Qat (a0 : AV) (s : St) : cw (.f Q0w) [a0] s =
 bx QI (.val a0) fun c1 =>
 gC QM 0 c1 fun v4 =>
 cn ZZ [v4] s fun v5 s_1 =>
 gC QL 5 c1 fun v7 =>
 cn Zy [v7] s_1 fun v8 s_2 =>
 ap Qa s_2 v5 v8 fun v9 s_3 =>
 some (.ret v9, s_3) := (Q5 _ _ _).trans (by kernel_rfl)
noncomputable def Q3N (x3 : Slot) (x5 : Slot) : Am.Obj := .loop .ready none Q2v [(3, .s x3), (5, .s x5)] [8] (rngAsg (codeAt [.seqR, .seqR, .seqL, .seqR, .block] (body Tryz.f74))) (rngBody (codeAt [.seqR, .seqR, .seqL, .seqR, .block] (body Tryz.f74)))
theorem Q9p (x3 : Slot) (x5 : Slot) (y8 : AV) (loc : Nat) (s_2 : St) : yldR C (Q3N x3 x5) loc [y8] s_2 = noPan (
 bx QJ (.val y8) fun c_1 =>
 pZ QJ c_1 fun c6 =>
 bindS (beginL loc s_2) fun s_3 =>
 gA QJ c6 fun v9 =>
 ca Q1Q [v9] s_3 fun v10 s_4 =>
 condS v10 (
 ld Q1 s_4 x5 fun v11 =>
 nx v11 fun v12 =>
 bx Q1 v12 fun c_2 =>
 sto s_4 x5 c_2 fun s_5 =>
 ld Q1 s_5 x5 fun v13 =>
 ld Q1 s_5 x3 fun v14 =>
 bn Q1 .geq v13 v14 fun v15 =>
 condS v15 (
 bindS (setLoop loc .done (some (.exit 0)) s_5) fun s_6 =>
 some (.ret (bv false), s_6)) (
 bindS (setLoop loc .ready none s_5) fun s_7 =>
 some (.ret (bv true), s_7))) (
 ld Q1 s_4 x5 fun v13_1 =>
 ld Q1 s_4 x3 fun v14_1 =>
 bn Q1 .geq v13_1 v14_1 fun v15_1 =>
 condS v15_1 (
 bindS (setLoop loc .done (some (.exit 0)) s_4) fun s_8 =>
 some (.ret (bv false), s_8)) (
 bindS (setLoop loc .ready none s_4) fun s_9 =>
 some (.ret (bv true), s_9)))) := by kernel_rfl
theorem Qd1 (a0 : AV) (a1 : AV) (s : St) : cw (.f Q2v) [a0, a1] s =
 bx Q1 (.val a1) fun c3 =>
 bindA (avs c3) fun l3 =>
 bx Q1 (iv 0) fun c =>
 sto (St.addLoc s (.var (List.map .val (C.ti Q1).zero))) (.val (.vp s.locs.length 0)) c fun s_1 =>
 rangeC C cw (.val a0) s_1.locs.length (St.addLoc s_1 (Q3N (.val (.cp l3)) (.val (.vp s.locs.length 0)))) fun s_10 =>
 endX s_1.locs.length s_10 (fun s_11 =>
 ld Q1 s_11 (.val (.vp s.locs.length 0)) fun v16 =>
 some (.ret v16, s_11)) (fun s_12 =>
 some (.ret (iv 0), s_12)) (fun j s_13 =>
 bif Nat.beq j 0 then (
 ld Q1 s_13 (.val (.vp s.locs.length 0)) fun v16_1 =>
 some (.ret v16_1, s_13)) else (
(none : Res))) := (Q5 _ _ _).trans (by kernel_rfl)
noncomputable def Qx : List Slot → List Slot → Slot → Slot → St → Res := fun x1 x2 x3 x4 s => pwD Q09 [.seqR, .seqR, .seqR, .seqR] Tryz.f75 [(1, .var x1), (2, .var x2), (3, .s x3), (4, .s x4)] s
theorem Q5I : ∀ x1 x2 x3 x4 s_2, Qx x1 x2 x3 x4 s_2 =
 bn Qq .eql x3 (iv 0) fun v82 =>
 condS v82 (
 bd Q7 [] fun v83 =>
 bx Q7 v83 fun c =>
 pt x2 0 c fun c2 =>
 gA Q7 c2 fun v => some (.ret v, s_2)) (
 bn Qq .neq x3 (iv 8) fun v86 =>
 condS v86 (
 gC Q1 7 x1 fun v89 =>
 bd Q7 [(0, Qq, x3), (1, Q1, v89), (2, Q2, (sv []))] fun v91 =>
 bx Q7 v91 fun c_1 =>
 pt x2 0 c_1 fun c2_1 =>
 gA Q7 c2_1 fun v => some (.ret v, s_2)) (
 gC Q1 7 x1 fun v89_1 =>
 bd Q7 [(0, Qq, x3), (1, Q1, v89_1), (2, Q2, x4)] fun v91_1 =>
 bx Q7 v91_1 fun c_2 =>
 pt x2 0 c_2 fun c2_2 =>
 gA Q7 c2_2 fun v => some (.ret v, s_2))) := by intros; unfold Qx; exact (Q0t _).trans (by kernel_rfl)
theorem Q6W (a0 : AV) (s : St) : cw (.f Q09) [a0] s =
 bx QJ (.val a0) fun c1 =>
 gC Q1h 0 c1 fun v17 =>
 bn Q1h .neq v17 (.val (.nilp)) fun v18 =>
 condS v18 (
 gA QJ c1 fun v19 =>
 cn Zs [v19] s fun v20 s_1 =>
 gC Q1h 0 c1 fun v22 =>
 bind1 (nilCheckV v22) fun v23 =>
 fa 2 v23 fun v24 =>
 bind1 (ldV (C.ti Q2) true s_1 v24) fun v25 =>
 Qx c1 ((List.map .val (C.ti Q7).zero)) v20 v25 s_1) (
 gC Q0D 2 c1 fun v28 =>
 bn Q0D .neq v28 (.val (.nilp)) fun v29 =>
 condS v29 (
 gC Q0D 2 c1 fun v31 =>
 bind1 (nilCheckV v31) fun v32 =>
 fa 0 v32 fun v33 =>
 ld Q2 s v33 fun v34 =>
 ca Q0Z [v34] s fun v36 s_3 =>
 nt v36 fun v37 =>
 condS v37 (
 Qx c1 ((List.map .val (C.ti Q7).zero)) (iv 8) v34 s_3) (
 Qx c1 ((List.map .val (C.ti Q7).zero)) (iv 0) v34 s_3)) (
 gC Q01 3 c1 fun v40 =>
 bn Q01 .neq v40 (.val (.nilp)) fun v41 =>
 condS v41 (
 gC Q01 3 c1 fun v43 =>
 bind1 (nilCheckV v43) fun v44 =>
 bind1 (ldV (C.ti Qi) true s v44) fun v45 =>
 cn Q2B [v45] s fun v46 s_4 =>
 gC Q01 3 c1 fun v48 =>
 bind1 (nilCheckV v48) fun v49 =>
 fa 0 v49 fun v50 =>
 bind1 (ldV (C.ti Q2) true s_4 v50) fun v51 =>
 Qx c1 ((List.map .val (C.ti Q7).zero)) v46 v51 s_4) (
 gC Q1i 4 c1 fun v54 =>
 bn Q1i .neq v54 (.val (.nilp)) fun v55 =>
 condS v55 (
 gC Q1i 4 c1 fun v57 =>
 bind1 (nilCheckV v57) fun v58 =>
 bind1 (ldV (C.ti QL) true s v58) fun v59 =>
 cn Q2C [v59] s fun v60 s_5 =>
 gC Q1i 4 c1 fun v62 =>
 bind1 (nilCheckV v62) fun v63 =>
 fa 2 v63 fun v64 =>
 bind1 (ldV (C.ti Q2) true s_5 v64) fun v65 =>
 Qx c1 ((List.map .val (C.ti Q7).zero)) v60 v65 s_5) (
 gC Q1j 5 c1 fun v68 =>
 bn Q1j .neq v68 (.val (.nilp)) fun v69 =>
 condS v69 (
 gC Q1j 5 c1 fun v71 =>
 bind1 (nilCheckV v71) fun v72 =>
 bind1 (ldV (C.ti QM) true s v72) fun v73 =>
 cn Q1t [v73] s fun v74 s_6 =>
 gC Q1j 5 c1 fun v76 =>
 bind1 (nilCheckV v76) fun v77 =>
 fa 2 v77 fun v78 =>
 bind1 (ldV (C.ti Q2) true s_6 v78) fun v79 =>
 Qx c1 ((List.map .val (C.ti Q7).zero)) v74 v79 s_6) (
 gC Q3q 6 c1 fun v6 =>
 bind1 (nilCheckV v6) fun v7 =>
 bind1 (ldV (C.ti Q4) true s v7) fun v8 =>
 cn Q0C [v8] s fun v9 s_7 =>
 gC Q3q 6 c1 fun v11 =>
 bind1 (nilCheckV v11) fun v12 =>
 fa 2 v12 fun v13 =>
 bind1 (ldV (C.ti Q2) true s_7 v13) fun v14 =>
 Qx c1 ((List.map .val (C.ti Q7).zero)) v9 v14 s_7))))) := (Q5 _ _ _).trans (by kernel_rfl)
theorem Q89 (a0 : AV) (a1 : AV) (s : St) : cw (.f Q2f) [a0, a1] s =
 bd Qt [(0, Qm, (.val a0))] fun v4 =>
 ld Qo s (.val a1) fun v5 =>
 ca QP [v4, v5, (bv false)] s fun v6 s_1 =>
 rt [] s_1 := (Q5 _ _ _).trans (by kernel_rfl)
noncomputable def Zg : Slot → Slot → List Slot → Slot → Slot → Slot → Slot → Slot → St → Res := fun x1_2 x2_2 x3_2 x8_1 x14_2 x15_2 x80 x81 s => lpD QP [.seqR, .seqL, .seqR, .block, .loop, .seqR, .seqR, .seqL, .block, .seqR, .seqR, .seqR, .seqR, .seqR, .block] Tryz.f77 [(1, .s x1_2), (2, .s x2_2), (3, .var x3_2), (8, .s x8_1), (14, .s x14_2), (15, .s x15_2), (80, .s x80), (81, .s x81)] s
noncomputable def Zf : Slot → Slot → List Slot → Slot → Slot → Slot → Slot → Slot → St → Res := fun x1_1 x2_1 x3_1 x8 x14_1 x15_1 x45 x46 s => lpD QP [.seqR, .seqL, .seqR, .block, .loop, .seqR, .seqR, .seqL, .block, .seqR, .seqR, .seqR, .seqL, .seqR, .block] Tryz.f77 [(1, .s x1_1), (2, .s x2_1), (3, .var x3_1), (8, .s x8), (14, .s x14_1), (15, .s x15_1), (45, .s x45), (46, .s x46)] s
noncomputable def QO : Slot → Slot → List Slot → Slot → Slot → St → Res := fun x1 x2 x3 x14 x15 s => lpD QP [.seqR, .seqL, .seqR, .block] Tryz.f77 [(1, .s x1), (2, .s x2), (3, .var x3), (14, .s x14), (15, .s x15)] s
theorem Q24 : ∀ x1_2 x2_2 x3_2 x8_1 x14_2 x15_2 x80 x81 s_7, Zg x1_2 x2_2 x3_2 x8_1 x14_2 x15_2 x80 x81 s_7 =
 bn Q1 .lss x81 x80 fun v82 =>
 condS v82 (
 bind1 (nilCheckV x8_1) fun v85 =>
 fa 4 v85 fun v86 =>
 ld Qj s_7 v86 fun v87 =>
 ix Qi v87 x81 fun v89 =>
 gC Qm 0 x3_2 fun v91 =>
 bind1 (nilCheckV v89) fun v94 =>
 fa 1 v94 fun v95 =>
 ld Q1 s_7 v95 fun v96 =>
 bd QJ [(3, Q01, v89), (7, Q1, v96)] fun v97 =>
 back (noPan (cal cw true (tgtV v91 [v97]) s_7)) fun v98 s_8 =>
 nt v98 fun v99 =>
 iF v99 fun w_15 =>
 iF v99 fun w_16 =>
 bind1 (gd w_16 (nilCheckV (gdV w_15 v89))) fun v102 =>
 iF v99 fun w_17 =>
 bind1 (gd w_17 (faV 2 v102)) fun v103 =>
 iF v99 fun w_18 =>
 bind1 (gd w_18 (ldV (C.ti Qh) false s_8 v103)) fun v104 =>
 iF v99 fun w_19 =>
 bindB (Slot.isB (gdV w_19 v104) true) fun w_20 =>
 bind1 (gd w_20 (ofSlots (C.ti Qt) (List.take (C.ti Qt).size x3_2))) fun v106 =>
 bindB (Slot.isB (gdV w_19 v104) true) fun w_21 =>
 bindB (Slot.isB (gdV w_19 v104) true) fun w_22 =>
 bind1 (gd w_22 (nilCheckV (gdV w_21 v89))) fun v108 =>
 bindB (Slot.isB (gdV w_19 v104) true) fun w_23 =>
 bind1 (gd w_23 (faV 3 v108)) fun v109 =>
 bindB (Slot.isB (gdV w_19 v104) true) fun w_24 =>
 bindB (Slot.isB (gdV w_19 v104) true) fun w_25 =>
 bind1 (gd w_25 (nilCheckV (gdV w_24 v89))) fun v111 =>
 bindB (Slot.isB (gdV w_19 v104) true) fun w_26 =>
 bind1 (gd w_26 (faV 1 v111)) fun v112 =>
 bindB (Slot.isB (gdV w_19 v104) true) fun w_27 =>
 bind1 (gd w_27 (ldV (C.ti Q1) false s_8 v112)) fun v113 =>
 bindB (Slot.isB (gdV w_19 v104) true) fun w_28 =>
 back (noPan (cal cw w_28 (tgtV (.val (.fn QZ [])) [v106, v109, v113]) s_8)) fun v114 s_9 =>
 bindB (Slot.isB (gdV w_19 v104) true) fun w_29 =>
 gN w_29 v114 fun v115 =>
 iF v99 fun w_30 =>
 bind1 (gd w_30 (pickS (gdV w_19 v104) v115 (bv false))) fun v116 =>
 pk v99 (bv true) v116 fun v117 =>
 condS v117 (
 some (.ret (bv false), s_9)) (
 nx x81 fun v118 =>
 Zg x1_2 x2_2 x3_2 x8_1 x14_2 x15_2 x80 v118 s_9)) (
 nx x15_2 fun v119 =>
 QO x1_2 x2_2 x3_2 x14_2 v119 s_7) := by intros; unfold Zg; exact (Qb _ _ _ _ _ _).trans (by kernel_rfl)
theorem Q23 : ∀ x1_1 x2_1 x3_1 x8 x14_1 x15_1 x45 x46 s_4, Zf x1_1 x2_1 x3_1 x8 x14_1 x15_1 x45 x46 s_4 =
 bn Q1 .lss x46 x45 fun v47 =>
 condS v47 (
 bind1 (nilCheckV x8) fun v50 =>
 fa 6 v50 fun v51 =>
 ld QE s_4 v51 fun v52 =>
 ix ZD v52 x46 fun v54 =>
 gC Qm 0 x3_1 fun v56 =>
 bind1 (nilCheckV v54) fun v59 =>
 fa 1 v59 fun v60 =>
 ld Q1 s_4 v60 fun v61 =>
 bd QJ [(2, Q0D, v54), (7, Q1, v61)] fun v62 =>
 back (noPan (cal cw true (tgtV v56 [v62]) s_4)) fun v63 s_5 =>
 nt v63 fun v64 =>
 iF v64 fun w_7 =>
 bind1 (gd w_7 (ofSlots (C.ti Qt) (List.take (C.ti Qt).size x3_1))) fun v66 =>
 iF v64 fun w_8 =>
 iF v64 fun w_9 =>
 bind1 (gd w_9 (nilCheckV (gdV w_8 v54))) fun v68 =>
 iF v64 fun w_10 =>
 bind1 (gd w_10 (faV 2 v68)) fun v69 =>
 iF v64 fun w_11 =>
 bind1 (gd w_11 (ldV (C.ti QI) false s_5 v69)) fun v70 =>
 iF v64 fun w_12 =>
 bind1 (gd w_12 (bslF (C.ti QI).size [v70])) fun v71 =>
 iF v64 fun w_13 =>
 back (noPan (cal cw w_13 (tgtV (.val (.fn QY [])) [v66, v71]) s_5)) fun v72 s_6 =>
 iF v64 fun w_14 =>
 gN w_14 v72 fun v73 =>
 pk v64 (bv true) v73 fun v74 =>
 condS v74 (
 some (.ret (bv false), s_6)) (
 nx x46 fun v75 =>
 Zf x1_1 x2_1 x3_1 x8 x14_1 x15_1 x45 v75 s_6)) (
 bind1 (nilCheckV x8) fun v77 =>
 fa 4 v77 fun v78 =>
 ld Qj s_4 v78 fun v79 =>
 ln Qj v79 fun v80 =>
 Zg x1_1 x2_1 x3_1 x8 x14_1 x15_1 v80 (iv 0) s_4) := by intros; unfold Zf; exact (Qb _ _ _ _ _ _).trans (by kernel_rfl)
theorem Q22 : ∀ x1 x2 x3 x14 x15 s_1, QO x1 x2 x3 x14 x15 s_1 =
 bn Q1 .lss x15 x14 fun v16 =>
 condS v16 (
 ix Qc x1 x15 fun v20 =>
 gC Qm 0 x3 fun v22 =>
 bind1 (nilCheckV v20) fun v26 =>
 fa 1 v26 fun v27 =>
 ld Q1 s_1 v27 fun v28 =>
 bd QJ [(0, Q1h, v20), (1, Qh, x2), (7, Q1, v28)] fun v29 =>
 back (noPan (cal cw true (tgtV v22 [v29]) s_1)) fun v30 s_2 =>
 nt v30 fun v31 =>
 iF v31 fun w =>
 bind1 (gd w (ofSlots (C.ti Qt) (List.take (C.ti Qt).size x3))) fun v33 =>
 iF v31 fun w_1 =>
 iF v31 fun w_2 =>
 bind1 (gd w_2 (nilCheckV (gdV w_1 v20))) fun v35 =>
 iF v31 fun w_3 =>
 bind1 (gd w_3 (faV 5 v35)) fun v36 =>
 iF v31 fun w_4 =>
 bind1 (gd w_4 (ldV (C.ti Qg) false s_2 v36)) fun v37 =>
 iF v31 fun w_5 =>
 back (noPan (cal cw w_5 (tgtV (.val (.fn QY [])) [v33, v37]) s_2)) fun v38 s_3 =>
 iF v31 fun w_6 =>
 gN w_6 v38 fun v39 =>
 pk v31 (bv true) v39 fun v40 =>
 condS v40 (
 some (.ret (bv false), s_3)) (
 bind1 (nilCheckV v20) fun v42 =>
 fa 6 v42 fun v43 =>
 ld QE s_3 v43 fun v44 =>
 ln QE v44 fun v45 =>
 Zf x1 x2 x3 v20 x14 x15 v45 (iv 0) s_3)) (
 some (.ret (bv true), s_1)) := by intros; unfold QO; exact (Qb _ _ _ _ _ _).trans (by kernel_rfl)
theorem Q36 (a0 : AV) (a1 : AV) (a2 : AV) (s : St) : cw (.f QP) [a0, a1, a2] s =
 bx Qt (.val a0) fun c3 =>
 ln Qo (.val a1) fun v14 =>
 QO (.val a1) (.val a2) c3 v14 (iv 0) s := (Q5 _ _ _).trans (by kernel_rfl)
noncomputable def ZB : Slot → Slot → Slot → Slot → St → Res := fun x3 x6 x7 x8 s => lpD Z3 [.seqR, .seqR, .seqL, .seqR, .block] Tryz.f78 [(3, .s x3), (6, .s x6), (7, .s x7), (8, .s x8)] s
theorem Q2S : ∀ x3 x6 x7 x8 s_1, ZB x3 x6 x7 x8 s_1 =
 bn Q1 .lss x8 x7 fun v9 =>
 condS v9 (
 ix QI x6 x8 fun v10 =>
 ld QI s_1 v10 fun v11 =>
 bx QI v11 fun c =>
 pZ QI c fun c5 =>
 gC QM 0 c5 fun v14 =>
 cn ZM [v14] s_1 fun v15 s_2 =>
 gC QL 5 c5 fun v17 =>
 cn Q0B [v17] s_2 fun v18 s_3 =>
 bind1 (max3 x3 v15 v18) fun v19 =>
 nx x8 fun v20 =>
 ZB v19 x6 x7 v20 s_3) (
 some (.ret x3, s_1)) := by intros; unfold ZB; exact (Qb _ _ _ _ _ _).trans (by kernel_rfl)
theorem Q46 (a0 : AV) (s : St) : cw (.f Z3) [a0] s =
 ln Qg (.val a0) fun v7 =>
 ZB (iv 0) (.val a0) v7 (iv 0) s := (Q5 _ _ _).trans (by kernel_rfl)
noncomputable def Q0U : Slot → Slot → Slot → Slot → St → Res := fun x3 x7 x8 x9 s => lpD Q00 [.seqR, .seqR, .seqL, .seqR, .block] Tryz.f79 [(3, .s x3), (7, .s x7), (8, .s x8), (9, .s x9)] s
theorem Q4a : ∀ x3 x7 x8 x9 s_1, Q0U x3 x7 x8 x9 s_1 =
 bn Q1 .lss x9 x8 fun v10 =>
 condS v10 (
 ix Q4 x7 x9 fun v11 =>
 ld Q4 s_1 v11 fun v12 =>
 bx Q4 v12 fun c =>
 pZ Q4 c fun c5 =>
 gA Q4 c5 fun v14 =>
 ca Q00 [v14] s_1 fun v15 s_2 =>
 bind1 (max2 x3 v15) fun v16 =>
 nx x9 fun v17 =>
 Q0U v16 x7 x8 v17 s_2) (
 nx x3 fun v19 =>
 some (.ret v19, s_1)) := by intros; unfold Q0U; exact (Qb _ _ _ _ _ _).trans (by kernel_rfl)
theorem QbD (a0 : AV) (s : St) : cw (.f Q00) [a0] s =
 bx Q4 (.val a0) fun c1 =>
 gC Qd 3 c1 fun v7 =>
 ln Qd v7 fun v8 =>
 Q0U (iv 0) v7 v8 (iv 0) s := (Q5 _ _ _).trans (by kernel_rfl)
noncomputable def Qy : Slot → Slot → Slot → Slot → Slot → St → Res := fun x1 x2 x15 x16 x17 s => lpD QK [.seqR, .seqR, .seqL, .seqR, .block] Tryz.f80 [(1, .s x1), (2, .s x2), (15, .s x15), (16, .s x16), (17, .s x17)] s
theorem Zr : ∀ x1 x2 x15 x16 x17 s_1, Qy x1 x2 x15 x16 x17 s_1 =
 bn Q1 .lss x17 x16 fun v18 =>
 condS v18 (
 ix Q4 x15 x17 fun v20 =>
 ld Q4 s_1 v20 fun v21 =>
 bx Q4 v21 fun c =>
 pZ Q4 c fun c8 =>
 ix Q4 x1 x17 fun v24 =>
 ld Q4 s_1 v24 fun v25 =>
 bx Q4 v25 fun c_1 =>
 pZ Q4 c_1 fun c9 =>
 gA Q4 c8 fun v27 =>
 gA Q4 c9 fun v28 =>
 back (cal cw true (tgtV x2 [v27, v28]) s_1) fun v29 s_2 =>
 nt v29 fun v30 =>
 condS v30 (
 some (.ret (bv false), s_2)) (
 nx x17 fun v31 =>
 Qy x1 x2 x15 x16 v31 s_2)) (
 some (.ret (bv true), s_1)) := by intros; unfold Qy; exact (Qb _ _ _ _ _ _).trans (by kernel_rfl)
theorem Q20 (a0 : AV) (a1 : AV) (a2 : AV) (s : St) : cw (.f QK) [a0, a1, a2] s =
 ln Qd (.val a0) fun v11 =>
 ln Qd (.val a1) fun v13 =>
 bn Q1 .neq v11 v13 fun v14 =>
 condS v14 (
 some (.ret (bv false), s)) (
 ln Qd (.val a0) fun v16 =>
 Qy (.val a1) (.val a2) (.val a0) v16 (iv 0) s) := (Q5 _ _ _).trans (by kernel_rfl)
theorem QeW (a0 : AV) (a1 : AV) (a2 : AV) (s : St) : cw (.f Q07) [a0, a1, a2] s =
 bn Q1 .geq (.val a0) (.val a1) fun v9 =>
 iT v9 fun w =>
 iT v9 fun w_1 =>
 iT v9 fun w_2 =>
 gB w_2 Q1 .leq (gdV w (.val a0)) (gdV w_1 (.val a2)) fun v13 =>
 pk v9 v13 (bv false) fun v14 =>
 some (.ret v14, s) := (Q5 _ _ _).trans (by kernel_rfl)
noncomputable def ZA : Slot → Slot → St → Res := fun x5_1 x18 s => pw (run C false Q0z (codeAt [.seqR, .seqL, .seqR, .block, .seqR, .els, .seqR, .els, .seqR, .els, .seqR] (body Tryz.f82)) [(5, .s x5_1), (18, .s x18)] s (ctxR C false Q0z [.seqR, .seqL, .seqR, .block, .seqR, .els, .seqR, .els, .seqR, .els, .seqR] (body Tryz.f82) (outK C (Tryz.f82).results.toList)))
noncomputable def Z2 : Slot → Slot → St → Res := fun x5 x10 s => pw (run C false Q0z (codeAt [.seqR, .seqL, .seqR, .block, .seqR, .els, .seqR, .els, .seqR] (body Tryz.f82)) [(5, .s x5), (10, .s x10)] s (ctxR C false Q0z [.seqR, .seqL, .seqR, .block, .seqR, .els, .seqR, .els, .seqR] (body Tryz.f82) (outK C (Tryz.f82).results.toList)))
theorem Q9n (x5_1 : Slot) (x18 : Slot) (s_2 : St) : ZA x5_1 x18 s_2 =
 condS x18 (
 bind1 (tupS [(some (.val (.int .i64 2))), (some (.val (.int .i64 2))), (some (.val (.bool true)))]) fun v => some (.ret v, s_2)) (
 bind1 (binS (C.ti Q3) .eql x5_1 (.val (.int .i64 8))) fun v25 =>
 condS v25 (
 bind1 (tupS [(some (.val (.int .i64 3))), (some (.val (.int .i64 3))), (some (.val (.bool true)))]) fun v => some (.ret v, s_2)) (
 bind1 (binS (C.ti Q3) .eql x5_1 (.val (.int .i64 10))) fun v27 =>
 condS v27 (
 bind1 (tupS [(some (.val (.int .i64 2))), (some (.val (.int .i64 1099511627776))), (some (.val (.bool true)))]) fun v => some (.ret v, s_2)) (
 bind1 (tupS [(some (.val (.int .i64 0))), (some (.val (.int .i64 0))), (some (.val (.bool false)))]) fun v => some (.ret v, s_2)))) := by unfold ZA; exact (Q0t _).trans (by kernel_rfl)
theorem Q9m (x5 : Slot) (x10 : Slot) (s_1 : St) : Z2 x5 x10 s_1 =
 condS x10 (
 bind1 (tupS [(some (.val (.int .i64 1))), (some (.val (.int .i64 1))), (some (.val (.bool true)))]) fun v => some (.ret v, s_1)) (
 bind1 (binS (C.ti Q3) .eql x5 (.val (.int .i64 6))) fun v19 =>
 condS v19 (
 ZA (x5) (v19) s_1) (
 bind1 (binS (C.ti Q3) .eql x5 (.val (.int .i64 13))) fun v20 =>
 condS v20 (
 ZA (x5) (v20) s_1) (
 bind1 (binS (C.ti Q3) .eql x5 (.val (.int .i64 14))) fun v21 =>
 condS v21 (
 ZA (x5) (v21) s_1) (
 bind1 (binS (C.ti Q3) .eql x5 (.val (.int .i64 15))) fun v22 =>
 condS v22 (
 ZA (x5) (v22) s_1) (
 bind1 (binS (C.ti Q3) .eql x5 (.val (.int .i64 18))) fun v23 =>
 ZA (x5) (v23) s_1))))) := by unfold Z2; exact (Q0t _).trans (by kernel_rfl)
theorem QcU (a0 : AV) (s : St) : cw (.f Q0z) [a0] s =
 bind1 (binS (C.ti Q3) .eql (.val a0) (.val (.int .i64 3))) fun v7 =>
 condS v7 (
 bind1 (tupS [(some (.val (.int .i64 0))), (some (.val (.int .i64 1))), (some (.val (.bool true)))]) fun v => some (.ret v, s)) (
 bind1 (binS (C.ti Q3) .eql (.val a0) (.val (.int .i64 4))) fun v9 =>
 condS v9 (
 bind1 (tupS [(some (.val (.int .i64 2))), (some (.val (.int .i64 8))), (some (.val (.bool true)))]) fun v => some (.ret v, s)) (
 bind1 (binS (C.ti Q3) .eql (.val a0) (.val (.int .i64 7))) fun v11 =>
 condS v11 (
 Z2 ((.val a0)) (v11) s) (
 bind1 (binS (C.ti Q3) .eql (.val a0) (.val (.int .i64 9))) fun v12 =>
 condS v12 (
 Z2 ((.val a0)) (v12) s) (
 bind1 (binS (C.ti Q3) .eql (.val a0) (.val (.int .i64 11))) fun v13 =>
 condS v13 (
 Z2 ((.val a0)) (v13) s) (
 bind1 (binS (C.ti Q3) .eql (.val a0) (.val (.int .i64 12))) fun v14 =>
 condS v14 (
 Z2 ((.val a0)) (v14) s) (
 bind1 (binS (C.ti Q3) .eql (.val a0) (.val (.int .i64 16))) fun v15 =>
 condS v15 (
 Z2 ((.val a0)) (v15) s) (
 bind1 (binS (C.ti Q3) .eql (.val a0) (.val (.int .i64 17))) fun v16 =>
 condS v16 (
 Z2 ((.val a0)) (v16) s) (
 bind1 (binS (C.ti Q3) .eql (.val a0) (.val (.int .i64 19))) fun v17 =>
 Z2 ((.val a0)) (v17) s)))))))) := (Q5 _ _ _).trans (by kernel_rfl)
theorem Qe6 (a0 : AV) (s : St) : cw (.f Q3l) [a0] s =
 ca Q1s [(.val a0)] s fun v4 s_1 =>
 iF v4 fun w =>
 iF v4 fun w_1 =>
 gB w_1 Q2 .eql (gdV w (.val a0)) (sv [116, 114, 117, 101]) fun v7 =>
 pk v4 (bv true) v7 fun v8 =>
 iF v8 fun w_2 =>
 iF v8 fun w_3 =>
 gB w_3 Q2 .eql (gdV w_2 (.val a0)) (sv [102, 97, 108, 115, 101]) fun v11 =>
 pk v8 (bv true) v11 fun v12 =>
 iF v12 fun w_4 =>
 iF v12 fun w_5 =>
 gB w_5 Q2 .eql (gdV w_4 (.val a0)) (sv [40, 41]) fun v15 =>
 pk v12 (bv true) v15 fun v16 =>
 some (.ret v16, s_1) := (Q5 _ _ _).trans (by kernel_rfl)
theorem Qbw (a0 : AV) (s : St) : cw (.f Q2b) [a0] s =
 ca Q2s [(.val a0)] s fun v4 s_1 =>
 bn Q1 .eql v4 (.val a0) fun v6 =>
 some (.ret v6, s_1) := (Q5 _ _ _).trans (by kernel_rfl)
noncomputable def Q05 : Slot → Slot → St → Res := fun x4 x5 s => pwD Q2t [.seqR, .seqL, .seqR, .block, .seqR] Tryz.f85 [(4, .s x4), (5, .s x5)] s
theorem Q9c : ∀ x4 x5 s_1, Q05 x4 x5 s_1 =
 condS x5 (
 rt [(some (iv 0)), (some (iv 0))] s_1) (
 bn Q2 .eql x4 (sv [114, 101, 102]) fun v11 =>
 condS v11 (
 rt [(some (iv 1)), (some (iv 1))] s_1) (
 bn Q2 .eql x4 (sv [45, 62]) fun v13 =>
 condS v13 (
 rt [(some (iv 2)), (some (iv 2))] s_1) (
 bn Q2 .eql x4 (sv [42]) fun v15 =>
 condS v15 (
 rt [(some (iv 2)), (some (iv 8))] s_1) (
 rt [(some (iv 0)), (some (iv 8))] s_1)))) := by intros; unfold Q05; exact (Q0t _).trans (by kernel_rfl)
theorem QcR (a0 : AV) (s : St) : cw (.f Q2t) [a0] s =
 bn Q2 .eql (.val a0) (sv [105, 110, 116]) fun v6 =>
 condS v6 (
 Q05 (.val a0) v6 s) (
 bn Q2 .eql (.val a0) (sv [98, 111, 111, 108]) fun v7 =>
 condS v7 (
 Q05 (.val a0) v7 s) (
 bn Q2 .eql (.val a0) (sv [117, 110, 105, 116]) fun v8 =>
 condS v8 (
 Q05 (.val a0) v8 s) (
 bn Q2 .eql (.val a0) (sv [101, 120, 110]) fun v9 =>
 Q05 (.val a0) v9 s))) := (Q5 _ _ _).trans (by kernel_rfl)
noncomputable def Zv : Slot → Slot → St → Res := fun x0 x5 s => lpD Q0A [.seqR, .seqR, .seqL, .seqR, .block] Tryz.f86 [(0, .s x0), (5, .s x5)] s
theorem Q3C : ∀ x0 x5 s_2, Zv x0 x5 s_2 =
 ln Q2 x0 fun v23 =>
 bn Q1 .lss x5 v23 fun v24 =>
 condS v24 (
 bind1 (indexS (C.ti Q2) (C.ti T_0) x0 x5) fun v29 =>
 ca Q4s [v29] s_2 fun v30 s_3 =>
 nt v30 fun v31 =>
 condS v31 (
 some (.ret (bv false), s_3)) (
 nx x5 fun v26 =>
 Zv x0 v26 s_3)) (
 some (.ret (bv true), s_2)) := by intros; unfold Zv; exact (Qb _ _ _ _ _ _).trans (by kernel_rfl)
theorem Qaz (a0 : AV) (a1 : AV) (s : St) : cw (.f Q0A) [a0, a1] s =
 ln Q2 (.val a0) fun v7 =>
 bn Q1 .lss v7 (iv 1) fun v8 =>
 iF v8 fun w =>
 iF v8 fun w_1 =>
 gL w_1 Q2 (gdV w (.val a0)) fun v11 =>
 iF v8 fun w_2 =>
 gB w_2 Q1 .gtr v11 (iv 32) fun v12 =>
 pk v8 (bv true) v12 fun v13 =>
 iF v13 fun w_3 =>
 iF v13 fun w_4 =>
 bind1 (gd w_4 (indexS (C.ti Q2) (C.ti T_0) (gdV w_3 (.val a0)) (iv 0))) fun v16 =>
 iF v13 fun w_5 =>
 iF v13 fun w_6 =>
 cg w_6 Q38 [v16, (gdV w_5 (.val a1))] s fun v18 s_1 =>
 iF v13 fun w_7 =>
 gN w_7 v18 fun v19 =>
 pk v13 (bv true) v19 fun v20 =>
 condS v20 (
 some (.ret (bv false), s_1)) (
 Zv (.val a0) (iv 1) s_1) := (Q5 _ _ _).trans (by kernel_rfl)
noncomputable def Q0P : Slot → Slot → Slot → St → Res := fun x0 x1 x5 s => lpD Q29 [.seqR, .seqL, .seqR, .block] Tryz.f87 [(0, .s x0), (1, .s x1), (5, .s x5)] s
theorem Q3Z : ∀ x0 x1 x5 s_1, Q0P x0 x1 x5 s_1 =
 ln Q1G x1 fun v8 =>
 bn Q1 .lss x5 v8 fun v9 =>
 condS v9 (
 ix Q2 x1 x5 fun v14 =>
 ld Q2 s_1 v14 fun v15 =>
 bn Q2 .eql v15 x0 fun v17 =>
 condS v17 (
 some (.ret (bv true), s_1)) (
 nx x5 fun v11 =>
 Q0P x0 x1 v11 s_1)) (
 some (.ret (bv false), s_1)) := by intros; unfold Q0P; exact (Qb _ _ _ _ _ _).trans (by kernel_rfl)
theorem Qbq (a0 : AV) (a1 : AV) (s : St) : cw (.f Q29) [a0, a1] s =
 Q0P (.val a0) (.val a1) (iv 0) s := (Q5 _ _ _).trans (by kernel_rfl)
theorem Qbp (s : St) : cw (.f Q3I) [] s =
 bs Q2 [(sv [97, 110, 100]), (sv [97, 110, 100, 97, 108, 115, 111]), (sv [97, 115]), (sv [99, 97, 115, 101]), (sv [100, 97, 116, 97, 116, 121, 112, 101]), (sv [100, 105, 118]), (sv [101, 108, 115, 101]), (sv [101, 110, 100]), (sv [101, 120, 99, 101, 112, 116, 105, 111, 110]), (sv [102, 110]), (sv [102, 117, 110]), (sv [104, 97, 110, 100, 108, 101]), (sv [105, 102]), (sv [105, 110]), (sv [108, 101, 116]), (sv [109, 111, 100]), (sv [111, 102]), (sv [111, 114, 101, 108, 115, 101]), (sv [112, 114, 105, 110, 116]), (sv [114, 97, 105, 115, 101]), (sv [114, 101, 97, 100]), (sv [114, 101, 102]), (sv [116, 104, 101, 110]), (sv [118, 97, 108])] fun v1 =>
 some (.ret v1, s) := (Q5 _ _ _).trans (by kernel_rfl)
noncomputable def Q0O : List Slot → Slot → Slot → St → Res := fun x1 x3 x4 s => lpD ZZ [.seqR, .seqR, .seqL, .seqR, .block] Tryz.f89 [(1, .var x1), (3, .s x3), (4, .s x4)] s
theorem Q3Y : ∀ x1 x3 x4 s_1, Q0O x1 x3 x4 s_1 =
 gC Qs 4 x1 fun v12 =>
 ln Qs v12 fun v13 =>
 bn Q1 .lss x4 v13 fun v14 =>
 condS v14 (
 gC Qs 4 x1 fun v19 =>
 ix QM v19 x4 fun v21 =>
 ld QM s_1 v21 fun v22 =>
 ca ZZ [v22] s_1 fun v23 s_2 =>
 ap Qa s_2 x3 v23 fun v24 s_3 =>
 nx x4 fun v16 =>
 Q0O x1 v24 v16 s_3) (
 some (.ret x3, s_1)) := by intros; unfold Q0O; exact (Qb _ _ _ _ _ _).trans (by kernel_rfl)
theorem Qbn (a0 : AV) (s : St) : cw (.f ZZ) [a0] s =
 bx QM (.val a0) fun c1 =>
 gA QM c1 fun v5 =>
 gC Q1 1 c1 fun v7 =>
 bd Qa [(0, Q1, (iv 3)), (17, QM, v5), (2, Q1, v7)] fun v8 =>
 bs Qa [v8] fun v9 =>
 Q0O c1 v9 (iv 0) s := (Q5 _ _ _).trans (by kernel_rfl)
noncomputable def Q0N : List Slot → Slot → Slot → St → Res := fun x1_2 x3_2 x6 s => lpD Zy [.seqR, .seqR, .seqR, .seqR, .seqL, .seqR, .block] Tryz.f90 [(1, .var x1_2), (3, .s x3_2), (6, .s x6)] s
noncomputable def Q0M : List Slot → Slot → Slot → St → Res := fun x1_1 x3_1 x5 s => lpD Zy [.seqR, .seqR, .seqR, .seqL, .seqR, .block] Tryz.f90 [(1, .var x1_1), (3, .s x3_1), (5, .s x5)] s
noncomputable def Q0L : List Slot → Slot → Slot → St → Res := fun x1 x3 x4 s => lpD Zy [.seqR, .seqR, .seqL, .seqR, .block] Tryz.f90 [(1, .var x1), (3, .s x3), (4, .s x4)] s
theorem Q3X : ∀ x1_2 x3_2 x6 s_7, Q0N x1_2 x3_2 x6 s_7 =
 gC Qg 5 x1_2 fun v44 =>
 ln Qg v44 fun v45 =>
 bn Q1 .lss x6 v45 fun v46 =>
 condS v46 (
 gC Qg 5 x1_2 fun v51 =>
 ix QI v51 x6 fun v53 =>
 ld QI s_7 v53 fun v54 =>
 ca Q0w [v54] s_7 fun v55 s_8 =>
 ap Qa s_8 x3_2 v55 fun v56 s_9 =>
 nx x6 fun v48 =>
 Q0N x1_2 v56 v48 s_9) (
 some (.ret x3_2, s_7)) := by intros; unfold Q0N; exact (Qb _ _ _ _ _ _).trans (by kernel_rfl)
theorem Q3W : ∀ x1_1 x3_1 x5 s_4, Q0M x1_1 x3_1 x5 s_4 =
 gC Qr 4 x1_1 fun v29 =>
 ln Qr v29 fun v30 =>
 bn Q1 .lss x5 v30 fun v31 =>
 condS v31 (
 gC Qr 4 x1_1 fun v36 =>
 ix QL v36 x5 fun v38 =>
 ld QL s_4 v38 fun v39 =>
 ca Zy [v39] s_4 fun v40 s_5 =>
 ap Qa s_5 x3_1 v40 fun v41 s_6 =>
 nx x5 fun v33 =>
 Q0M x1_1 v41 v33 s_6) (
 Q0N x1_1 x3_1 (iv 0) s_4) := by intros; unfold Q0M; exact (Qb _ _ _ _ _ _).trans (by kernel_rfl)
theorem Q3V : ∀ x1 x3 x4 s_1, Q0L x1 x3 x4 s_1 =
 gC Qo 6 x1 fun v14 =>
 ln Qo v14 fun v15 =>
 bn Q1 .lss x4 v15 fun v16 =>
 condS v16 (
 gC Qo 6 x1 fun v21 =>
 ix Qc v21 x4 fun v23 =>
 ld Qc s_1 v23 fun v24 =>
 ca Zx [v24, (bv true)] s_1 fun v25 s_2 =>
 ap Qa s_2 x3 v25 fun v26 s_3 =>
 nx x4 fun v18 =>
 Q0L x1 v26 v18 s_3) (
 Q0M x1 x3 (iv 0) s_1) := by intros; unfold Q0L; exact (Qb _ _ _ _ _ _).trans (by kernel_rfl)
theorem Qbm (a0 : AV) (s : St) : cw (.f Zy) [a0] s =
 bx QL (.val a0) fun c1 =>
 gA QL c1 fun v7 =>
 gC Q1 1 c1 fun v9 =>
 bd Qa [(0, Q1, (iv 2)), (10, QL, v7), (2, Q1, v9)] fun v10 =>
 bs Qa [v10] fun v11 =>
 Q0L c1 v11 (iv 0) s := (Q5 _ _ _).trans (by kernel_rfl)
theorem Q7N (a0 : AV) (s : St) : cw (.f Q1Q) [a0] s =
 bx QJ (.val a0) fun c1 =>
 gC Q0D 2 c1 fun v4 =>
 bn Q0D .eql v4 (.val (.nilp)) fun v5 =>
 iT v5 fun w =>
 iT v5 fun w_1 =>
 gG w_1 w Q01 3 c1 fun v8 =>
 iT v5 fun w_2 =>
 gB w_2 Q01 .eql v8 (.val (.nilp)) fun v9 =>
 pk v5 v9 (bv false) fun v10 =>
 some (.ret v10, s) := (Q5 _ _ _).trans (by kernel_rfl)
noncomputable def QH : List Slot → Slot → Slot → Slot → Slot → St → Res := fun x1 x3 x5 x7 x8 s => pwD Zs [.seqR, .seqR, .seqR, .seqR, .seqR] Tryz.f92 [(1, .var x1), (3, .s x3), (5, .s x5), (7, .s x7), (8, .s x8)] s
theorem Q4l : ∀ x1 x3 x5 x7 x8 s_1, QH x1 x3 x5 x7 x8 s_1 =
 nt x8 fun v91 =>
 iF v91 fun w_9 =>
 iF v91 fun w_10 =>
 gG w_10 w_9 Qh 1 x1 fun v94 =>
 iF v91 fun w_11 =>
 bindB (Slot.isB (gdV w_11 v94) true) fun w_12 =>
 bindB (Slot.isB (gdV w_11 v94) true) fun w_13 =>
 bind1 (gd w_13 (nilCheckV (gdV w_12 x3))) fun v97 =>
 bindB (Slot.isB (gdV w_11 v94) true) fun w_14 =>
 bind1 (gd w_14 (faV 0 v97)) fun v98 =>
 bindB (Slot.isB (gdV w_11 v94) true) fun w_15 =>
 bind1 (gd w_15 (ldV (C.ti Qe) false s_1 v98)) fun v99 =>
 bindB (Slot.isB (gdV w_11 v94) true) fun w_16 =>
 gB w_16 Qe .neq v99 (iv 1) fun v100 =>
 iF v91 fun w_17 =>
 bind1 (gd w_17 (pickS (gdV w_11 v94) v100 (bv false))) fun v101 =>
 iF v91 fun w_18 =>
 bindB (Slot.isB (gdV w_18 v101) true) fun w_19 =>
 bindB (Slot.isB (gdV w_18 v101) true) fun w_20 =>
 bind1 (gd w_20 (nilCheckV (gdV w_19 x3))) fun v104 =>
 bindB (Slot.isB (gdV w_18 v101) true) fun w_21 =>
 bind1 (gd w_21 (faV 0 v104)) fun v105 =>
 bindB (Slot.isB (gdV w_18 v101) true) fun w_22 =>
 bind1 (gd w_22 (ldV (C.ti Qe) false s_1 v105)) fun v106 =>
 bindB (Slot.isB (gdV w_18 v101) true) fun w_23 =>
 gB w_23 Qe .neq v106 (iv 2) fun v107 =>
 iF v91 fun w_24 =>
 bind1 (gd w_24 (pickS (gdV w_18 v101) v107 (bv false))) fun v108 =>
 pk v91 (bv true) v108 fun v109 =>
 condS v109 (
 some (.ret (iv 29), s_1)) (
 bind1 (nilCheckV x3) fun v111 =>
 fa 0 v111 fun v112 =>
 ld Qe s_1 v112 fun v113 =>
 bn Qe .eql v113 (iv 1) fun v115 =>
 condS v115 (
 bind1 (nilCheckV x3) fun v117 =>
 fa 5 v117 fun v118 =>
 ld Qg s_1 v118 fun v119 =>
 ln Qg v119 fun v120 =>
 bn Q1 .eql v120 (iv 1) fun v121 =>
 nt v121 fun v165 =>
 condS v165 (
 some (.ret (iv 19), s_1)) (
 some (.ret (iv 0), s_1))) (
 bn Qe .eql v113 (iv 2) fun v123 =>
 condS v123 (
 nt x5 fun v165_1 =>
 condS v165_1 (
 some (.ret (iv 19), s_1)) (
 some (.ret (iv 0), s_1))) (
 bn Qe .eql v113 (iv 3) fun v126 =>
 condS v126 (
 bind1 (nilCheckV x3) fun v128 =>
 fa 2 v128 fun v129 =>
 ld Q2 s_1 v129 fun v130 =>
 ca Q0Z [v130] s_1 fun v131 s_2 =>
 nt v131 fun v132 =>
 condS v132 (
 some (.ret (iv 8), s_2)) (
 bind1 (nilCheckV x3) fun v134 =>
 fa 3 v134 fun v135 =>
 ld Q1 s_2 v135 fun v136 =>
 bn Q1 .geq v136 (iv 0) fun v137 =>
 iT v137 fun w_25 =>
 iT v137 fun w_26 =>
 bind1 (gd w_26 (nilCheckV (gdV w_25 x3))) fun v140 =>
 iT v137 fun w_27 =>
 bind1 (gd w_27 (faV 3 v140)) fun v141 =>
 iT v137 fun w_28 =>
 bind1 (gd w_28 (ldV (C.ti Q1) false s_2 v141)) fun v142 =>
 iT v137 fun w_29 =>
 gB w_29 Q1 .leq v142 (iv 8) fun v143 =>
 pk v137 v143 (bv false) fun v144 =>
 iT v144 fun w_30 =>
 pk v144 (gdV w_30 x7) (bv false) fun v147 =>
 iT v147 fun w_31 =>
 iT v147 fun w_32 =>
 bind1 (gd w_32 (nilCheckV (gdV w_31 x3))) fun v150 =>
 iT v147 fun w_33 =>
 bind1 (gd w_33 (faV 4 v150)) fun v151 =>
 iT v147 fun w_34 =>
 bind1 (gd w_34 (ldV (C.ti Qj) false s_2 v151)) fun v152 =>
 iT v147 fun w_35 =>
 gL w_35 Qj v152 fun v153 =>
 iT v147 fun w_36 =>
 gB w_36 Q1 .leq v153 (iv 64) fun v154 =>
 pk v147 v154 (bv false) fun v155 =>
 nt v155 fun v165_2 =>
 condS v165_2 (
 some (.ret (iv 19), s_2)) (
 some (.ret (iv 0), s_2)))) (
 bn Qe .eql v113 (iv 4) fun v157 =>
 condS v157 (
 bind1 (nilCheckV x3) fun v159 =>
 fa 4 v159 fun v160 =>
 ld Qj s_1 v160 fun v161 =>
 ln Qj v161 fun v162 =>
 bn Q1 .eql v162 (iv 1) fun v163 =>
 nt v163 fun v165_3 =>
 condS v165_3 (
 some (.ret (iv 19), s_1)) (
 some (.ret (iv 0), s_1))) (
 bind1 (unS .not (bv true)) fun v165_4 =>
 condS v165_4 (
 some (.ret (iv 19), s_1)) (
 some (.ret (iv 0), s_1))))))) := by intros; unfold QH; exact (Q0t _).trans (by kernel_rfl)
theorem Q5H (a0 : AV) (s : St) : cw (.f Zs) [a0] s =
 bx QJ (.val a0) fun c1 =>
 gC Q1h 0 c1 fun v11 =>
 bind1 (nilCheckV v11) fun v13 =>
 fa 5 v13 fun v14 =>
 ld Qg s v14 fun v15 =>
 ln Qg v15 fun v16 =>
 bn Q1 .gtr v16 (iv 0) fun v17 =>
 bind1 (nilCheckV v11) fun v19 =>
 fa 6 v19 fun v20 =>
 ld QE s v20 fun v21 =>
 ln QE v21 fun v22 =>
 bn Q1 .gtr v22 (iv 0) fun v23 =>
 bind1 (nilCheckV v11) fun v25 =>
 fa 2 v25 fun v26 =>
 ld Q2 s v26 fun v27 =>
 bn Q2 .neq v27 (sv []) fun v28 =>
 iF v28 fun w =>
 iF v28 fun w_1 =>
 bind1 (gd w_1 (nilCheckV (gdV w v11))) fun v31 =>
 iF v28 fun w_2 =>
 bind1 (gd w_2 (faV 3 v31)) fun v32 =>
 iF v28 fun w_3 =>
 bind1 (gd w_3 (ldV (C.ti Q1) false s v32)) fun v33 =>
 iF v28 fun w_4 =>
 gB w_4 Q1 .neq v33 (iv 0) fun v34 =>
 pk v28 (bv true) v34 fun v35 =>
 bind1 (nilCheckV v11) fun v37 =>
 fa 4 v37 fun v38 =>
 ld Qj s v38 fun v39 =>
 ln Qj v39 fun v40 =>
 bn Q1 .gtr v40 (iv 0) fun v41 =>
 bind1 (nilCheckV v11) fun v43 =>
 fa 0 v43 fun v44 =>
 ld Qe s v44 fun v45 =>
 bn Qe .eql v45 (iv 1) fun v47 =>
 condS v47 (
 nt v23 fun v49 =>
 iT v49 fun w_5 =>
 iT v49 fun w_6 =>
 bind1 (gd w_6 (unS .not (gdV w_5 v35))) fun v52 =>
 pk v49 v52 (bv false) fun v53 =>
 iT v53 fun w_7 =>
 iT v53 fun w_8 =>
 bind1 (gd w_8 (unS .not (gdV w_7 v41))) fun v56 =>
 pk v53 v56 (bv false) fun v57 =>
 QH c1 v11 v23 v41 v57 s) (
 bn Qe .eql v45 (iv 2) fun v59 =>
 condS v59 (
 nt v17 fun v61 =>
 iT v61 fun w_37 =>
 iT v61 fun w_38 =>
 bind1 (gd w_38 (unS .not (gdV w_37 v35))) fun v64 =>
 pk v61 v64 (bv false) fun v65 =>
 iT v65 fun w_39 =>
 iT v65 fun w_40 =>
 bind1 (gd w_40 (unS .not (gdV w_39 v41))) fun v68 =>
 pk v65 v68 (bv false) fun v69 =>
 QH c1 v11 v23 v41 v69 s) (
 bn Qe .eql v45 (iv 3) fun v71 =>
 condS v71 (
 nt v17 fun v73 =>
 iT v73 fun w_41 =>
 iT v73 fun w_42 =>
 bind1 (gd w_42 (unS .not (gdV w_41 v23))) fun v76 =>
 pk v73 v76 (bv false) fun v77 =>
 QH c1 v11 v23 v41 v77 s) (
 bn Qe .eql v45 (iv 4) fun v79 =>
 condS v79 (
 nt v17 fun v81 =>
 iT v81 fun w_43 =>
 iT v81 fun w_44 =>
 bind1 (gd w_44 (unS .not (gdV w_43 v23))) fun v84 =>
 pk v81 v84 (bv false) fun v85 =>
 iT v85 fun w_45 =>
 iT v85 fun w_46 =>
 bind1 (gd w_46 (unS .not (gdV w_45 v35))) fun v88 =>
 pk v85 v88 (bv false) fun v89 =>
 QH c1 v11 v23 v41 v89 s) (
 QH c1 v11 v23 v41 (bv false) s)))) := (Q5 _ _ _).trans (by kernel_rfl)
theorem Qf2 (a0 : AV) (s : St) : cw (.f Q0Z) [a0] s =
 bn Q2 .neq (.val a0) (sv []) fun v4 =>
 iT v4 fun w =>
 iT v4 fun w_1 =>
 bind1 (gd w_1 (indexS (C.ti Q2) (C.ti T_0) (gdV w (.val a0)) (iv 0))) fun v7 =>
 iT v4 fun w_2 =>
 cg w_2 Q2A [v7] s fun v8 s_1 =>
 pk v4 v8 (bv false) fun v9 =>
 iT v9 fun w_3 =>
 iT v9 fun w_4 =>
 cg w_4 Q2z [(gdV w_3 (.val a0))] s_1 fun v12 s_2 =>
 pk v9 v12 (bv false) fun v13 =>
 iT v13 fun w_5 =>
 iT v13 fun w_6 =>
 gB w_6 Q2 .add (sv [32]) (gdV w_5 (.val a0)) fun v16 =>
 iT v13 fun w_7 =>
 gB w_7 Q2 .add v16 (sv [32]) fun v17 =>
 iT v13 fun w_8 =>
 cg w_8 Q1v [(.val (.str Q9v)), v17] s_2 fun v18 s_3 =>
 iT v13 fun w_9 =>
 gN w_9 v18 fun v19 =>
 pk v13 v19 (bv false) fun v20 =>
 some (.ret v20, s_3) := (Q5 _ _ _).trans (by kernel_rfl)
theorem Q9r (a0 : AV) (s : St) : cw (.f Q2B) [a0] s =
 bx Qi (.val a0) fun c1 =>
 gC Q4 3 c1 fun v5 =>
 bx Q4 v5 fun c =>
 pZ Q4 c fun c3 =>
 gC Qh 2 c1 fun v8 =>
 nt v8 fun v9 =>
 iT v9 fun w =>
 iT v9 fun w_1 =>
 gG w_1 w Qk 0 c3 fun v12 =>
 iT v9 fun w_2 =>
 gB w_2 Qk .neq v12 (iv 0) fun v13 =>
 iT v9 fun w_3 =>
 bindB (Slot.isB (gdV w_3 v13) false) fun w_4 =>
 bindB (Slot.isB (gdV w_3 v13) false) fun w_5 =>
 gG w_5 w_4 Q1 1 c3 fun v16 =>
 bindB (Slot.isB (gdV w_3 v13) false) fun w_6 =>
 gB w_6 Q1 .neq v16 (iv 0) fun v17 =>
 iT v9 fun w_7 =>
 bind1 (gd w_7 (pickS (gdV w_3 v13) (bv true) v17)) fun v18 =>
 iT v9 fun w_8 =>
 bindB (Slot.isB (gdV w_8 v18) false) fun w_9 =>
 bindB (Slot.isB (gdV w_8 v18) false) fun w_10 =>
 gG w_10 w_9 Q2 2 c3 fun v21 =>
 bindB (Slot.isB (gdV w_8 v18) false) fun w_11 =>
 gB w_11 Q2 .neq v21 (sv []) fun v22 =>
 iT v9 fun w_12 =>
 bind1 (gd w_12 (pickS (gdV w_8 v18) (bv true) v22)) fun v23 =>
 iT v9 fun w_13 =>
 bindB (Slot.isB (gdV w_13 v23) false) fun w_14 =>
 bindB (Slot.isB (gdV w_13 v23) false) fun w_15 =>
 gG w_15 w_14 Qd 3 c3 fun v26 =>
 bindB (Slot.isB (gdV w_13 v23) false) fun w_16 =>
 gL w_16 Qd v26 fun v27 =>
 bindB (Slot.isB (gdV w_13 v23) false) fun w_17 =>
 gB w_17 Q1 .gtr v27 (iv 0) fun v28 =>
 iT v9 fun w_18 =>
 bind1 (gd w_18 (pickS (gdV w_13 v23) (bv true) v28)) fun v29 =>
 pk v9 v29 (bv false) fun v30 =>
 condS v30 (
 some (.ret (iv 29), s)) (
 gC Q2 0 c1 fun v33 =>
 ca Q1F [v33] s fun v34 s_1 =>
 nt v34 fun v35 =>
 condS v35 (
 some (.ret (iv 8), s_1)) (
 some (.ret (iv 0), s_1))) := (Q5 _ _ _).trans (by kernel_rfl)
theorem Q9s (a0 : AV) (s : St) : cw (.f Q2C) [a0] s =
 bindL (boxCells (C.ti QL) (.val a0)) fun c1 =>
 bind1 (ofSlots (C.ti Q3) (List.take (C.ti Q3).size (List.drop 0 c1))) fun v7 =>
 back (cal cw true (tgtV (.val (.fn Q6C [])) [v7]) s) fun v8 s_1 =>
 bind1 (extractS v8 0) fun v9 =>
 bind1 (extractS v8 1) fun v10 =>
 bindL (boxCells (C.ti Q0) v9) fun c =>
 bindL (putAt (List.map .val (C.ti Q0).zero) 0 c) fun c3 =>
 bind1 (unS .not v10) fun v13 =>
 bindB (Slot.isB v13 false) fun w =>
 bindB (Slot.isB v13 false) fun w_1 =>
 bind1 (gd w_1 (bif w then (ofSlots (C.ti Qh) (List.take (C.ti Qh).size (List.drop 0 c3))) else none)) fun v16 =>
 bindB (Slot.isB v13 false) fun w_2 =>
 bind1 (gd w_2 (unS .not v16)) fun v17 =>
 bindB (Slot.isB v13 false) fun w_3 =>
 bindB (Slot.isB (gdV w_3 v17) true) fun w_4 =>
 bindB (Slot.isB (gdV w_3 v17) true) fun w_5 =>
 bind1 (gd w_5 (bif w_4 then (ofSlots (C.ti Q2) (List.take (C.ti Q2).size (List.drop 2 c1))) else none)) fun v20 =>
 bindB (Slot.isB (gdV w_3 v17) true) fun w_6 =>
 bind1 (gd w_6 (binS (C.ti Q2) .neq v20 (.val (.str [])))) fun v21 =>
 bindB (Slot.isB v13 false) fun w_7 =>
 bind1 (gd w_7 (pickS (gdV w_3 v17) v21 (.val (.bool false)))) fun v22 =>
 bind1 (pickS v13 (.val (.bool true)) v22) fun v23 =>
 bindB (Slot.isB v23 false) fun w_8 =>
 bindB (Slot.isB v23 false) fun w_9 =>
 bind1 (gd w_9 (bif w_8 then (ofSlots (C.ti Qh) (List.take (C.ti Qh).size (List.drop 1 c3))) else none)) fun v26 =>
 bindB (Slot.isB v23 false) fun w_10 =>
 bind1 (gd w_10 (unS .not v26)) fun v27 =>
 bindB (Slot.isB v23 false) fun w_11 =>
 bindB (Slot.isB (gdV w_11 v27) true) fun w_12 =>
 bindB (Slot.isB (gdV w_11 v27) true) fun w_13 =>
 bind1 (gd w_13 (bif w_12 then (ofSlots (C.ti Q1) (List.take (C.ti Q1).size (List.drop 3 c1))) else none)) fun v30 =>
 bindB (Slot.isB (gdV w_11 v27) true) fun w_14 =>
 bind1 (gd w_14 (binS (C.ti Q1) .neq v30 (.val (.int .i64 0)))) fun v31 =>
 bindB (Slot.isB v23 false) fun w_15 =>
 bind1 (gd w_15 (pickS (gdV w_11 v27) v31 (.val (.bool false)))) fun v32 =>
 bind1 (pickS v23 (.val (.bool true)) v32) fun v33 =>
 bindB (Slot.isB v33 false) fun w_16 =>
 bindB (Slot.isB v33 false) fun w_17 =>
 bind1 (gd w_17 (bif w_16 then (ofSlots (C.ti Qh) (List.take (C.ti Qh).size (List.drop 2 c3))) else none)) fun v36 =>
 bindB (Slot.isB v33 false) fun w_18 =>
 bind1 (gd w_18 (unS .not v36)) fun v37 =>
 bindB (Slot.isB v33 false) fun w_19 =>
 bindB (Slot.isB (gdV w_19 v37) true) fun w_20 =>
 bindB (Slot.isB (gdV w_19 v37) true) fun w_21 =>
 bind1 (gd w_21 (bif w_20 then (ofSlots (C.ti Qg) (List.take (C.ti Qg).size (List.drop 5 c1))) else none)) fun v40 =>
 bindB (Slot.isB (gdV w_19 v37) true) fun w_22 =>
 bind1 (gd w_22 (lenS (C.ti Qg) v40)) fun v41 =>
 bindB (Slot.isB (gdV w_19 v37) true) fun w_23 =>
 bind1 (gd w_23 (binS (C.ti Q1) .gtr v41 (.val (.int .i64 0)))) fun v42 =>
 bindB (Slot.isB v33 false) fun w_24 =>
 bind1 (gd w_24 (pickS (gdV w_19 v37) v42 (.val (.bool false)))) fun v43 =>
 bind1 (pickS v33 (.val (.bool true)) v43) fun v44 =>
 bindB (Slot.isB v44 false) fun w_25 =>
 bindB (Slot.isB v44 false) fun w_26 =>
 bind1 (gd w_26 (bif w_25 then (ofSlots (C.ti Qh) (List.take (C.ti Qh).size (List.drop 3 c3))) else none)) fun v47 =>
 bindB (Slot.isB v44 false) fun w_27 =>
 bind1 (gd w_27 (unS .not v47)) fun v48 =>
 bindB (Slot.isB v44 false) fun w_28 =>
 bindB (Slot.isB (gdV w_28 v48) true) fun w_29 =>
 bindB (Slot.isB (gdV w_28 v48) true) fun w_30 =>
 bind1 (gd w_30 (bif w_29 then (ofSlots (C.ti Qo) (List.take (C.ti Qo).size (List.drop 6 c1))) else none)) fun v51 =>
 bindB (Slot.isB (gdV w_28 v48) true) fun w_31 =>
 bind1 (gd w_31 (lenS (C.ti Qo) v51)) fun v52 =>
 bindB (Slot.isB (gdV w_28 v48) true) fun w_32 =>
 bind1 (gd w_32 (binS (C.ti Q1) .gtr v52 (.val (.int .i64 0)))) fun v53 =>
 bindB (Slot.isB v44 false) fun w_33 =>
 bind1 (gd w_33 (pickS (gdV w_28 v48) v53 (.val (.bool false)))) fun v54 =>
 bind1 (pickS v44 (.val (.bool true)) v54) fun v55 =>
 bindB (Slot.isB v55 false) fun w_34 =>
 bindB (Slot.isB v55 false) fun w_35 =>
 bind1 (gd w_35 (bif w_34 then (ofSlots (C.ti Q1) (List.take (C.ti Q1).size (List.drop 5 c3))) else none)) fun v58 =>
 bindB (Slot.isB v55 false) fun w_36 =>
 bind1 (gd w_36 (binS (C.ti Q1) .eql v58 (.val (.int .i64 0)))) fun v59 =>
 bindB (Slot.isB v55 false) fun w_37 =>
 bindB (Slot.isB (gdV w_37 v59) true) fun w_38 =>
 bindB (Slot.isB (gdV w_37 v59) true) fun w_39 =>
 bind1 (gd w_39 (bif w_38 then (ofSlots (C.ti Qr) (List.take (C.ti Qr).size (List.drop 4 c1))) else none)) fun v62 =>
 bindB (Slot.isB (gdV w_37 v59) true) fun w_40 =>
 bind1 (gd w_40 (lenS (C.ti Qr) v62)) fun v63 =>
 bindB (Slot.isB (gdV w_37 v59) true) fun w_41 =>
 bind1 (gd w_41 (binS (C.ti Q1) .gtr v63 (.val (.int .i64 0)))) fun v64 =>
 bindB (Slot.isB v55 false) fun w_42 =>
 bind1 (gd w_42 (pickS (gdV w_37 v59) v64 (.val (.bool false)))) fun v65 =>
 bind1 (pickS v55 (.val (.bool true)) v65) fun v66 =>
 condS v66 (
 some (.ret (.val (.int .i64 29)), s_1)) (
 bind1 (ofSlots (C.ti Q3) (List.take (C.ti Q3).size (List.drop 0 c1))) fun v69 =>
 bind1 (binS (C.ti Q3) .eql v69 (.val (.int .i64 2))) fun v70 =>
 bindB (Slot.isB v70 true) fun w_43 =>
 bindB (Slot.isB v70 true) fun w_44 =>
 bind1 (gd w_44 (bif w_43 then (ofSlots (C.ti Q2) (List.take (C.ti Q2).size (List.drop 2 c1))) else none)) fun v73 =>
 bindB (Slot.isB v70 true) fun w_45 =>
 back (cal cw w_45 (tgtV (.val (.fn Q0Z [])) [v73]) s_1) fun v74 s_2 =>
 bindB (Slot.isB v70 true) fun w_46 =>
 bind1 (gd w_46 (unS .not v74)) fun v75 =>
 bind1 (pickS v70 v75 (.val (.bool false))) fun v76 =>
 bindB (Slot.isB v76 false) fun w_47 =>
 bindB (Slot.isB v76 false) fun w_48 =>
 bind1 (gd w_48 (bif w_47 then (ofSlots (C.ti Q3) (List.take (C.ti Q3).size (List.drop 0 c1))) else none)) fun v79 =>
 bindB (Slot.isB v76 false) fun w_49 =>
 bind1 (gd w_49 (binS (C.ti Q3) .eql v79 (.val (.int .i64 3)))) fun v80 =>
 bindB (Slot.isB v76 false) fun w_50 =>
 bindB (Slot.isB (gdV w_50 v80) true) fun w_51 =>
 bindB (Slot.isB (gdV w_50 v80) true) fun w_52 =>
 bind1 (gd w_52 (bif w_51 then (ofSlots (C.ti Q2) (List.take (C.ti Q2).size (List.drop 2 c1))) else none)) fun v83 =>
 bindB (Slot.isB (gdV w_50 v80) true) fun w_53 =>
 back (cal cw w_53 (tgtV (.val (.fn Q08 [])) [v83]) s_2) fun v84 s_3 =>
 bindB (Slot.isB (gdV w_50 v80) true) fun w_54 =>
 bind1 (gd w_54 (unS .not v84)) fun v85 =>
 bindB (Slot.isB v76 false) fun w_55 =>
 bind1 (gd w_55 (pickS (gdV w_50 v80) v85 (.val (.bool false)))) fun v86 =>
 bind1 (pickS v76 (.val (.bool true)) v86) fun v87 =>
 condS v87 (
 some (.ret (.val (.int .i64 8)), s_3)) (
 bind1 (ofSlots (C.ti Q3) (List.take (C.ti Q3).size (List.drop 0 c1))) fun v90 =>
 bind1 (binS (C.ti Q3) .eql v90 (.val (.int .i64 1))) fun v91 =>
 bindB (Slot.isB v91 true) fun w_56 =>
 bindB (Slot.isB v91 true) fun w_57 =>
 bind1 (gd w_57 (bif w_56 then (ofSlots (C.ti Q1) (List.take (C.ti Q1).size (List.drop 3 c1))) else none)) fun v94 =>
 bindB (Slot.isB v91 true) fun w_58 =>
 back (cal cw w_58 (tgtV (.val (.fn Q2x [])) [v94]) s_3) fun v95 s_4 =>
 bindB (Slot.isB v91 true) fun w_59 =>
 bind1 (gd w_59 (unS .not v95)) fun v96 =>
 bind1 (pickS v91 v96 (.val (.bool false))) fun v97 =>
 bindB (Slot.isB v97 false) fun w_60 =>
 bindB (Slot.isB v97 false) fun w_61 =>
 bind1 (gd w_61 (bif w_60 then (ofSlots (C.ti Q3) (List.take (C.ti Q3).size (List.drop 0 c1))) else none)) fun v100 =>
 bindB (Slot.isB v97 false) fun w_62 =>
 bind1 (gd w_62 (binS (C.ti Q3) .eql v100 (.val (.int .i64 13)))) fun v101 =>
 bindB (Slot.isB v97 false) fun w_63 =>
 bindB (Slot.isB (gdV w_63 v101) true) fun w_64 =>
 bindB (Slot.isB (gdV w_63 v101) true) fun w_65 =>
 bind1 (gd w_65 (bif w_64 then (ofSlots (C.ti Q1) (List.take (C.ti Q1).size (List.drop 3 c1))) else none)) fun v104 =>
 bindB (Slot.isB (gdV w_63 v101) true) fun w_66 =>
 bind1 (gd w_66 (binS (C.ti Q1) .lss v104 (.val (.int .i64 1)))) fun v105 =>
 bindB (Slot.isB (gdV w_63 v101) true) fun w_67 =>
 bindB (Slot.isB (gdV w_67 v105) false) fun w_68 =>
 bindB (Slot.isB (gdV w_67 v105) false) fun w_69 =>
 bind1 (gd w_69 (bif w_68 then (ofSlots (C.ti Q1) (List.take (C.ti Q1).size (List.drop 3 c1))) else none)) fun v108 =>
 bindB (Slot.isB (gdV w_67 v105) false) fun w_70 =>
 bind1 (gd w_70 (binS (C.ti Q1) .gtr v108 (.val (.int .i64 9)))) fun v109 =>
 bindB (Slot.isB (gdV w_63 v101) true) fun w_71 =>
 bind1 (gd w_71 (pickS (gdV w_67 v105) (.val (.bool true)) v109)) fun v110 =>
 bindB (Slot.isB v97 false) fun w_72 =>
 bind1 (gd w_72 (pickS (gdV w_63 v101) v110 (.val (.bool false)))) fun v111 =>
 bind1 (pickS v97 (.val (.bool true)) v111) fun v112 =>
 condS v112 (
 some (.ret (.val (.int .i64 2)), s_4)) (
 bind1 (ofSlots (C.ti Qr) (List.take (C.ti Qr).size (List.drop 4 c1))) fun v115 =>
 bind1 (lenS (C.ti Qr) v115) fun v116 =>
 bind1 (ofSlots (C.ti Q1) (List.take (C.ti Q1).size (List.drop 4 c3))) fun v118 =>
 bind1 (binS (C.ti Q1) .lss v116 v118) fun v119 =>
 bindB (Slot.isB v119 false) fun w_73 =>
 bindB (Slot.isB v119 false) fun w_74 =>
 bind1 (gd w_74 (bif w_73 then (ofSlots (C.ti Qr) (List.take (C.ti Qr).size (List.drop 4 c1))) else none)) fun v122 =>
 bindB (Slot.isB v119 false) fun w_75 =>
 bind1 (gd w_75 (lenS (C.ti Qr) v122)) fun v123 =>
 bindB (Slot.isB v119 false) fun w_76 =>
 bindB (Slot.isB v119 false) fun w_77 =>
 bind1 (gd w_77 (bif w_76 then (ofSlots (C.ti Q1) (List.take (C.ti Q1).size (List.drop 5 c3))) else none)) fun v125 =>
 bindB (Slot.isB v119 false) fun w_78 =>
 bind1 (gd w_78 (binS (C.ti Q1) .gtr v123 v125)) fun v126 =>
 bind1 (pickS v119 (.val (.bool true)) v126) fun v127 =>
 bindB (Slot.isB v127 false) fun w_79 =>
 bindB (Slot.isB v127 false) fun w_80 =>
 bind1 (gd w_80 (bif w_79 then (ofSlots (C.ti Qh) (List.take (C.ti Qh).size (List.drop 2 c3))) else none)) fun v130 =>
 bindB (Slot.isB v127 false) fun w_81 =>
 bindB (Slot.isB (gdV w_81 v130) true) fun w_82 =>
 bindB (Slot.isB (gdV w_81 v130) true) fun w_83 =>
 bind1 (gd w_83 (bif w_82 then (ofSlots (C.ti Qg) (List.take (C.ti Qg).size (List.drop 5 c1))) else none)) fun v133 =>
 bindB (Slot.isB (gdV w_81 v130) true) fun w_84 =>
 bind1 (gd w_84 (lenS (C.ti Qg) v133)) fun v134 =>
 bindB (Slot.isB (gdV w_81 v130) true) fun w_85 =>
 bind1 (gd w_85 (binS (C.ti Q1) .eql v134 (.val (.int .i64 0)))) fun v135 =>
 bindB (Slot.isB v127 false) fun w_86 =>
 bind1 (gd w_86 (pickS (gdV w_81 v130) v135 (.val (.bool false)))) fun v136 =>
 bind1 (pickS v127 (.val (.bool true)) v136) fun v137 =>
 bindB (Slot.isB v137 false) fun w_87 =>
 bindB (Slot.isB v137 false) fun w_88 =>
 bind1 (gd w_88 (bif w_87 then (ofSlots (C.ti Qh) (List.take (C.ti Qh).size (List.drop 3 c3))) else none)) fun v140 =>
 bindB (Slot.isB v137 false) fun w_89 =>
 bindB (Slot.isB (gdV w_89 v140) true) fun w_90 =>
 bindB (Slot.isB (gdV w_89 v140) true) fun w_91 =>
 bind1 (gd w_91 (bif w_90 then (ofSlots (C.ti Qo) (List.take (C.ti Qo).size (List.drop 6 c1))) else none)) fun v143 =>
 bindB (Slot.isB (gdV w_89 v140) true) fun w_92 =>
 bind1 (gd w_92 (lenS (C.ti Qo) v143)) fun v144 =>
 bindB (Slot.isB (gdV w_89 v140) true) fun w_93 =>
 bind1 (gd w_93 (binS (C.ti Q1) .eql v144 (.val (.int .i64 0)))) fun v145 =>
 bindB (Slot.isB v137 false) fun w_94 =>
 bind1 (gd w_94 (pickS (gdV w_89 v140) v145 (.val (.bool false)))) fun v146 =>
 bind1 (pickS v137 (.val (.bool true)) v146) fun v147 =>
 condS v147 (
 some (.ret (.val (.int .i64 19)), s_4)) (
 some (.ret (.val (.int .i64 0)), s_4))))) := (Q5 _ _ _).trans (by kernel_rfl)
noncomputable def QR : List Slot → Slot → Slot → Slot → Slot → St → Res := fun x1 x3 x4 x5 x6 s => pwD Q1t [.seqR, .seqR, .seqR] Tryz.f96 [(1, .var x1), (3, .s x3), (4, .s x4), (5, .s x5), (6, .s x6)] s
theorem Q6Z : ∀ x1 x3 x4 x5 x6 s_1, QR x1 x3 x4 x5 x6 s_1 =
 nt x3 fun v23 =>
 iT v23 fun w =>
 iT v23 fun w_1 =>
 gG w_1 w Q2 2 x1 fun v26 =>
 iT v23 fun w_2 =>
 gB w_2 Q2 .neq v26 (sv []) fun v27 =>
 pk v23 v27 (bv false) fun v28 =>
 iF v28 fun w_3 =>
 iF v28 fun w_4 =>
 bind1 (gd w_4 (unS .not (gdV w_3 x4))) fun v31 =>
 iF v28 fun w_5 =>
 bindB (Slot.isB (gdV w_5 v31) true) fun w_6 =>
 bindB (Slot.isB (gdV w_5 v31) true) fun w_7 =>
 gG w_7 w_6 Q1 3 x1 fun v34 =>
 bindB (Slot.isB (gdV w_5 v31) true) fun w_8 =>
 gB w_8 Q1 .neq v34 (iv 0) fun v35 =>
 iF v28 fun w_9 =>
 bind1 (gd w_9 (pickS (gdV w_5 v31) v35 (bv false))) fun v36 =>
 pk v28 (bv true) v36 fun v37 =>
 iF v37 fun w_10 =>
 iF v37 fun w_11 =>
 gB w_11 Q1 .eql (gdV w_10 x6) (iv 0) fun v40 =>
 iF v37 fun w_12 =>
 bindB (Slot.isB (gdV w_12 v40) true) fun w_13 =>
 bindB (Slot.isB (gdV w_12 v40) true) fun w_14 =>
 gG w_14 w_13 Qs 4 x1 fun v43 =>
 bindB (Slot.isB (gdV w_12 v40) true) fun w_15 =>
 gL w_15 Qs v43 fun v44 =>
 bindB (Slot.isB (gdV w_12 v40) true) fun w_16 =>
 gB w_16 Q1 .gtr v44 (iv 0) fun v45 =>
 iF v37 fun w_17 =>
 bind1 (gd w_17 (pickS (gdV w_12 v40) v45 (bv false))) fun v46 =>
 pk v37 (bv true) v46 fun v47 =>
 condS v47 (
 some (.ret (iv 29), s_1)) (
 gC Qn 0 x1 fun v50 =>
 bn Qn .eql v50 (iv 4) fun v51 =>
 iT v51 fun w_18 =>
 iT v51 fun w_19 =>
 gG w_19 w_18 Q2 2 x1 fun v54 =>
 iT v51 fun w_20 =>
 cg w_20 Q08 [v54] s_1 fun v55 s_2 =>
 iT v51 fun w_21 =>
 gN w_21 v55 fun v56 =>
 pk v51 v56 (bv false) fun v57 =>
 iF v57 fun w_22 =>
 iF v57 fun w_23 =>
 bindB (Slot.isB (gdV w_23 (gdV w_22 x3)) true) fun w_24 =>
 bindB (Slot.isB (gdV w_23 (gdV w_22 x3)) true) fun w_25 =>
 gG w_25 w_24 Qn 0 x1 fun v62 =>
 bindB (Slot.isB (gdV w_23 (gdV w_22 x3)) true) fun w_26 =>
 gB w_26 Qn .neq v62 (iv 4) fun v63 =>
 iF v57 fun w_27 =>
 bind1 (gd w_27 (pickS (gdV w_23 (gdV w_22 x3)) v63 (bv false))) fun v64 =>
 iF v57 fun w_28 =>
 bindB (Slot.isB (gdV w_28 v64) true) fun w_29 =>
 bindB (Slot.isB (gdV w_28 v64) true) fun w_30 =>
 gG w_30 w_29 Q2 2 x1 fun v67 =>
 bindB (Slot.isB (gdV w_28 v64) true) fun w_31 =>
 cg w_31 Q0Z [v67] s_2 fun v68 s_3 =>
 bindB (Slot.isB (gdV w_28 v64) true) fun w_32 =>
 gN w_32 v68 fun v69 =>
 iF v57 fun w_33 =>
 bind1 (gd w_33 (pickS (gdV w_28 v64) v69 (bv false))) fun v70 =>
 pk v57 (bv true) v70 fun v71 =>
 condS v71 (
 some (.ret (iv 8), s_3)) (
 iT x4 fun w_34 =>
 iT x4 fun w_35 =>
 gG w_35 w_34 Q1 3 x1 fun v76 =>
 iT x4 fun w_36 =>
 cg w_36 Q2x [v76] s_3 fun v77 s_4 =>
 iT x4 fun w_37 =>
 gN w_37 v77 fun v78 =>
 pk x4 v78 (bv false) fun v79 =>
 condS v79 (
 some (.ret (iv 2), s_4)) (
 gC Qs 4 x1 fun v82 =>
 ln Qs v82 fun v83 =>
 bn Q1 .lss v83 x5 fun v85 =>
 iF v85 fun w_38 =>
 iF v85 fun w_39 =>
 gG w_39 w_38 Qs 4 x1 fun v88 =>
 iF v85 fun w_40 =>
 gL w_40 Qs v88 fun v89 =>
 iF v85 fun w_41 =>
 iF v85 fun w_42 =>
 gB w_42 Q1 .gtr v89 (gdV w_41 x6) fun v91 =>
 pk v85 (bv true) v91 fun v92 =>
 condS v92 (
 some (.ret (iv 19), s_4)) (
 some (.ret (iv 0), s_4))))) := by intros; unfold QR; exact (Q0t _).trans (by kernel_rfl)
theorem Q9t (a0 : AV) (s : St) : cw (.f Q1t) [a0] s =
 bx QM (.val a0) fun c1 =>
 gC Qn 0 c1 fun v8 =>
 bn Qn .eql v8 (iv 1) fun v10 =>
 condS v10 (
 QR c1 (bv false) (bv false) (iv 0) (iv 0) s) (
 bn Qn .eql v8 (iv 2) fun v12 =>
 condS v12 (
 QR c1 (bv true) (bv false) (iv 0) (iv 0) s) (
 bn Qn .eql v8 (iv 3) fun v14 =>
 condS v14 (
 QR c1 (bv false) (bv true) (iv 0) (iv 0) s) (
 bn Qn .eql v8 (iv 4) fun v16 =>
 condS v16 (
 QR c1 (bv true) (bv false) (iv 0) (iv 1) s) (
 bn Qn .eql v8 (iv 5) fun v18 =>
 condS v18 (
 QR c1 (bv false) (bv false) (iv 2) (iv 8) s) (
 bn Qn .eql v8 (iv 6) fun v20 =>
 condS v20 (
 QR c1 (bv true) (bv false) (iv 1) (iv 1) s) (
 some (.ret (iv 29), s))))))) := (Q5 _ _ _).trans (by kernel_rfl)
noncomputable def Zb : Slot → Slot → Slot → St → Res := fun x3_1 x4_1 x5_1 s => pwD Q0C [.seqR, .seqR, .seqR, .seqR, .seqR] Tryz.f97 [(3, .s x3_1), (4, .s x4_1), (5, .s x5_1)] s
noncomputable def Zw : List Slot → Slot → Slot → Slot → Slot → Slot → St → Res := fun x1 x3 x4 x5 x56 x61 s => pwD Q0C [.seqR, .seqR, .seqR, .seqR, .seqL, .seqR, .block, .seqR] Tryz.f97 [(1, .var x1), (3, .s x3), (4, .s x4), (5, .s x5), (56, .s x56), (61, .s x61)] s
theorem Q7T : ∀ x3_1 x4_1 x5_1 s_2, Zb x3_1 x4_1 x5_1 s_2 =
 bn Q1 .lss x3_1 x4_1 fun v74 =>
 iF v74 fun w_26 =>
 iF v74 fun w_27 =>
 iF v74 fun w_28 =>
 gB w_28 Q1 .gtr (gdV w_26 x3_1) (gdV w_27 x5_1) fun v78 =>
 pk v74 (bv true) v78 fun v79 =>
 condS v79 (
 some (.ret (iv 19), s_2)) (
 some (.ret (iv 0), s_2)) := by intros; unfold Zb; exact (Q0t _).trans (by kernel_rfl)
theorem Q7S : ∀ x1 x3 x4 x5 x56 x61 s_1, Zw x1 x3 x4 x5 x56 x61 s_1 =
 condS x61 (
 Zb x3 x4 x5 s_1) (
 bn Q2 .eql x56 (sv [114, 101, 102]) fun v67 =>
 condS v67 (
 Zb x3 (iv 1) (iv 1) s_1) (
 bn Q2 .eql x56 (sv [45, 62]) fun v69 =>
 condS v69 (
 Zb x3 (iv 2) (iv 2) s_1) (
 bn Q2 .eql x56 (sv [42]) fun v71 =>
 condS v71 (
 Zb x3 (iv 2) (iv 8) s_1) (
 gC Q2 2 x1 fun v58 =>
 ca Q0Z [v58] s_1 fun v59 s_3 =>
 nt v59 fun v60 =>
 condS v60 (
 some (.ret (iv 8), s_3)) (
 Zb x3 x4 (iv 8) s_3))))) := by intros; unfold Zw; exact (Q0t _).trans (by kernel_rfl)
theorem QaO (a0 : AV) (s : St) : cw (.f Q0C) [a0] s =
 bx Q4 (.val a0) fun c1 =>
 gC Qd 3 c1 fun v7 =>
 ln Qd v7 fun v8 =>
 gC Qk 0 c1 fun v11 =>
 bn Qk .eql v11 (iv 1) fun v12 =>
 iT v12 fun w =>
 iT v12 fun w_1 =>
 gG w_1 w Q2 2 c1 fun v15 =>
 iT v12 fun w_2 =>
 gB w_2 Q2 .neq v15 (sv []) fun v16 =>
 iT v12 fun w_3 =>
 bindB (Slot.isB (gdV w_3 v16) false) fun w_4 =>
 bindB (Slot.isB (gdV w_3 v16) false) fun w_5 =>
 gB w_5 Q1 .gtr (gdV w_4 v8) (iv 0) fun v19 =>
 iT v12 fun w_6 =>
 bind1 (gd w_6 (pickS (gdV w_3 v16) (bv true) v19)) fun v20 =>
 pk v12 v20 (bv false) fun v21 =>
 iF v21 fun w_7 =>
 iF v21 fun w_8 =>
 gG w_8 w_7 Qk 0 c1 fun v24 =>
 iF v21 fun w_9 =>
 gB w_9 Qk .eql v24 (iv 2) fun v25 =>
 iF v21 fun w_10 =>
 bindB (Slot.isB (gdV w_10 v25) true) fun w_11 =>
 bindB (Slot.isB (gdV w_10 v25) true) fun w_12 =>
 gG w_12 w_11 Q1 1 c1 fun v28 =>
 bindB (Slot.isB (gdV w_10 v25) true) fun w_13 =>
 gB w_13 Q1 .neq v28 (iv 0) fun v29 =>
 iF v21 fun w_14 =>
 bind1 (gd w_14 (pickS (gdV w_10 v25) v29 (bv false))) fun v30 =>
 pk v21 (bv true) v30 fun v31 =>
 iF v31 fun w_15 =>
 iF v31 fun w_16 =>
 gG w_16 w_15 Qk 0 c1 fun v34 =>
 iF v31 fun w_17 =>
 gB w_17 Qk .neq v34 (iv 1) fun v35 =>
 iF v31 fun w_18 =>
 bindB (Slot.isB (gdV w_18 v35) true) fun w_19 =>
 bindB (Slot.isB (gdV w_18 v35) true) fun w_20 =>
 gG w_20 w_19 Qk 0 c1 fun v38 =>
 bindB (Slot.isB (gdV w_18 v35) true) fun w_21 =>
 gB w_21 Qk .neq v38 (iv 2) fun v39 =>
 iF v31 fun w_22 =>
 bind1 (gd w_22 (pickS (gdV w_18 v35) v39 (bv false))) fun v40 =>
 pk v31 (bv true) v40 fun v41 =>
 condS v41 (
 some (.ret (iv 29), s)) (
 gC Qk 0 c1 fun v44 =>
 bn Qk .eql v44 (iv 1) fun v45 =>
 iT v45 fun w_23 =>
 iT v45 fun w_24 =>
 gG w_24 w_23 Q1 1 c1 fun v48 =>
 iT v45 fun w_25 =>
 gB w_25 Q1 .lss v48 (iv 0) fun v49 =>
 pk v45 v49 (bv false) fun v50 =>
 condS v50 (
 some (.ret (iv 2), s)) (
 gC Qk 0 c1 fun v53 =>
 bn Qk .eql v53 (iv 1) fun v54 =>
 condS v54 (
 some (.ret (iv 0), s)) (
 gC Q2 2 c1 fun v56 =>
 bn Q2 .eql v56 (sv [105, 110, 116]) fun v62 =>
 condS v62 (
 Zw c1 v8 (iv 0) (iv 0) v56 v62 s) (
 bn Q2 .eql v56 (sv [98, 111, 111, 108]) fun v63 =>
 condS v63 (
 Zw c1 v8 (iv 0) (iv 0) v56 v63 s) (
 bn Q2 .eql v56 (sv [117, 110, 105, 116]) fun v64 =>
 condS v64 (
 Zw c1 v8 (iv 0) (iv 0) v56 v64 s) (
 bn Q2 .eql v56 (sv [101, 120, 110]) fun v65 =>
 Zw c1 v8 (iv 0) (iv 0) v56 v65 s)))))) := (Q5 _ _ _).trans (by kernel_rfl)
noncomputable def Z9 : Slot → List Slot → Slot → Slot → St → Res := fun x1 x2 x7 x8 s => lpD QY [.seqR, .seqL, .seqR, .block] Tryz.f98 [(1, .s x1), (2, .var x2), (7, .s x7), (8, .s x8)] s
theorem Q1O : ∀ x1 x2 x7 x8 s_1, Z9 x1 x2 x7 x8 s_1 =
 bn Q1 .lss x8 x7 fun v9 =>
 condS v9 (
 gA Qt x2 fun v11 =>
 ix QI x1 x8 fun v14 =>
 fa 0 v14 fun v15 =>
 cn Z6 [v11, v15] s_1 fun v16 s_2 =>
 nt v16 fun v17 =>
 iF v17 fun w =>
 bind1 (gd w (ofSlots (C.ti Qt) (List.take (C.ti Qt).size x2))) fun v19 =>
 iF v17 fun w_1 =>
 iF v17 fun w_2 =>
 iF v17 fun w_3 =>
 bind1 (gd w_3 (ixS (C.ti QI).size (gdV w_1 x1) (gdV w_2 x8))) fun v22 =>
 iF v17 fun w_4 =>
 bind1 (gd w_4 (faV 5 v22)) fun v23 =>
 iF v17 fun w_5 =>
 back (noPan (cal cw w_5 (tgtV (.val (.fn Zo [])) [v19, v23]) s_2)) fun v24 s_3 =>
 iF v17 fun w_6 =>
 gN w_6 v24 fun v25 =>
 pk v17 (bv true) v25 fun v26 =>
 condS v26 (
 some (.ret (bv false), s_3)) (
 nx x8 fun v27 =>
 Z9 x1 x2 x7 v27 s_3)) (
 some (.ret (bv true), s_1)) := by intros; unfold Z9; exact (Qb _ _ _ _ _ _).trans (by kernel_rfl)
theorem Q2T (a0 : AV) (a1 : AV) (s : St) : cw (.f QY) [a0, a1] s =
 bx Qt (.val a0) fun c2 =>
 ln Qg (.val a1) fun v7 =>
 Z9 (.val a1) c2 v7 (iv 0) s := (Q5 _ _ _).trans (by kernel_rfl)
noncomputable def Za : Slot → Slot → List Slot → Slot → Slot → St → Res := fun x1 x2 x3 x19 x20 s => lpD QZ [.seqR, .seqR, .seqL, .seqR, .block] Tryz.f99 [(1, .s x1), (2, .s x2), (3, .var x3), (19, .s x19), (20, .s x20)] s
theorem Q1P : ∀ x1 x2 x3 x19 x20 s_2, Za x1 x2 x3 x19 x20 s_2 =
 bn Q1 .lss x20 x19 fun v21 =>
 condS v21 (
 gA Qt x3 fun v23 =>
 bind1 (nilCheckV x1) fun v25 =>
 fa 3 v25 fun v26 =>
 ld Qd s_2 v26 fun v27 =>
 ix Q4 v27 x20 fun v29 =>
 cn QZ [v23, v29, x2] s_2 fun v31 s_3 =>
 nt v31 fun v32 =>
 condS v32 (
 some (.ret (bv false), s_3)) (
 nx x20 fun v33 =>
 Za x1 x2 x3 x19 v33 s_3)) (
 some (.ret (bv true), s_2)) := by intros; unfold Za; exact (Qb _ _ _ _ _ _).trans (by kernel_rfl)
theorem Q6x (a0 : AV) (a1 : AV) (a2 : AV) (s : St) : cw (.f QZ) [a0, a1, a2] s =
 bx Qt (.val a0) fun c3 =>
 gC Qm 0 c3 fun v9 =>
 bd QJ [(6, Q3q, (.val a1)), (7, Q1, (.val a2))] fun v12 =>
 back (cal cw true (tgtV v9 [v12]) s) fun v13 s_1 =>
 nt v13 fun v14 =>
 condS v14 (
 some (.ret (bv false), s_1)) (
 bind1 (nilCheckV (.val a1)) fun v16 =>
 fa 3 v16 fun v17 =>
 ld Qd s_1 v17 fun v18 =>
 ln Qd v18 fun v19 =>
 Za (.val a1) (.val a2) c3 v19 (iv 0) s_1) := (Q5 _ _ _).trans (by kernel_rfl)
end Go.Proofs.YtoahliipbclneaaGreat