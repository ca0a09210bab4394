/- A part of the proof: G2. -/
import Derived.Test.YtoahliipbclneaaM4
set_option linter.unusedVariables false
set_option linter.unusedSimpArgs false
namespace Go.Proofs.Ytoahliipbclneaa
open Go Go.Am
set_option linter.unusedVariables false
theorem Q4R (a0 : AV) (s : St) : cw (.f Q0O) [a0] s =
 ca ZR [] s fun v7 s_1 =>
 ca Q15 [] s_1 fun v9 s_2 =>
 ca Q1f [v7, v9] s_2 fun v10 s_3 =>
 nt v10 fun v11 =>
 condS v11 (
 some (.ret (bv false), s_3)) (
 bind1 (convS (C.ti Q1) (C.ti ZK) (.val a0)) fun v13 =>
 bn ZK .rem v13 (.val (.int .u64 6)) fun v14 =>
 bind1 (convS (C.ti ZK) (C.ti Q1) v14) fun v15 =>
 ix Q5 v7 v15 fun v20 =>
 fa 0 v20 fun v21 =>
 ld Q2 s_3 v21 fun v22 =>
 ca Q0R [v7, v22] s_3 fun v23 s_4 =>
 ex v23 0 fun v24 =>
 ex v23 1 fun v25 =>
 bx Q5 v24 fun c =>
 pZ Q5 c fun c5 =>
 iT v25 fun w =>
 bind1 (gd w (ofSlots (C.ti Q5) (List.take (C.ti Q5).size c5))) fun v28 =>
 iT v25 fun w_1 =>
 iT v25 fun w_2 =>
 iT v25 fun w_3 =>
 bind1 (gd w_3 (ixS (C.ti Q5).size (gdV w_1 v7) (gdV w_2 v15))) fun v31 =>
 iT v25 fun w_4 =>
 bind1 (gd w_4 (ldV (C.ti Q5) false s_4 v31)) fun v32 =>
 iT v25 fun w_5 =>
 back (noPan (cal cw w_5 (tgtV (.val (.fn ZP [])) [v28, v32]) s_4)) fun v33 s_5 =>
 pk v25 v33 (bv false) fun v34 =>
 iT v34 fun w_6 =>
 iT v34 fun w_7 =>
 back (noPan (cal cw w_7 (tgtV (.val (.fn Zr [])) [(gdV w_6 v7)]) s_5)) fun v37 s_6 =>
 pk v34 v37 (bv false) fun v38 =>
 iT v38 fun w_8 =>
 back (noPan (cal cw w_8 (tgtV (.val (.fn Q28 [])) []) s_6)) fun v40 s_7 =>
 pk v38 v40 (bv false) fun v41 =>
 some (.ret v41, s_7)) := (Q7 _ _ _).trans (by kernel_rfl)
theorem Q8i (s : St) : cw (.f ZR) [] s =
 ca Z5 [(sv [40, 41]), (sv [117, 110, 105, 116]), (iv 0), (iv 1)] s fun v1 s_1 =>
 ca Z5 [(sv [102, 97, 108, 115, 101]), (sv [98, 111, 111, 108]), (iv 0), (iv 2)] s_1 fun v2 s_2 =>
 ca Z5 [(sv [116, 114, 117, 101]), (sv [98, 111, 111, 108]), (iv 1), (iv 2)] s_2 fun v3 s_3 =>
 ca Z5 [(sv [68, 105, 118]), (sv [101, 120, 110]), (iv 0), (iv 0)] s_3 fun v4 s_4 =>
 ca Z5 [(sv [69, 111, 102]), (sv [101, 120, 110]), (iv 1), (iv 0)] s_4 fun v5 s_5 =>
 ca Z5 [(sv [77, 97, 116, 99, 104]), (sv [101, 120, 110]), (iv 2), (iv 0)] s_5 fun v6 s_6 =>
 bs Q5 [v1, v2, v3, v4, v5, v6] fun v7 =>
 some (.ret v7, s_6) := (Q7 _ _ _).trans (by kernel_rfl)
noncomputable def Q0l : Slot → Slot → Slot → St → Res := fun x0 x1 x5 s => lpD Q1f [.seqR, .seqR, .seqL, .seqR, .block] Try.f6 [(0, .s x0), (1, .s x1), (5, .s x5)] s
theorem Q2M : ∀ x0 x1 x5 s_1, Q0l x0 x1 x5 s_1 =
 ln Q08 x0 fun v13 =>
 bn Q1 .lss x5 v13 fun v14 =>
 condS v14 (
 ix Q5 x0 x5 fun v19 =>
 ld Q5 s_1 v19 fun v20 =>
 ix Q5 x1 x5 fun v23 =>
 ld Q5 s_1 v23 fun v24 =>
 cn ZP [v20, v24] s_1 fun v25 s_2 =>
 nt v25 fun v26 =>
 condS v26 (
 some (.ret (bv false), s_2)) (
 nx x5 fun v16 =>
 Q0l x0 x1 v16 s_2)) (
 some (.ret (bv true), s_1)) := by intros; unfold Q0l; exact (Qi _ _ _ _ _ _).trans (by kernel_rfl)
theorem Q8p (a0 : AV) (a1 : AV) (s : St) : cw (.f Q1f) [a0, a1] s =
 ln Q08 (.val a0) fun v7 =>
 ln Q08 (.val a1) fun v9 =>
 bn Q1 .neq v7 v9 fun v10 =>
 condS v10 (
 some (.ret (bv false), s)) (
 Q0l (.val a0) (.val a1) (iv 0) s) := (Q7 _ _ _).trans (by kernel_rfl)
noncomputable def Q04 : Slot → Slot → Slot → Slot → Slot → Slot → St → Res := fun x1 x2 x3 x4 x5 x6 s => lpD Q15 [.seqR, .seqR, .seqR, .seqR, .seqR, .seqR, .seqL, .seqR, .block] Try.f7 [(1, .s x1), (2, .s x2), (3, .s x3), (4, .s x4), (5, .s x5), (6, .s x6)] s
theorem Q2f : ∀ x1 x2 x3 x4 x5 x6 s_1, Q04 x1 x2 x3 x4 x5 x6 s_1 =
 bn Q1 .lss x6 (iv 6) fun v12 =>
 condS v12 (
 ix Q2 x1 x6 fun v18 =>
 bind1 (ldV (C.ti Q2) true s_1 v18) fun v19 =>
 ix Q2 x2 x6 fun v22 =>
 bind1 (ldV (C.ti Q2) true s_1 v22) fun v23 =>
 ix Q1 x3 x6 fun v26 =>
 bind1 (ldV (C.ti Q1) true s_1 v26) fun v27 =>
 ix Q1 x4 x6 fun v30 =>
 bind1 (ldV (C.ti Q1) true s_1 v30) fun v31 =>
 ix Q2 x2 x6 fun v34 =>
 bind1 (ldV (C.ti Q2) true s_1 v34) fun v35 =>
 cn Q29 [v35] s_1 fun v36 s_2 =>
 bd Zs [(1, Q4, v36)] fun v37 =>
 bd Q5 [(0, Q2, v19), (1, Q2, v23), (2, Q1, v27), (3, Q1, v31), (5, Zs, v37)] fun v38 =>
 bs Q5 [v38] fun v39 =>
 ap Q5 s_2 x5 v39 fun v40 s_3 =>
 nx x6 fun v14 =>
 Q04 x1 x2 x3 x4 v40 v14 s_3) (
 some (.ret x5, s_1)) := by intros; unfold Q04; exact (Qi _ _ _ _ _ _).trans (by kernel_rfl)
theorem Q7x (s : St) : cw (.f Q15) [] s =
 bs Q2 [(sv [40, 41]), (sv [102, 97, 108, 115, 101]), (sv [116, 114, 117, 101]), (sv [68, 105, 118]), (sv [69, 111, 102]), (sv [77, 97, 116, 99, 104])] fun v7 =>
 bs Q2 [(sv [117, 110, 105, 116]), (sv [98, 111, 111, 108]), (sv [98, 111, 111, 108]), (sv [101, 120, 110]), (sv [101, 120, 110]), (sv [101, 120, 110])] fun v8 =>
 bs Q1 [(iv 0), (iv 0), (iv 1), (iv 0), (iv 1), (iv 2)] fun v9 =>
 bs Q1 [(iv 1), (iv 2), (iv 2), (iv 0), (iv 0), (iv 0)] fun v10 =>
 Q04 v7 v8 v9 v10 (.val (.nils)) (iv 0) s := (Q7 _ _ _).trans (by kernel_rfl)
noncomputable def Q0z : Slot → List Slot → Slot → Slot → Slot → St → Res := fun x1 x4 x8 x9 x10 s => lpD Q0R [.seqR, .seqL, .seqR, .block] Try.f8 [(1, .s x1), (4, .var x4), (8, .s x8), (9, .s x9), (10, .s x10)] s
theorem Q33 : ∀ x1 x4 x8 x9 x10 s_1, Q0z x1 x4 x8 x9 x10 s_1 =
 bn Q1 .lss x10 x9 fun v11 =>
 condS v11 (
 ix Q5 x8 x10 fun v12 =>
 ld Q5 s_1 v12 fun v13 =>
 bx Q5 v13 fun c =>
 pZ Q5 c fun c7 =>
 gC Q2 0 c7 fun v15 =>
 bn Q2 .eql v15 x1 fun v17 =>
 condS v17 (
 gC Q4 6 c7 fun v20 =>
 ca ZS [v20] s_1 fun v21 s_2 =>
 bx Q4 v21 fun c_1 =>
 pt c7 6 c_1 fun c7_1 =>
 gA Q5 c7_1 fun v24 =>
 bx Q5 v24 fun c_2 =>
 pt x4 0 c_2 fun c4 =>
 rt [(ofSlots (C.ti Q5) (List.take (C.ti Q5).size c4)), (some (bv true))] s_2) (
 nx x10 fun v25 =>
 Q0z x1 x4 x8 x9 v25 s_1)) (
 bd Q5 [] fun v26 =>
 bx Q5 v26 fun c_3 =>
 pt x4 0 c_3 fun c4_1 =>
 rt [(ofSlots (C.ti Q5) (List.take (C.ti Q5).size c4_1)), (some (bv false))] s_1) := by intros; unfold Q0z; exact (Qi _ _ _ _ _ _).trans (by kernel_rfl)
theorem Q8I (a0 : AV) (a1 : AV) (s : St) : cw (.f Q0R) [a0, a1] s =
 ln QG (.val a0) fun v9 =>
 Q0z (.val a1) ((List.map .val (C.ti Q5).zero)) (.val a0) v9 (iv 0) s := (Q7 _ _ _).trans (by kernel_rfl)
theorem Q51 (a0 : AV) (a1 : AV) (s : St) : cw (.f ZP) [a0, a1] s =
 bx Q5 (.val a0) fun c2 =>
 bx Q5 (.val a1) fun c3 =>
 gC Q2 0 c2 fun v6 =>
 gC Q2 0 c3 fun v8 =>
 bn Q2 .eql v6 v8 fun v9 =>
 iT v9 fun w =>
 iT v9 fun w_1 =>
 gG w_1 w Q2 1 c2 fun v12 =>
 iT v9 fun w_2 =>
 iT v9 fun w_3 =>
 gG w_3 w_2 Q2 1 c3 fun v14 =>
 iT v9 fun w_4 =>
 gB w_4 Q2 .eql v12 v14 fun v15 =>
 pk v9 v15 (bv false) fun v16 =>
 iT v16 fun w_5 =>
 iT v16 fun w_6 =>
 gG w_6 w_5 Q1 2 c2 fun v19 =>
 iT v16 fun w_7 =>
 iT v16 fun w_8 =>
 gG w_8 w_7 Q1 2 c3 fun v21 =>
 iT v16 fun w_9 =>
 gB w_9 Q1 .eql v19 v21 fun v22 =>
 pk v16 v22 (bv false) fun v23 =>
 iT v23 fun w_10 =>
 iT v23 fun w_11 =>
 gG w_11 w_10 Q1 3 c2 fun v26 =>
 iT v23 fun w_12 =>
 iT v23 fun w_13 =>
 gG w_13 w_12 Q1 3 c3 fun v28 =>
 iT v23 fun w_14 =>
 gB w_14 Q1 .eql v26 v28 fun v29 =>
 pk v23 v29 (bv false) fun v30 =>
 iT v30 fun w_15 =>
 iT v30 fun w_16 =>
 gG w_16 w_15 Qe 4 c2 fun v33 =>
 iT v30 fun w_17 =>
 iT v30 fun w_18 =>
 gG w_18 w_17 Qe 4 c3 fun v35 =>
 iT v30 fun w_19 =>
 gB w_19 Qe .eql v33 v35 fun v36 =>
 pk v30 v36 (bv false) fun v37 =>
 iT v37 fun w_20 =>
 iT v37 fun w_21 =>
 chkP w_20 w_21 fun _ =>
 iT v37 fun w_22 =>
 bind1 (gd w_22 (bif (w_20 && w_21) then (ofSlots (C.ti Q1) (List.take (C.ti Q1).size (List.drop 5 c2))) else none)) fun v41 =>
 iT v37 fun w_23 =>
 iT v37 fun w_24 =>
 chkP w_23 w_24 fun _ =>
 iT v37 fun w_25 =>
 bind1 (gd w_25 (bif (w_23 && w_24) then (ofSlots (C.ti Q1) (List.take (C.ti Q1).size (List.drop 5 c3))) else none)) fun v44 =>
 iT v37 fun w_26 =>
 gB w_26 Q1 .eql v41 v44 fun v45 =>
 pk v37 v45 (bv false) fun v46 =>
 iT v46 fun w_27 =>
 iT v46 fun w_28 =>
 chkP w_27 w_28 fun _ =>
 iT v46 fun w_29 =>
 bind1 (gd w_29 (bif (w_27 && w_28) then (ofSlots (C.ti Q4) (List.take (C.ti Q4).size (List.drop 6 c2))) else none)) fun v50 =>
 iT v46 fun w_30 =>
 iT v46 fun w_31 =>
 chkP w_30 w_31 fun _ =>
 iT v46 fun w_32 =>
 bind1 (gd w_32 (bif (w_30 && w_31) then (ofSlots (C.ti Q4) (List.take (C.ti Q4).size (List.drop 6 c3))) else none)) fun v53 =>
 iT v46 fun w_33 =>
 cg w_33 ZU [v50, v53] s fun v54 s_1 =>
 pk v46 v54 (bv false) fun v55 =>
 some (.ret v55, s_1) := (Q7 _ _ _).trans (by kernel_rfl)
noncomputable def Q0j : Slot → Slot → List Slot → List Slot → Slot → Slot → Slot → St → Res := fun x0_1 x4_1 x6 x7 x21_1 x22_1 x23_1 s => pwD Zr [.seqR, .seqR, .seqR, .seqR, .seqL, .seqR, .block, .loop, .seqR, .seqR, .seqL, .block, .seqR, .seqR, .seqR] Try.f10 [(0, .s x0_1), (4, .s x4_1), (6, .var x6), (7, .var x7), (21, .s x21_1), (22, .s x22_1), (23, .s x23_1)] s
noncomputable def Zz : Slot → Slot → Slot → Slot → Slot → St → Res := fun x0_2 x4_2 x91 x92 x93 s => lpD Zr [.seqR, .seqR, .seqR, .seqR, .seqR, .seqL, .seqR, .block] Try.f10 [(0, .s x0_2), (4, .s x4_2), (91, .s x91), (92, .s x92), (93, .s x93)] s
noncomputable def Zf : Slot → Slot → Slot → Slot → Slot → St → Res := fun x0 x4 x21 x22 x23 s => lpD Zr [.seqR, .seqR, .seqR, .seqR, .seqL, .seqR, .block] Try.f10 [(0, .s x0), (4, .s x4), (21, .s x21), (22, .s x22), (23, .s x23)] s
theorem Q17 : ∀ x0_1 x4_1 x6 x7 x21_1 x22_1 x23_1 s_5, Q0j x0_1 x4_1 x6 x7 x21_1 x22_1 x23_1 s_5 =
 ln Qx x4_1 fun v43 =>
 gC Qa 0 x7 fun v45 =>
 bn Qa .eql v45 (iv 3) fun v46 =>
 iT v46 fun w =>
 iT v46 fun w_1 =>
 gB w_1 Q1 .gtr (gdV w v43) (iv 0) fun v49 =>
 pk v46 v49 (bv false) fun v50 =>
 iT v50 fun w_2 =>
 iT v50 fun w_3 =>
 iT v50 fun w_4 =>
 gB w_4 Q1 .sub (gdV w_3 v43) (iv 1) fun v54 =>
 iT v50 fun w_5 =>
 bind1 (gd w_5 (ixS (C.ti Qc).size (gdV w_2 x4_1) v54)) fun v55 =>
 iT v50 fun w_6 =>
 bind1 (gd w_6 (faV 0 v55)) fun v56 =>
 iT v50 fun w_7 =>
 bind1 (gd w_7 (ldV (C.ti Qa) false s_5 v56)) fun v57 =>
 iT v50 fun w_8 =>
 gB w_8 Qa .eql v57 (iv 3) fun v58 =>
 pk v50 v58 (bv false) fun v59 =>
 iT v59 fun w_9 =>
 iT v59 fun w_10 =>
 iT v59 fun w_11 =>
 gB w_11 Q1 .sub (gdV w_10 v43) (iv 1) fun v63 =>
 iT v59 fun w_12 =>
 bind1 (gd w_12 (ixS (C.ti Qc).size (gdV w_9 x4_1) v63)) fun v64 =>
 iT v59 fun w_13 =>
 bind1 (gd w_13 (faV 2 v64)) fun v65 =>
 iT v59 fun w_14 =>
 bind1 (gd w_14 (ldV (C.ti Q2) false s_5 v65)) fun v66 =>
 iT v59 fun w_15 =>
 iT v59 fun w_16 =>
 gG w_16 w_15 Q2 1 x6 fun v68 =>
 iT v59 fun w_17 =>
 gB w_17 Q2 .eql v66 v68 fun v69 =>
 pk v59 v69 (bv false) fun v70 =>
 condS v70 (
 bn Q1 .sub v43 (iv 1) fun v73 =>
 bn Q1 .sub v43 (iv 1) fun v76 =>
 ix Qc x4_1 v76 fun v77 =>
 fa 4 v77 fun v78 =>
 ld Qq s_5 v78 fun v79 =>
 gA Q5 x6 fun v80 =>
 cn Q0b [v80] s_5 fun v81 s_6 =>
 bs Qh [v81] fun v82 =>
 bind2 (appendV Qh (C.ti Qh) s_6 v79 v82) fun v83 s_7 =>
 ix Qc x4_1 v73 fun v84 =>
 fa 4 v84 fun v85 =>
 bx Qq v83 fun c_3 =>
 sto s_7 v85 c_3 fun s_8 =>
 nx x23_1 fun v90 =>
 Zf x0_1 x4_1 x21_1 x22_1 v90 s_8) (
 gA Qc x7 fun v87 =>
 bs Qc [v87] fun v88 =>
 bind2 (appendV Qc (C.ti Qc) s_5 x4_1 v88) fun v89 s_9 =>
 nx x23_1 fun v90_1 =>
 Zf x0_1 v89 x21_1 x22_1 v90_1 s_9) := by intros; unfold Q0j; exact (Q1x _).trans (by kernel_rfl)
theorem Q2G : ∀ x0_2 x4_2 x91 x92 x93 s_11, Zz x0_2 x4_2 x91 x92 x93 s_11 =
 bn Q1 .lss x93 x92 fun v94 =>
 condS v94 (
 ix Qc x91 x93 fun v95 =>
 ld Qc s_11 v95 fun v96 =>
 bx Qc v96 fun c_4 =>
 pZ Qc c_4 fun c10 =>
 gA Qc c10 fun v97 =>
 bs Qc [v97] fun v98 =>
 ca Q2A [v98] s_11 fun v99 s_12 =>
 bind1 (fieldS (C.ti Q6) (C.ti Qs) 0 v99) fun v100 =>
 bn Qs .neq v100 (iv 0) fun v101 =>
 condS v101 (
 some (.ret (bv false), s_12)) (
 nx x93 fun v102 =>
 Zz x0_2 x4_2 x91 x92 v102 s_12)) (
 ca Q2Z [x4_2] s_11 fun v105 s_13 =>
 ex v105 0 fun v106 =>
 ex v105 1 fun v107 =>
 bx Q6 v107 fun c_5 =>
 pZ Q6 c_5 fun c12 =>
 gC Qs 0 c12 fun v109 =>
 bn Qs .eql v109 (iv 0) fun v110 =>
 iT v110 fun w_18 =>
 iT v110 fun w_19 =>
 iT v110 fun w_20 =>
 cg w_20 Qn [(gdV w_18 x0_2), (gdV w_19 v106), (.val (.fn Q0T []))] s_13 fun v114 s_14 =>
 pk v110 v114 (bv false) fun v115 =>
 some (.ret v115, s_14)) := by intros; unfold Zz; exact (Qi _ _ _ _ _ _).trans (by kernel_rfl)
theorem Q2F : ∀ x0 x4 x21 x22 x23 s_2, Zf x0 x4 x21 x22 x23 s_2 =
 bn Q1 .lss x23 x22 fun v24 =>
 condS v24 (
 ix Q5 x21 x23 fun v25 =>
 ld Q5 s_2 v25 fun v26 =>
 bx Q5 v26 fun c =>
 pZ Q5 c fun c6 =>
 gC Q2 1 c6 fun v28 =>
 gC Q1 5 c6 fun v31 =>
 gA Q5 c6 fun v32 =>
 cn Q0b [v32] s_2 fun v33 s_3 =>
 bind2 (bslV Qh (C.ti Qh) s_3 [v33]) fun v34 s_4 =>
 bd Qc [(0, Qa, (iv 3)), (2, Q2, v28), (3, Q1, v31), (4, Qq, v34)] fun v35 =>
 bx Qc v35 fun c_1 =>
 pZ Qc c_1 fun c7 =>
 gC Q2 1 c6 fun v37 =>
 bn Q2 .eql v37 (sv [101, 120, 110]) fun v38 =>
 condS v38 (
 gC Qq 4 c7 fun v40 =>
 bd Qc [(0, Qa, (iv 4)), (4, Qq, v40)] fun v41 =>
 bx Qc v41 fun c_2 =>
 pt c7 0 c_2 fun c7_1 =>
 Q0j x0 x4 c6 c7_1 x21 x22 x23 s_4) (
 Q0j x0 x4 c6 c7 x21 x22 x23 s_4)) (
 bind2 (frzSlot C.ti x4 s_2) fun v4 s_10 =>
 ln Qx v4 fun v92 =>
 Zz x0 v4 v4 v92 (iv 0) s_10) := by intros; unfold Zf; exact (Qi _ _ _ _ _ _).trans (by kernel_rfl)
theorem Q8h (a0 : AV) (s : St) : cw (.f Zr) [a0] s =
 ca ZR [] s fun v13 s_1 =>
 ln QG v13 fun v14 =>
 ln QG (.val a0) fun v16 =>
 bn Q1 .lss v16 v14 fun v18 =>
 condS v18 (
 some (.ret (bv false), s_1)) (
 bind1 (sliceS (C.ti QG) (C.ti Q5).size (.val a0) (some v14) none none) fun v21 =>
 ln QG v21 fun v22 =>
 Zf (.val a0) (.val (.nils)) v21 v22 (iv 0) s_1) := (Q7 _ _ _).trans (by kernel_rfl)
theorem Q7v (s : St) : cw (.f Q28) [] s =
 bd Qh [(0, Q2, (sv [78, 111, 110, 101]))] fun v6 =>
 bd Q4 [(0, Qg, (iv 1))] fun v7 =>
 bd Qh [(0, Q2, (sv [83, 111, 109, 101])), (2, Qe, (bv true)), (3, Q4, v7)] fun v8 =>
 bs Qh [v6, v8] fun v9 =>
 bd Qc [(0, Qa, (iv 3)), (2, Q2, (sv [111, 112, 116])), (3, Q1, (iv 1)), (4, Qq, v9)] fun v10 =>
 bx Qc v10 fun c =>
 pZ Qc c fun c1 =>
 cn ZR [] s fun v12 s_1 =>
 gA Qc c1 fun v13 =>
 cn QS [v12, v13] s_1 fun v14 s_2 =>
 ex v14 0 fun v15 =>
 ex v14 1 fun v16 =>
 bx Q6 v16 fun c_1 =>
 pZ Q6 c_1 fun c3 =>
 ca Q0R [v15, (sv [83, 111, 109, 101])] s_2 fun v19 s_3 =>
 ex v19 0 fun v20 =>
 ex v19 1 fun v21 =>
 bx Q5 v20 fun c_2 =>
 pZ Q5 c_2 fun c4 =>
 ln QG v15 fun v23 =>
 bn Q1 .eql v23 (iv 8) fun v24 =>
 iT v24 fun w =>
 bind1 (gd w (ofSlots (C.ti Q6) (List.take (C.ti Q6).size c3))) fun v26 =>
 iT v24 fun w_1 =>
 bind1 (gd w_1 (buildS (C.ti Q6).zero [])) fun v27 =>
 iT v24 fun w_2 =>
 gB w_2 Q6 .eql v26 v27 fun v28 =>
 pk v24 v28 (bv false) fun v29 =>
 iT v29 fun w_3 =>
 pk v29 (gdV w_3 v21) (bv false) fun v32 =>
 iT v32 fun w_4 =>
 iT v32 fun w_5 =>
 gG w_5 w_4 Q1 2 c4 fun v35 =>
 iT v32 fun w_6 =>
 gB w_6 Q1 .eql v35 (iv 1) fun v36 =>
 pk v32 v36 (bv false) fun v37 =>
 iT v37 fun w_7 =>
 iT v37 fun w_8 =>
 gG w_8 w_7 Q1 3 c4 fun v40 =>
 iT v37 fun w_9 =>
 gB w_9 Q1 .eql v40 (iv 2) fun v41 =>
 pk v37 v41 (bv false) fun v42 =>
 iT v42 fun w_10 =>
 iT v42 fun w_11 =>
 chkP w_10 w_11 fun _ =>
 iT v42 fun w_12 =>
 bind1 (gd w_12 (bif (w_10 && w_11) then (ofSlots (C.ti Q1) (List.take (C.ti Q1).size (List.drop 5 c4))) else none)) fun v46 =>
 iT v42 fun w_13 =>
 gB w_13 Q1 .eql v46 (iv 1) fun v47 =>
 pk v42 v47 (bv false) fun v48 =>
 iT v48 fun w_14 =>
 iT v48 fun w_15 =>
 chkP w_14 w_15 fun _ =>
 iT v48 fun w_16 =>
 chkP (w_14 && w_15) w_16 fun _ =>
 iT v48 fun w_17 =>
 bind1 (gd w_17 (bif ((w_14 && w_15) && w_16) then (ofSlots (C.ti Q2) (List.take (C.ti Q2).size (List.drop 8 c4))) else none)) fun v53 =>
 iT v48 fun w_18 =>
 gB w_18 Q2 .eql v53 (sv [45, 62]) fun v54 =>
 pk v48 v54 (bv false) fun v55 =>
 iT v55 fun w_19 =>
 iT v55 fun w_20 =>
 cg w_20 Zr [(gdV w_19 v15)] s_3 fun v58 s_4 =>
 pk v55 v58 (bv false) fun v59 =>
 some (.ret v59, s_4) := (Q7 _ _ _).trans (by kernel_rfl)
theorem Q8l (a0 : AV) (a1 : AV) (a2 : AV) (a3 : AV) (s : St) : cw (.f Z5) [a0, a1, a2, a3] s =
 ca Q1K [(.val a1), (.val (.nils))] s fun v14 s_1 =>
 bd Zs [(1, Q4, v14)] fun v15 =>
 bd Q5 [(0, Q2, (.val a0)), (1, Q2, (.val a1)), (2, Q1, (.val a2)), (3, Q1, (.val a3)), (5, Zs, v15)] fun v16 =>
 bx Q5 v16 fun c =>
 pZ Q5 c fun c8 =>
 gA Q5 c8 fun v => some (.ret v, s_1) := (Q7 _ _ _).trans (by kernel_rfl)
theorem Q7y (a0 : AV) (s : St) : cw (.f Q29) [a0] s =
 bd Q4 [(0, Qg, (iv 2)), (2, Q2, (.val a0))] fun v4 =>
 bx Q4 v4 fun c =>
 pZ Q4 c fun c2 =>
 gA Q4 c2 fun v => some (.ret v, s) := (Q7 _ _ _).trans (by kernel_rfl)
noncomputable def Q0k : List Slot → List Slot → Slot → Slot → Slot → St → Res := fun x1 x2 x10 x11 x12 s => lpD ZS [.seqR, .seqR, .seqL, .seqR, .block] Try.f17 [(1, .var x1), (2, .var x2), (10, .s x10), (11, .s x11), (12, .s x12)] s
theorem Q0f : ∀ x1 x2 x10 x11 x12 s_2, Q0k x1 x2 x10 x11 x12 s_2 =
 bn Q1 .lss x12 x11 fun v13 =>
 condS v13 (
 ix Q4 x10 x12 fun v15 =>
 ld Q4 s_2 v15 fun v16 =>
 bx Q4 v16 fun c_1 =>
 pZ Q4 c_1 fun c4 =>
 gC Q9 3 x1 fun v18 =>
 gA Q4 c4 fun v20 =>
 cn ZS [v20] s_2 fun v21 s_3 =>
 ix Q4 v18 x12 fun v22 =>
 bx Q4 v21 fun c_2 =>
 sto s_3 v22 c_2 fun s_4 =>
 nx x12 fun v23 =>
 Q0k x1 x2 x10 x11 v23 s_4) (
 bindLS (frzSlots C.ti x1 s_2) fun c1_2 s_5 =>
 gA Q4 c1_2 fun v24 =>
 bx Q4 v24 fun c_3 =>
 pt x2 0 c_3 fun c2 =>
 gA Q4 c2 fun v => some (.ret v, s_5)) := by intros; unfold Q0k; exact (Qi _ _ _ _ _ _).trans (by kernel_rfl)
theorem Q8j (a0 : AV) (s : St) : cw (.f ZS) [a0] s =
 bx Q4 (.val a0) fun c1 =>
 gC Q9 3 c1 fun v6 =>
 ca QP [v6] s fun v7 s_1 =>
 bx Q9 v7 fun c =>
 pt c1 3 c fun c1_1 =>
 gC Q9 3 c1_1 fun v10 =>
 ln Q9 v10 fun v11 =>
 Q0k c1_1 ((List.map .val (C.ti Q4).zero)) v10 v11 (iv 0) s_1 := (Q7 _ _ _).trans (by kernel_rfl)
noncomputable def ZH : List Slot → List Slot → Slot → St → Res := fun x2 x3 x5 s => lpD ZU [.seqR, .seqR, .seqL, .seqR, .block] Try.f18 [(2, .var x2), (3, .var x3), (5, .s x5)] s
theorem Q23 : ∀ x2 x3 x5 s_1, ZH x2 x3 x5 s_1 =
 gC Q9 3 x2 fun v36 =>
 ln Q9 v36 fun v37 =>
 bn Q1 .lss x5 v37 fun v38 =>
 condS v38 (
 gC Q9 3 x2 fun v42 =>
 ix Q4 v42 x5 fun v44 =>
 ld Q4 s_1 v44 fun v45 =>
 gC Q9 3 x3 fun v47 =>
 ix Q4 v47 x5 fun v49 =>
 ld Q4 s_1 v49 fun v50 =>
 cn ZU [v45, v50] s_1 fun v51 s_2 =>
 nt v51 fun v52 =>
 condS v52 (
 some (.ret (bv false), s_2)) (
 nx x5 fun v40 =>
 ZH x2 x3 v40 s_2)) (
 some (.ret (bv true), s_1)) := by intros; unfold ZH; exact (Qi _ _ _ _ _ _).trans (by kernel_rfl)
theorem Q6W (a0 : AV) (a1 : AV) (s : St) : cw (.f ZU) [a0, a1] s =
 bx Q4 (.val a0) fun c2 =>
 bx Q4 (.val a1) fun c3 =>
 gC Qg 0 c2 fun v7 =>
 gC Qg 0 c3 fun v9 =>
 bn Qg .neq v7 v9 fun v10 =>
 iF v10 fun w =>
 iF v10 fun w_1 =>
 gG w_1 w Q1 1 c2 fun v13 =>
 iF v10 fun w_2 =>
 iF v10 fun w_3 =>
 gG w_3 w_2 Q1 1 c3 fun v15 =>
 iF v10 fun w_4 =>
 gB w_4 Q1 .neq v13 v15 fun v16 =>
 pk v10 (bv true) v16 fun v17 =>
 iF v17 fun w_5 =>
 iF v17 fun w_6 =>
 gG w_6 w_5 Q2 2 c2 fun v20 =>
 iF v17 fun w_7 =>
 iF v17 fun w_8 =>
 gG w_8 w_7 Q2 2 c3 fun v22 =>
 iF v17 fun w_9 =>
 gB w_9 Q2 .neq v20 v22 fun v23 =>
 pk v17 (bv true) v23 fun v24 =>
 iF v24 fun w_10 =>
 iF v24 fun w_11 =>
 gG w_11 w_10 Q9 3 c2 fun v27 =>
 iF v24 fun w_12 =>
 gL w_12 Q9 v27 fun v28 =>
 iF v24 fun w_13 =>
 iF v24 fun w_14 =>
 gG w_14 w_13 Q9 3 c3 fun v30 =>
 iF v24 fun w_15 =>
 gL w_15 Q9 v30 fun v31 =>
 iF v24 fun w_16 =>
 gB w_16 Q1 .neq v28 v31 fun v32 =>
 pk v24 (bv true) v32 fun v33 =>
 condS v33 (
 some (.ret (bv false), s)) (
 ZH c2 c3 (iv 0) s) := (Q7 _ _ _).trans (by kernel_rfl)
theorem Q5r (a0 : AV) (s : St) : cw (.f Q0b) [a0] s =
 bx Q5 (.val a0) fun c1 =>
 gC Q2 0 c1 fun v5 =>
 gC Qe 4 c1 fun v7 =>
 bd Qh [(0, Q2, v5), (2, Qe, v7)] fun v8 =>
 bx Qh v8 fun c =>
 pZ Qh c fun c3 =>
 gC Qe 4 c1 fun v10 =>
 iT v10 fun w =>
 iT v10 fun w_1 =>
 chkP w w_1 fun _ =>
 iT v10 fun w_2 =>
 chkP (w && w_1) w_2 fun _ =>
 iT v10 fun w_3 =>
 bind1 (gd w_3 (bif ((w && w_1) && w_2) then (ofSlots (C.ti Q9) (List.take (C.ti Q9).size (List.drop 9 c1))) else none)) fun v15 =>
 iT v10 fun w_4 =>
 gL w_4 Q9 v15 fun v16 =>
 iT v10 fun w_5 =>
 gB w_5 Q1 .eql v16 (iv 2) fun v17 =>
 pk v10 v17 (bv false) fun v18 =>
 condS v18 (
 gC Q9 9 c1 fun v22 =>
 ix Q4 v22 (iv 0) fun v23 =>
 ld Q4 s v23 fun v24 =>
 bx Q4 v24 fun c_1 =>
 pt c3 3 c_1 fun c3_1 =>
 gA Qh c3_1 fun v26 =>
 bx Qh v26 fun c_2 =>
 pZ Qh c_2 fun c2 =>
 gA Qh c2 fun v => some (.ret v, s)) (
 gA Qh c3 fun v26_1 =>
 bx Qh v26_1 fun c_3 =>
 pZ Qh c_3 fun c2_1 =>
 gA Qh c2_1 fun v => some (.ret v, s)) := (Q7 _ _ _).trans (by kernel_rfl)
theorem Q8s (a0 : AV) (s : St) : cw (.f Q2A) [a0] s =
 bx Qx (.val a0) fun c1 =>
 bindA (avs c1) fun l1 =>
 ld Qx s (.val (.cp l1)) fun v3 =>
 ca Q1J [v3] s fun v4 s_1 =>
 bind1 (fnS Q1I [(.val (.cp l1))]) fun v5 =>
 ca Q1j [v4, v5] s_1 fun v6 s_2 =>
 bx Q6 v6 fun c =>
 pZ Q6 c fun c2 =>
 gA Q6 c2 fun v => some (.ret v, s_2) := (Q7 _ _ _).trans (by kernel_rfl)
noncomputable def Q1r : List Slot → Slot → Slot → Slot → Slot → St → Res := fun x3 x4 x10 x11 x12 s => lpD Q2Z [.seqR, .seqR, .seqL, .seqR, .block] Try.f21 [(3, .var x3), (4, .s x4), (10, .s x10), (11, .s x11), (12, .s x12)] s
theorem Q4b : ∀ x3 x4 x10 x11 x12 s_2, Q1r x3 x4 x10 x11 x12 s_2 =
 bn Q1 .lss x12 x11 fun v13 =>
 condS v13 (
 ix Qc x10 x12 fun v14 =>
 ld Qc s_2 v14 fun v15 =>
 bx Qc v15 fun c =>
 pZ Qc c fun c6 =>
 gA Qc c6 fun v18 =>
 ca QS [x4, v18] s_2 fun v19 s_3 =>
 ex v19 0 fun v20 =>
 ex v19 1 fun v21 =>
 bx Q6 v21 fun c_1 =>
 pZ Q6 c_1 fun c8 =>
 gC Qs 0 c8 fun v23 =>
 bn Qs .neq v23 (iv 0) fun v24 =>
 condS v24 (
 gA Q6 c8 fun v25 =>
 bx Q6 v25 fun c_2 =>
 pt x3 0 c_2 fun c3 =>
 rt [(some (.val (.nils))), (ofSlots (C.ti Q6) (List.take (C.ti Q6).size c3))] s_3) (
 nx x12 fun v27 =>
 Q1r x3 v20 x10 x11 v27 s_3)) (
 bd Q6 [] fun v29 =>
 bx Q6 v29 fun c_3 =>
 pt x3 0 c_3 fun c3_1 =>
 rt [(some x4), (ofSlots (C.ti Q6) (List.take (C.ti Q6).size c3_1))] s_2) := by intros; unfold Q1r; exact (Qi _ _ _ _ _ _).trans (by kernel_rfl)
theorem Qaw (a0 : AV) (s : St) : cw (.f Q2Z) [a0] s =
 ca ZR [] s fun v9 s_1 =>
 ln Qx (.val a0) fun v11 =>
 Q1r ((List.map .val (C.ti Q6).zero)) v9 (.val a0) v11 (iv 0) s_1 := (Q7 _ _ _).trans (by kernel_rfl)
noncomputable def Qj : Slot → Slot → Slot → Slot → Slot → St → Res := fun x1 x2 x15 x16 x17 s => lpD Qn [.seqR, .seqR, .seqL, .seqR, .block] Try.f22 [(1, .s x1), (2, .s x2), (15, .s x15), (16, .s x16), (17, .s x17)] s
theorem QH : ∀ x1 x2 x15 x16 x17 s_1, Qj x1 x2 x15 x16 x17 s_1 =
 bn Q1 .lss x17 x16 fun v18 =>
 condS v18 (
 ix Q5 x15 x17 fun v20 =>
 ld Q5 s_1 v20 fun v21 =>
 bx Q5 v21 fun c =>
 pZ Q5 c fun c8 =>
 ix Q5 x1 x17 fun v24 =>
 ld Q5 s_1 v24 fun v25 =>
 bx Q5 v25 fun c_1 =>
 pZ Q5 c_1 fun c9 =>
 gA Q5 c8 fun v27 =>
 gA Q5 c9 fun v28 =>
 back (cal cw true (tgtV x2 [v27, v28]) s_1) fun v29 s_2 =>
 nt v29 fun v30 =>
 condS v30 (
 some (.ret (bv false), s_2)) (
 nx x17 fun v31 =>
 Qj x1 x2 x15 x16 v31 s_2)) (
 some (.ret (bv true), s_1)) := by intros; unfold Qj; exact (Qi _ _ _ _ _ _).trans (by kernel_rfl)
theorem ZO (a0 : AV) (a1 : AV) (a2 : AV) (s : St) : cw (.f Qn) [a0, a1, a2] s =
 ln QG (.val a0) fun v11 =>
 ln QG (.val a1) fun v13 =>
 bn Q1 .neq v11 v13 fun v14 =>
 condS v14 (
 some (.ret (bv false), s)) (
 ln QG (.val a0) fun v16 =>
 Qj (.val a1) (.val a2) (.val a0) v16 (iv 0) s) := (Q7 _ _ _).trans (by kernel_rfl)
theorem Q8K (a0 : AV) (a1 : AV) (s : St) : cw (.f Q0T) [a0, a1] s =
 bx Q5 (.val a0) fun c2 =>
 bx Q5 (.val a1) fun c3 =>
 gC Q2 0 c2 fun v6 =>
 gC Q2 0 c3 fun v8 =>
 bn Q2 .eql v6 v8 fun v9 =>
 iT v9 fun w =>
 iT v9 fun w_1 =>
 gG w_1 w Q2 1 c2 fun v12 =>
 iT v9 fun w_2 =>
 iT v9 fun w_3 =>
 gG w_3 w_2 Q2 1 c3 fun v14 =>
 iT v9 fun w_4 =>
 gB w_4 Q2 .eql v12 v14 fun v15 =>
 pk v9 v15 (bv false) fun v16 =>
 iT v16 fun w_5 =>
 iT v16 fun w_6 =>
 gG w_6 w_5 Q1 2 c2 fun v19 =>
 iT v16 fun w_7 =>
 iT v16 fun w_8 =>
 gG w_8 w_7 Q1 2 c3 fun v21 =>
 iT v16 fun w_9 =>
 gB w_9 Q1 .eql v19 v21 fun v22 =>
 pk v16 v22 (bv false) fun v23 =>
 iT v23 fun w_10 =>
 iT v23 fun w_11 =>
 gG w_11 w_10 Q1 3 c2 fun v26 =>
 iT v23 fun w_12 =>
 iT v23 fun w_13 =>
 gG w_13 w_12 Q1 3 c3 fun v28 =>
 iT v23 fun w_14 =>
 gB w_14 Q1 .eql v26 v28 fun v29 =>
 pk v23 v29 (bv false) fun v30 =>
 iT v30 fun w_15 =>
 iT v30 fun w_16 =>
 gG w_16 w_15 Qe 4 c2 fun v33 =>
 iT v30 fun w_17 =>
 iT v30 fun w_18 =>
 gG w_18 w_17 Qe 4 c3 fun v35 =>
 iT v30 fun w_19 =>
 gB w_19 Qe .eql v33 v35 fun v36 =>
 pk v30 v36 (bv false) fun v37 =>
 iT v37 fun w_20 =>
 iT v37 fun w_21 =>
 chkP w_20 w_21 fun _ =>
 iT v37 fun w_22 =>
 bind1 (gd w_22 (bif (w_20 && w_21) then (ofSlots (C.ti Q1) (List.take (C.ti Q1).size (List.drop 5 c2))) else none)) fun v41 =>
 iT v37 fun w_23 =>
 iT v37 fun w_24 =>
 chkP w_23 w_24 fun _ =>
 iT v37 fun w_25 =>
 bind1 (gd w_25 (bif (w_23 && w_24) then (ofSlots (C.ti Q1) (List.take (C.ti Q1).size (List.drop 5 c3))) else none)) fun v44 =>
 iT v37 fun w_26 =>
 gB w_26 Q1 .eql v41 v44 fun v45 =>
 pk v37 v45 (bv false) fun v46 =>
 iT v46 fun w_27 =>
 iT v46 fun w_28 =>
 chkP w_27 w_28 fun _ =>
 iT v46 fun w_29 =>
 bind1 (gd w_29 (bif (w_27 && w_28) then (ofSlots (C.ti Q4) (List.take (C.ti Q4).size (List.drop 6 c2))) else none)) fun v50 =>
 iT v46 fun w_30 =>
 iT v46 fun w_31 =>
 chkP w_30 w_31 fun _ =>
 iT v46 fun w_32 =>
 bind1 (gd w_32 (bif (w_30 && w_31) then (ofSlots (C.ti Q4) (List.take (C.ti Q4).size (List.drop 6 c3))) else none)) fun v53 =>
 iT v46 fun w_33 =>
 cg w_33 Q1a [v50, v53] s fun v54 s_1 =>
 pk v46 v54 (bv false) fun v55 =>
 some (.ret v55, s_1) := (Q7 _ _ _).trans (by kernel_rfl)
noncomputable def Q0r : List Slot → Slot → List Slot → St → Res := fun x5_4 x6_4 x18_2 s => pwD QS [.seqR, .scope, .seqR, .seqR, .seqR, .seqR, .seqR, .seqR, .seqR, .seqR, .seqR, .seqR, .seqR] Try.f24 [(5, .var x5_4), (6, .s x6_4), (18, .var x18_2)] s
noncomputable def Q1R : List Slot → List Slot → Slot → Slot → Slot → Slot → Slot → Slot → List Slot → Slot → List Slot → List Slot → List Slot → Slot → Slot → Slot → St → Res := fun x3_4 x5_5 x6_5 x7_4 x8_4 x9_4 x10_4 x13_3 x16_2 x17_2 x18_3 x20_1 x25 x90_2 x91_2 x92_2 s => pwD QS [.seqR, .scope, .seqR, .seqR, .seqR, .seqR, .seqR, .seqR, .seqR, .seqR, .seqR, .seqR, .seqL, .seqR, .block, .loop, .seqR, .seqR, .seqL, .block, .seqR, .seqR, .seqR, .seqR, .seqR, .seqR, .seqR, .seqR] Try.f24 [(3, .var x3_4), (5, .var x5_5), (6, .s x6_5), (7, .s x7_4), (8, .s x8_4), (9, .s x9_4), (10, .s x10_4), (13, .s x13_3), (16, .var x16_2), (17, .s x17_2), (18, .var x18_3), (20, .var x20_1), (25, .var x25), (90, .s x90_2), (91, .s x91_2), (92, .s x92_2)] s
noncomputable def Zk : List Slot → List Slot → Slot → Slot → Slot → Slot → Slot → Slot → List Slot → Slot → List Slot → List Slot → Slot → Slot → Slot → Slot → Slot → St → Res := fun x3_3 x5_3 x6_3 x7_3 x8_3 x9_3 x10_3 x13_2 x16_1 x17_1 x18_1 x20 x21 x22 x90_1 x91_1 x92_1 s => pwD QS [.seqR, .scope, .seqR, .seqR, .seqR, .seqR, .seqR, .seqR, .seqR, .seqR, .seqR, .seqR, .seqL, .seqR, .block, .loop, .seqR, .seqR, .seqL, .block, .seqR, .seqR, .seqR, .seqR] Try.f24 [(3, .var x3_3), (5, .var x5_3), (6, .s x6_3), (7, .s x7_3), (8, .s x8_3), (9, .s x9_3), (10, .s x10_3), (13, .s x13_2), (16, .var x16_1), (17, .s x17_1), (18, .var x18_1), (20, .var x20), (21, .s x21), (22, .s x22), (90, .s x90_1), (91, .s x91_1), (92, .s x92_1)] s
noncomputable def Q0V : List Slot → List Slot → Slot → Slot → Slot → Slot → Slot → Slot → List Slot → Slot → List Slot → Slot → Slot → Slot → St → Res := fun x3_2 x5_2 x6_2 x7_2 x8_2 x9_2 x10_2 x13_1 x16 x17 x18 x90 x91 x92 s => lpD QS [.seqR, .scope, .seqR, .seqR, .seqR, .seqR, .seqR, .seqR, .seqR, .seqR, .seqR, .seqR, .seqL, .seqR, .block] Try.f24 [(3, .var x3_2), (5, .var x5_2), (6, .s x6_2), (7, .s x7_2), (8, .s x8_2), (9, .s x9_2), (10, .s x10_2), (13, .s x13_1), (16, .var x16), (17, .s x17), (18, .var x18), (90, .s x90), (91, .s x91), (92, .s x92)] s
noncomputable def Q0q : List Slot → List Slot → Slot → Slot → Slot → Slot → Slot → Slot → St → Res := fun x3_1 x5_1 x6_1 x7_1 x8_1 x9_1 x10_1 x13 s => pwD QS [.seqR, .scope, .seqR, .seqR, .seqR, .seqR, .seqR, .seqR, .seqR] Try.f24 [(3, .var x3_1), (5, .var x5_1), (6, .s x6_1), (7, .s x7_1), (8, .s x8_1), (9, .s x9_1), (10, .s x10_1), (13, .s x13)] s
noncomputable def ZL : List Slot → List Slot → Slot → Slot → Slot → Slot → Slot → Slot → Slot → Slot → St → Res := fun x3 x5 x6 x7 x8 x9 x10 x34 x35 x36 s => lpD QS [.seqR, .scope, .seqR, .seqR, .seqR, .seqR, .seqL, .seqR, .block] Try.f24 [(3, .var x3), (5, .var x5), (6, .s x6), (7, .s x7), (8, .s x8), (9, .s x9), (10, .s x10), (34, .s x34), (35, .s x35), (36, .s x36)] s
theorem Q3y : ∀ x5_4 x6_4 x18_2 s_10, Q0r x5_4 x6_4 x18_2 s_10 =
 gC Qs 0 x18_2 fun v165 =>
 bn Qs .neq v165 (iv 0) fun v166 =>
 condS v166 (
 gA Q6 x18_2 fun v167 =>
 bx Q6 v167 fun c_5 =>
 pt x5_4 0 c_5 fun c5_1 =>
 rt [(some (.val (.nils))), (ofSlots (C.ti Q6) (List.take (C.ti Q6).size c5_1))] s_10) (
 bd Q6 [] fun v169 =>
 bx Q6 v169 fun c_6 =>
 pt x5_4 0 c_6 fun c5_2 =>
 rt [(some x6_4), (ofSlots (C.ti Q6) (List.take (C.ti Q6).size c5_2))] s_10) := by intros; unfold Q0r; exact (Q1x _).trans (by kernel_rfl)
theorem Q3z : ∀ x3_4 x5_5 x6_5 x7_4 x8_4 x9_4 x10_4 x13_3 x16_2 x17_2 x18_3 x20_1 x25 x90_2 x91_2 x92_2 s_14, Q1R x3_4 x5_5 x6_5 x7_4 x8_4 x9_4 x10_4 x13_3 x16_2 x17_2 x18_3 x20_1 x25 x90_2 x91_2 x92_2 s_14 =
 gC Q2 0 x20_1 fun v149 =>
 gC Qe 2 x20_1 fun v154 =>
 gA Q4 x25 fun v156 =>
 bd Zs [(0, Q1, x17_2), (1, Q4, v156)] fun v157 =>
 bd Q5 [(0, Q2, v149), (1, Q2, x13_3), (2, Q1, x9_4), (3, Q1, x10_4), (4, Qe, v154), (5, Zs, v157)] fun v158 =>
 bs Q5 [v158] fun v159 =>
 ap Q5 s_14 x6_5 v159 fun v160 s_15 =>
 nx x9_4 fun v162 =>
 nx x92_2 fun v163 =>
 Q0V x3_4 x5_5 v160 x7_4 x8_4 v162 x10_4 x13_3 x16_2 x17_2 x18_3 x90_2 x91_2 v163 s_15 := by intros; unfold Q1R; exact (Q1x _).trans (by kernel_rfl)
theorem Q1M : ∀ x3_3 x5_3 x6_3 x7_3 x8_3 x9_3 x10_3 x13_2 x16_1 x17_1 x18_1 x20 x21 x22 x90_1 x91_1 x92_1 s_9, Zk x3_3 x5_3 x6_3 x7_3 x8_3 x9_3 x10_3 x13_2 x16_1 x17_1 x18_1 x20 x21 x22 x90_1 x91_1 x92_1 s_9 =
 bn Qs .neq x21 (iv 0) fun v128 =>
 condS v128 (
 gC Q1 1 x20 fun v131 =>
 bd Q6 [(0, Qs, x21), (1, Q1, v131), (2, Q2, x22)] fun v133 =>
 bx Q6 v133 fun c_4 =>
 pt x18_1 0 c_4 fun c18 =>
 Q0r x5_3 x6_3 c18 s_9) (
 gC Q2 0 x20 fun v136 =>
 lk Q2 Q1 s_9 x8_3 v136 false fun v137 =>
 nx v137 fun v138 =>
 upd2 Q2 Q1 s_9 x8_3 v136 v138 fun _ s_11 =>
 gA Q4 x16_1 fun v139 =>
 ca Q5U [v139, (.val (.nils))] s_11 fun v140 s_12 =>
 bx Q4 v140 fun c_7 =>
 pZ Q4 c_7 fun c25 =>
 gC Qe 2 x20 fun v142 =>
 condS v142 (
 gC Q4 3 x20 fun v144 =>
 gA Q4 x16_1 fun v145 =>
 ca Q7h [v144, v145] s_12 fun v146 s_13 =>
 bx Q4 v146 fun c_8 =>
 pt c25 0 c_8 fun c25_1 =>
 Q1R x3_3 x5_3 x6_3 x7_3 x8_3 x9_3 x10_3 x13_2 x16_1 x17_1 x18_1 x20 c25_1 x90_1 x91_1 x92_1 s_13) (
 Q1R x3_3 x5_3 x6_3 x7_3 x8_3 x9_3 x10_3 x13_2 x16_1 x17_1 x18_1 x20 c25 x90_1 x91_1 x92_1 s_12)) := by intros; unfold Zk; exact (Q1x _).trans (by kernel_rfl)
theorem Zp : ∀ x3_2 x5_2 x6_2 x7_2 x8_2 x9_2 x10_2 x13_1 x16 x17 x18 x90 x91 x92 s_8, Q0V x3_2 x5_2 x6_2 x7_2 x8_2 x9_2 x10_2 x13_1 x16 x17 x18 x90 x91 x92 s_8 =
 bn Q1 .lss x92 x91 fun v93 =>
 condS v93 (
 ix Qh x90 x92 fun v94 =>
 ld Qh s_8 v94 fun v95 =>
 bx Qh v95 fun c_3 =>
 pZ Qh c_3 fun c20 =>
 gC Q2 0 c20 fun v97 =>
 gC Q2 0 c20 fun v101 =>
 lk Q2 Q1 s_8 x8_2 v101 false fun v102 =>
 bn Q1 .gtr v102 (iv 0) fun v103 =>
 condS v103 (
 Zk x3_2 x5_2 x6_2 x7_2 x8_2 x9_2 x10_2 x13_1 x16 x17 x18 c20 (iv 9) v97 x90 x91 x92 s_8) (
 gC Qa 0 x3_2 fun v106 =>
 bn Qa .eql v106 (iv 4) fun v107 =>
 iT v107 fun w_3 =>
 iT v107 fun w_4 =>
 gB w_4 Q1 .gtr (gdV w_3 x9_2) (iv 1023) fun v110 =>
 pk v107 v110 (bv false) fun v111 =>
 condS v111 (
 Zk x3_2 x5_2 x6_2 x7_2 x8_2 x9_2 x10_2 x13_1 x16 x17 x18 c20 (iv 19) v97 x90 x91 x92 s_8) (
 gC Qe 2 c20 fun v114 =>
 condS v114 (
 gC Q4 3 c20 fun v119 =>
 ca Q2z [x7_2, x17, v119] s_8 fun v120 s_16 =>
 ex v120 0 fun v121 =>
 ex v120 1 fun v122 =>
 bn Qs .neq v121 (iv 0) fun v124 =>
 condS v124 (
 Zk x3_2 x5_2 x6_2 x7_2 x8_2 x9_2 x10_2 x13_1 x16 x17 x18 c20 v121 v122 x90 x91 x92 s_16) (
 Zk x3_2 x5_2 x6_2 x7_2 x8_2 x9_2 x10_2 x13_1 x16 x17 x18 c20 (iv 0) v97 x90 x91 x92 s_16)) (
 Zk x3_2 x5_2 x6_2 x7_2 x8_2 x9_2 x10_2 x13_1 x16 x17 x18 c20 (iv 0) v97 x90 x91 x92 s_8)))) (
 Q0r x5_2 x6_2 x18 s_8) := by intros; unfold Q0V; exact (Qi _ _ _ _ _ _).trans (by kernel_rfl)
theorem Q7o : ∀ x3_1 x5_1 x6_1 x7_1 x8_1 x9_1 x10_1 x13 s_6, Q0q x3_1 x5_1 x6_1 x7_1 x8_1 x9_1 x10_1 x13 s_6 =
 gA Qc x3_1 fun v85 =>
 ca Q0S [v85] s_6 fun v86 s_7 =>
 ex v86 0 fun v87 =>
 ex v86 1 fun v88 =>
 bx Q4 v87 fun c_2 =>
 pZ Q4 c_2 fun c16 =>
 gC Qq 4 x3_1 fun v90 =>
 ln Qq v90 fun v91 =>
 Q0V x3_1 x5_1 x6_1 x7_1 x8_1 x9_1 x10_1 x13 c16 v88 ((List.map .val (C.ti Q6).zero)) v90 v91 (iv 0) s_7 := by intros; unfold Q0q; exact (Q1x _).trans (by kernel_rfl)
theorem Q3A : ∀ x3 x5 x6 x7 x8 x9 x10 x34 x35 x36 s_3, ZL x3 x5 x6 x7 x8 x9 x10 x34 x35 x36 s_3 =
 bn Q1 .lss x36 x35 fun v37 =>
 condS v37 (
 ix Q5 x34 x36 fun v38 =>
 ld Q5 s_3 v38 fun v39 =>
 bx Q5 v39 fun c =>
 pZ Q5 c fun c12 =>
 gC Q2 0 c12 fun v42 =>
 lk Q2 Q1 s_3 x8 v42 false fun v43 =>
 nx v43 fun v44 =>
 upd2 Q2 Q1 s_3 x8 v42 v44 fun _ s_4 =>
 gC Qa 0 x3 fun v46 =>
 bn Qa .eql v46 (iv 4) fun v47 =>
 iT v47 fun w =>
 iT v47 fun w_1 =>
 gG w_1 w Q2 1 c12 fun v50 =>
 iT v47 fun w_2 =>
 gB w_2 Q2 .eql v50 (sv [101, 120, 110]) fun v51 =>
 pk v47 v51 (bv false) fun v52 =>
 condS v52 (
 nx x9 fun v54 =>
 nx x36 fun v55 =>
 ZL x3 x5 x6 x7 x8 v54 x10 x34 x35 v55 s_4) (
 nx x36 fun v55_1 =>
 ZL x3 x5 x6 x7 x8 x9 x10 x34 x35 v55_1 s_4)) (
 gC Q2 2 x3 fun v57 =>
 gC Qa 0 x3 fun v59 =>
 bn Qa .eql v59 (iv 3) fun v63 =>
 condS v63 (
 gC Q2 2 x3 fun v67 =>
 lk Q2 Q1 s_3 x7 v67 true fun v68 =>
 ex v68 0 fun v69 =>
 ex v68 1 fun v70 =>
 condS v70 (
 gC Q1 1 x3 fun v73 =>
 gC Q2 2 x3 fun v75 =>
 bd Q6 [(0, Qs, (iv 9)), (1, Q1, v73), (2, Q2, v75)] fun v76 =>
 bx Q6 v76 fun c_1 =>
 pt x5 0 c_1 fun c5 =>
 rt [(some (.val (.nils))), (ofSlots (C.ti Q6) (List.take (C.ti Q6).size c5))] s_3) (
 gC Q2 2 x3 fun v79 =>
 gC Q1 3 x3 fun v81 =>
 upd2 Q2 Q1 s_3 x7 v79 v81 fun _ s_5 =>
 Q0q x3 x5 x6 x7 x8 x9 x10 v57 s_5)) (
 bn Qa .eql v59 (iv 4) fun v83 =>
 condS v83 (
 Q0q x3 x5 x6 x7 x8 x9 (iv 0) (sv [101, 120, 110]) s_3) (
 bd Q6 [] fun v61 =>
 bx Q6 v61 fun c_9 =>
 pt x5 0 c_9 fun c5_3 =>
 rt [(some x6), (ofSlots (C.ti Q6) (List.take (C.ti Q6).size c5_3))] s_3))) := by intros; unfold ZL; exact (Qi _ _ _ _ _ _).trans (by kernel_rfl)
theorem Q9F (a0 : AV) (a1 : AV) (s : St) : cw (.f QS) [a0, a1] s =
 bx Qc (.val a1) fun c3 =>
 ca Q14 [(.val a0)] s fun v27 s_1 =>
 ca Q1e [(.val a0)] s_1 fun v29 s_2 =>
 gC Qq 4 c3 fun v32 =>
 ln Qq v32 fun v33 =>
 ln QG (.val a0) fun v35 =>
 ZL c3 ((List.map .val (C.ti Q6).zero)) v27 v29 (.val (.mp s_2.locs.length)) (iv 0) v33 (.val a0) v35 (iv 0) (St.addLoc s_2 (.map [] 0)) := (Q7 _ _ _).trans (by kernel_rfl)
noncomputable def Q2S : List Slot → List Slot → Slot → Slot → Slot → St → Res := fun x4 x5 x10 x11 x12 s => lpD Q1K [.seqR, .seqR, .seqL, .seqR, .block] Try.f28 [(4, .var x4), (5, .var x5), (10, .s x10), (11, .s x11), (12, .s x12)] s
theorem Q5K : ∀ x4 x5 x10 x11 x12 s_1, Q2S x4 x5 x10 x11 x12 s_1 =
 bn Q1 .lss x12 x11 fun v13 =>
 condS v13 (
 ix Q4 x10 x12 fun v14 =>
 ld Q4 s_1 v14 fun v15 =>
 bx Q4 v15 fun c_1 =>
 pZ Q4 c_1 fun c7 =>
 gC Q9 3 x5 fun v17 =>
 gA Q4 c7 fun v18 =>
 cn Q1L [v18] s_1 fun v19 s_2 =>
 bs Q4 [v19] fun v20 =>
 ap Q4 s_2 v17 v20 fun v21 s_3 =>
 bx Q9 v21 fun c_2 =>
 pt x5 3 c_2 fun c5_1 =>
 nx x12 fun v23 =>
 Q2S x4 c5_1 x10 x11 v23 s_3) (
 gA Q4 x5 fun v24 =>
 bx Q4 v24 fun c_3 =>
 pt x4 0 c_3 fun c4 =>
 gA Q4 c4 fun v => some (.ret v, s_1)) := by intros; unfold Q2S; exact (Qi _ _ _ _ _ _).trans (by kernel_rfl)
theorem QcJ (a0 : AV) (a1 : AV) (s : St) : cw (.f Q1K) [a0, a1] s =
 bd Q4 [(0, Qg, (iv 2)), (2, Q2, (.val a0))] fun v9 =>
 bx Q4 v9 fun c =>
 pZ Q4 c fun c5 =>
 ln Q9 (.val a1) fun v11 =>
 Q2S ((List.map .val (C.ti Q4).zero)) c5 (.val a1) v11 (iv 0) s := (Q7 _ _ _).trans (by kernel_rfl)
theorem ZN (a0 : AV) (s : St) : cw (.f QP) [a0] s =
 bn Q9 .eql (.val a0) (.val (.nils)) fun v4 =>
 condS v4 (
 some (.ret (.val (.nils)), s)) (
 bs Q4 [] fun v5 =>
 bind2 (appendV Q4 (C.ti Q4) s v5 (.val a0)) fun v7 s_1 =>
 some (.ret v7, s_1)) := (Q7 _ _ _).trans (by kernel_rfl)
noncomputable def Q2c (x4 : Slot) : Am.Obj := .loop .ready none Q1j [(4, .s x4)] [16] (rngAsg (codeAt [.seqR, .seqR, .seqR, .seqL, .seqR, .block] (body Try.f30))) (rngBody (codeAt [.seqR, .seqR, .seqR, .seqL, .seqR, .block] (body Try.f30)))
theorem Q69 (x4 : Slot) (y16 : AV) (loc : Nat) (s_5 : St) : yldR C (Q2c x4) loc [y16] s_5 = noPan (
 bx Qy (.val y16) fun c_2 =>
 pZ Qy c_2 fun c5 =>
 bindS (beginL loc s_5) fun s_6 =>
 gA Qy c5 fun v17 =>
 ca ZC [v17] s_6 fun v18 s_7 =>
 bx Q6 v18 fun c_3 =>
 pZ Q6 c_3 fun c6 =>
 gC Qs 0 c6 fun v20 =>
 bn Qs .neq v20 (iv 0) fun v21 =>
 condS v21 (
 gA Q6 c6 fun v22 =>
 bx Q6 v22 fun c_4 =>
 sto s_7 x4 c_4 fun s_8 =>
 bindS (setLoop loc .done (some .ret) s_8) fun s_9 =>
 some (.ret (bv false), s_9)) (
 bindS (setLoop loc .ready none s_7) fun s_10 =>
 some (.ret (bv true), s_10))) := by kernel_rfl
theorem Q8x (a0 : AV) (a1 : AV) (s : St) : cw (.f Q1j) [a0, a1] s =
 ca Q1g [(.val a0), (iv 8193)] (St.addLoc s (.var (List.map .val (C.ti Q6).zero))) fun v8 s_1 =>
 bn Q1 .gtr v8 (iv 8192) fun v9 =>
 condS v9 (
 bd Q6 [(0, Qs, (iv 4))] fun v10 =>
 bx Q6 v10 fun c =>
 sto s_1 (.val (.vp s.locs.length 0)) c fun s_2 =>
 bind1 (ldV (C.ti Q6) false s_2 (.val (.vp s.locs.length 0))) fun v => some (.ret v, s_2)) (
 back (cal cw true (tgtV (.val a1) []) s_1) fun v12 s_3 =>
 bn Q1 .gtr v12 (iv 100) fun v13 =>
 condS v13 (
 bd Q6 [(0, Qs, (iv 7))] fun v14 =>
 bx Q6 v14 fun c_1 =>
 sto s_3 (.val (.vp s.locs.length 0)) c_1 fun s_4 =>
 bind1 (ldV (C.ti Q6) false s_4 (.val (.vp s.locs.length 0))) fun v => some (.ret v, s_4)) (
 rangeC C cw (.val a0) s_3.locs.length (St.addLoc s_3 (Q2c (.val (.vp s.locs.length 0)))) fun s_11 =>
 endX s_3.locs.length s_11 (fun s_12 =>
 bd Q6 [] fun v23 =>
 bx Q6 v23 fun c_5 =>
 sto s_12 (.val (.vp s.locs.length 0)) c_5 fun s_15 =>
 bind1 (ldV (C.ti Q6) false s_15 (.val (.vp s.locs.length 0))) fun v => some (.ret v, s_15)) (fun s_13 =>
 bind1 (ldV (C.ti Q6) false s_13 (.val (.vp s.locs.length 0))) fun v => some (.ret v, s_13)) (fun j s_14 =>
 bif Nat.beq j 0 then (
 bd Q6 [] fun v23_1 =>
 bx Q6 v23_1 fun c_6 =>
 sto s_14 (.val (.vp s.locs.length 0)) c_6 fun s_16 =>
 bind1 (ldV (C.ti Q6) false s_16 (.val (.vp s.locs.length 0))) fun v => some (.ret v, s_16)) else (
(none : Res))))) := (Q7 _ _ _).trans (by kernel_rfl)
theorem Q76 (a0 : AV) (s : St) : cw (.f Q1J) [a0] s =
 bx Qx (.val a0) fun c1 =>
 bindA (avs c1) fun l1 =>
 bind1 (fnS Q16 [(.val (.cp l1))]) fun v3 =>
 some (.ret v3, s) := (Q7 _ _ _).trans (by kernel_rfl)
theorem Q70 (a0 : AV) (s : St) : cw (.f Q1I) [a0] s =
 ld Qx s (.val a0) fun v2 =>
 ca QI [v2] s fun v3 s_1 =>
 some (.ret v3, s_1) := (Q7 _ _ _).trans (by kernel_rfl)
noncomputable def Z3 : Slot → Slot → Slot → Slot → Slot → Slot → Slot → Slot → St → Res := fun x3_2 x6_1 x11_2 x12_2 x13_2 x35 x36 x37 s => lpD QI [.seqR, .seqR, .seqL, .seqR, .block, .loop, .seqR, .seqR, .seqL, .block, .seqR, .seqR, .seqR, .seqL, .seqR, .block] Try.f33 [(3, .s x3_2), (6, .s x6_1), (11, .s x11_2), (12, .s x12_2), (13, .s x13_2), (35, .s x35), (36, .s x36), (37, .s x37)] s
noncomputable def Zv : Slot → List Slot → Slot → Slot → Slot → Slot → Slot → Slot → Slot → St → Res := fun x3_1 x5 x6 x11_1 x12_1 x13_1 x21 x22 x23 s => lpD QI [.seqR, .seqR, .seqL, .seqR, .block, .loop, .seqR, .seqR, .seqL, .block, .seqR, .seqR, .seqL, .seqR, .block] Try.f33 [(3, .s x3_1), (5, .var x5), (6, .s x6), (11, .s x11_1), (12, .s x12_1), (13, .s x13_1), (21, .s x21), (22, .s x22), (23, .s x23)] s
noncomputable def QO : Slot → Slot → Slot → Slot → St → Res := fun x3 x11 x12 x13 s => lpD QI [.seqR, .seqR, .seqL, .seqR, .block] Try.f33 [(3, .s x3), (11, .s x11), (12, .s x12), (13, .s x13)] s
theorem Q1F : ∀ x3_2 x6_1 x11_2 x12_2 x13_2 x35 x36 x37 s_5, Z3 x3_2 x6_1 x11_2 x12_2 x13_2 x35 x36 x37 s_5 =
 bn Q1 .lss x37 x36 fun v38 =>
 condS v38 (
 ix Qh x35 x37 fun v39 =>
 ld Qh s_5 v39 fun v40 =>
 bx Qh v40 fun c_2 =>
 pZ Qh c_2 fun c10 =>
 gC Qe 2 c10 fun v42 =>
 condS v42 (
 gC Q4 3 c10 fun v45 =>
 ca Zw [v45] s_5 fun v46 s_6 =>
 bind1 (max2 x6_1 v46) fun v47 =>
 nx x37 fun v48 =>
 Z3 x3_2 v47 x11_2 x12_2 x13_2 x35 x36 v48 s_6) (
 nx x37 fun v48_1 =>
 Z3 x3_2 x6_1 x11_2 x12_2 x13_2 x35 x36 v48_1 s_5)) (
 nx x6_1 fun v51 =>
 bind1 (max2 x3_2 v51) fun v52 =>
 nx x13_2 fun v53 =>
 QO v52 x11_2 x12_2 v53 s_5) := by intros; unfold Z3; exact (Qi _ _ _ _ _ _).trans (by kernel_rfl)
theorem Q1E : ∀ x3_1 x5 x6 x11_1 x12_1 x13_1 x21 x22 x23 s_3, Zv x3_1 x5 x6 x11_1 x12_1 x13_1 x21 x22 x23 s_3 =
 bn Q1 .lss x23 x22 fun v24 =>
 condS v24 (
 ix Q1o x21 x23 fun v25 =>
 ld Q1o s_3 v25 fun v26 =>
 bx Q1o v26 fun c_1 =>
 pZ Q1o c_1 fun c8 =>
 gC Zg 2 c8 fun v29 =>
 bs Zg [v29] fun v30 =>
 ca QN [v30] s_3 fun v31 s_4 =>
 bind1 (max2 x6 v31) fun v32 =>
 nx x23 fun v33 =>
 Zv x3_1 x5 v32 x11_1 x12_1 x13_1 x21 x22 v33 s_4) (
 gC Qq 4 x5 fun v35 =>
 ln Qq v35 fun v36 =>
 Z3 x3_1 x6 x11_1 x12_1 x13_1 v35 v36 (iv 0) s_3) := by intros; unfold Zv; exact (Qi _ _ _ _ _ _).trans (by kernel_rfl)
theorem Q1D : ∀ x3 x11 x12 x13 s_1, QO x3 x11 x12 x13 s_1 =
 bn Q1 .lss x13 x12 fun v14 =>
 condS v14 (
 ix Qc x11 x13 fun v15 =>
 ld Qc s_1 v15 fun v16 =>
 bx Qc v16 fun c =>
 pZ Qc c fun c5 =>
 gC Qv 5 c5 fun v18 =>
 ca QN [v18] s_1 fun v19 s_2 =>
 gC Zy 6 c5 fun v21 =>
 ln Zy v21 fun v22 =>
 Zv x3 c5 v19 x11 x12 x13 v21 v22 (iv 0) s_2) (
 some (.ret x3, s_1)) := by intros; unfold QO; exact (Qi _ _ _ _ _ _).trans (by kernel_rfl)
theorem Q2P (a0 : AV) (s : St) : cw (.f QI) [a0] s =
 ln Qx (.val a0) fun v12 =>
 QO (iv 0) (.val a0) v12 (iv 0) s := (Q7 _ _ _).trans (by kernel_rfl)
theorem QaR (a0 : AV) (a1 : AV) (s : St) : cw (.f Q1a) [a0, a1] s =
 bx Q4 (.val a0) fun c2 =>
 bx Q4 (.val a1) fun c3 =>
 gC Qg 0 c2 fun v6 =>
 gC Qg 0 c3 fun v8 =>
 bn Qg .eql v6 v8 fun v9 =>
 iT v9 fun w =>
 iT v9 fun w_1 =>
 gG w_1 w Q1 1 c2 fun v12 =>
 iT v9 fun w_2 =>
 iT v9 fun w_3 =>
 gG w_3 w_2 Q1 1 c3 fun v14 =>
 iT v9 fun w_4 =>
 gB w_4 Q1 .eql v12 v14 fun v15 =>
 pk v9 v15 (bv false) fun v16 =>
 iT v16 fun w_5 =>
 iT v16 fun w_6 =>
 gG w_6 w_5 Q2 2 c2 fun v19 =>
 iT v16 fun w_7 =>
 iT v16 fun w_8 =>
 gG w_8 w_7 Q2 2 c3 fun v21 =>
 iT v16 fun w_9 =>
 gB w_9 Q2 .eql v19 v21 fun v22 =>
 pk v16 v22 (bv false) fun v23 =>
 iT v23 fun w_10 =>
 iT v23 fun w_11 =>
 gG w_11 w_10 Q9 3 c2 fun v26 =>
 iT v23 fun w_12 =>
 iT v23 fun w_13 =>
 gG w_13 w_12 Q9 3 c3 fun v28 =>
 iT v23 fun w_14 =>
 cg w_14 Qz [v26, v28, (.val (.fn Q1a []))] s fun v29 s_1 =>
 pk v23 v29 (bv false) fun v30 =>
 some (.ret v30, s_1) := (Q7 _ _ _).trans (by kernel_rfl)
noncomputable def ZZ : Slot → Slot → Slot → Slot → St → Res := fun x3 x9 x10 x11 s => lpD Q14 [.seqR, .seqR, .seqL, .seqR, .block] Try.f35 [(3, .s x3), (9, .s x9), (10, .s x10), (11, .s x11)] s
theorem Q2d : ∀ x3 x9 x10 x11 s_2, ZZ x3 x9 x10 x11 s_2 =
 bn Q1 .lss x11 x10 fun v12 =>
 condS v12 (
 ix Q5 x9 x11 fun v13 =>
 ld Q5 s_2 v13 fun v14 =>
 bx Q5 v14 fun c =>
 pZ Q5 c fun c5 =>
 gC Q4 6 c5 fun v17 =>
 ca ZS [v17] s_2 fun v18 s_3 =>
 bx Q4 v18 fun c_1 =>
 pt c5 6 c_1 fun c5_1 =>
 gA Q5 c5_1 fun v22 =>
 bs Q5 [v22] fun v23 =>
 ap Q5 s_3 x3 v23 fun v24 s_4 =>
 nx x11 fun v25 =>
 ZZ v24 x9 x10 v25 s_4) (
 some (.ret x3, s_2)) := by intros; unfold ZZ; exact (Qi _ _ _ _ _ _).trans (by kernel_rfl)
theorem Q7r (a0 : AV) (s : St) : cw (.f Q14) [a0] s =
 ln QG (.val a0) fun v7 =>
 bind2 (makeS Q5 (C.ti Q5) s (iv 0) v7) fun v8 s_1 =>
 ln QG (.val a0) fun v10 =>
 ZZ v8 (.val a0) v10 (iv 0) s_1 := (Q7 _ _ _).trans (by kernel_rfl)
noncomputable def ZA : Slot → Slot → Slot → Slot → St → Res := fun x3 x10 x11 x12 s => lpD Q1e [.seqR, .seqR, .seqL, .seqR, .block] Try.f36 [(3, .s x3), (10, .s x10), (11, .s x11), (12, .s x12)] s
theorem Q2J : ∀ x3 x10 x11 x12 s_8, ZA x3 x10 x11 x12 s_8 =
 bn Q1 .lss x12 x11 fun v13 =>
 condS v13 (
 ix Q5 x10 x12 fun v14 =>
 ld Q5 s_8 v14 fun v15 =>
 bx Q5 v15 fun c =>
 pZ Q5 c fun c5 =>
 gC Q2 1 c5 fun v19 =>
 lk Q2 Q1 s_8 x3 v19 true fun v20 =>
 ex v20 0 fun v21 =>
 ex v20 1 fun v22 =>
 nt v22 fun v24 =>
 condS v24 (
 gC Q2 1 c5 fun v27 =>
 gC Q1 5 c5 fun v30 =>
 upd2 Q2 Q1 s_8 x3 v27 v30 fun _ s_9 =>
 nx x12 fun v31 =>
 ZA x3 x10 x11 v31 s_9) (
 nx x12 fun v31_1 =>
 ZA x3 x10 x11 v31_1 s_8)) (
 some (.ret x3, s_8)) := by intros; unfold ZA; exact (Qi _ _ _ _ _ _).trans (by kernel_rfl)
theorem Q8k (a0 : AV) (s : St) : cw (.f Q1e) [a0] s =
 upd2 Q2 Q1 (St.addLoc s (.map [] 0)) (.val (.mp s.locs.length)) (sv [105, 110, 116]) (iv (-1)) fun _ s_1 =>
 upd2 Q2 Q1 s_1 (.val (.mp s.locs.length)) (sv [98, 111, 111, 108]) (iv (-1)) fun _ s_2 =>
 upd2 Q2 Q1 s_2 (.val (.mp s.locs.length)) (sv [117, 110, 105, 116]) (iv (-1)) fun _ s_3 =>
 upd2 Q2 Q1 s_3 (.val (.mp s.locs.length)) (sv [101, 120, 110]) (iv (-1)) fun _ s_4 =>
 upd2 Q2 Q1 s_4 (.val (.mp s.locs.length)) (sv [114, 101, 102]) (iv (-1)) fun _ s_5 =>
 upd2 Q2 Q1 s_5 (.val (.mp s.locs.length)) (sv [45, 62]) (iv (-1)) fun _ s_6 =>
 upd2 Q2 Q1 s_6 (.val (.mp s.locs.length)) (sv [42]) (iv (-1)) fun _ s_7 =>
 ln QG (.val a0) fun v11 =>
 ZA (.val (.mp s.locs.length)) (.val a0) v11 (iv 0) s_7 := (Q7 _ _ _).trans (by kernel_rfl)
noncomputable def Q00 : List Slot → List Slot → Slot → Slot → Slot → St → Res := fun x1 x2 x4 x11 x12 s => lpD Q0S [.seqR, .seqR, .seqR, .seqL, .seqR, .block] Try.f37 [(1, .var x1), (2, .var x2), (4, .s x4), (11, .s x11), (12, .s x12)] s
theorem Q36 : ∀ x1 x2 x4 x11 x12 s_2, Q00 x1 x2 x4 x11 x12 s_2 =
 bn Q1 .lss x12 x11 fun v13 =>
 condS v13 (
 bd Q4 [(0, Qg, (iv 1)), (1, Q1, x12)] fun v17 =>
 bs Q4 [v17] fun v18 =>
 ap Q4 s_2 x4 v18 fun v19 s_3 =>
 nx x12 fun v20 =>
 Q00 x1 x2 v19 x11 v20 s_3) (
 gC Q2 2 x1 fun v22 =>
 cn Q1K [v22, x4] s_2 fun v24 s_4 =>
 gC Q1 3 x1 fun v26 =>
 bx Q4 v24 fun c_1 =>
 pt x2 0 c_1 fun c2_1 =>
 rt [(ofSlots (C.ti Q4) (List.take (C.ti Q4).size c2_1)), (some v26)] s_4) := by intros; unfold Q00; exact (Qi _ _ _ _ _ _).trans (by kernel_rfl)
theorem Q2I (a0 : AV) (s : St) : cw (.f Q0S) [a0] s =
 bx Qc (.val a0) fun c1 =>
 gC Qa 0 c1 fun v7 =>
 bn Qa .eql v7 (iv 4) fun v8 =>
 condS v8 (
 ca Q1K [(sv [101, 120, 110]), (.val (.nils))] s fun v9 s_1 =>
 bx Q4 v9 fun c =>
 pZ Q4 c fun c2 =>
 rt [(ofSlots (C.ti Q4) (List.take (C.ti Q4).size c2)), (some (iv 0))] s_1) (
 gC Q1 3 c1 fun v11 =>
 Q00 c1 ((List.map .val (C.ti Q4).zero)) (.val (.nils)) v11 (iv 0) s) := (Q7 _ _ _).trans (by kernel_rfl)
theorem Q8m (a0 : AV) (a1 : AV) (a2 : AV) (s : St) : cw (.f Q2z) [a0, a1, a2] s =
 bx QD (.val a0) fun c3 =>
 bindA (avs c3) fun l3 =>
 bx Q1 (.val a1) fun c4 =>
 bindA (avs c4) fun l4 =>
 bx Q4 (.val a2) fun c5 =>
 bind1 (fnS ZT [(.val (.cp l4)), (.val (.cp l3)), (.val (.vp s.locs.length 0))]) fun v9 =>
 bx Qb v9 fun c =>
 sto (St.addLoc s (.var (List.map .val (C.ti Qb).zero))) (.val (.vp s.locs.length 0)) c fun s_1 =>
 ld Qb s_1 (.val (.vp s.locs.length 0)) fun v10 =>
 gA Q4 c5 fun v11 =>
 back (cal cw true (tgtV v10 [v11]) s_1) fun v12 s_2 =>
 ex v12 0 fun v13 =>
 ex v12 1 fun v14 =>
 rt [(some v13), (some v14)] s_2 := (Q7 _ _ _).trans (by kernel_rfl)
theorem QbO (a0 : AV) (a1 : AV) (s : St) : cw (.f Q5U) [a0, a1] s =
 bx Q4 (.val a0) fun c2 =>
 bx Q9 (.val a1) fun c3 =>
 bindA (avs c3) fun l3 =>
 gA Q4 c2 fun v5 =>
 bind1 (fnS Q3O [(.val (.cp l3))]) fun v6 =>
 ca Q0U [v5, v6] s fun v7 s_1 =>
 bx Q4 v7 fun c =>
 pZ Q4 c fun c4 =>
 gA Q4 c4 fun v => some (.ret v, s_1) := (Q7 _ _ _).trans (by kernel_rfl)
theorem QcI (a0 : AV) (a1 : AV) (s : St) : cw (.f Q7h) [a0, a1] s =
 bx Q4 (.val a0) fun c2 =>
 bx Q4 (.val a1) fun c3 =>
 gA Q4 c2 fun v5 =>
 gA Q4 c3 fun v6 =>
 bs Q4 [v5, v6] fun v7 =>
 ca Q1K [(sv [45, 62]), v7] s fun v8 s_1 =>
 bx Q4 v8 fun c =>
 pZ Q4 c fun c4 =>
 gA Q4 c4 fun v => some (.ret v, s_1) := (Q7 _ _ _).trans (by kernel_rfl)
noncomputable def Q27 : List Slot → List Slot → Slot → Slot → Slot → St → Res := fun x2 x3 x9 x10 x11 s => lpD Q1L [.seqR, .seqR, .seqR, .seqL, .seqR, .block] Try.f43 [(2, .var x2), (3, .var x3), (9, .s x9), (10, .s x10), (11, .s x11)] s
theorem Q5d : ∀ x2 x3 x9 x10 x11 s_1, Q27 x2 x3 x9 x10 x11 s_1 =
 bn Q1 .lss x11 x10 fun v12 =>
 condS v12 (
 ix Q4 x9 x11 fun v13 =>
 ld Q4 s_1 v13 fun v14 =>
 bx Q4 v14 fun c_2 =>
 pZ Q4 c_2 fun c5 =>
 gC Q9 3 x3 fun v16 =>
 gA Q4 c5 fun v17 =>
 cn Q1L [v17] s_1 fun v18 s_2 =>
 bs Q4 [v18] fun v19 =>
 ap Q4 s_2 v16 v19 fun v20 s_3 =>
 bx Q9 v20 fun c_3 =>
 pt x3 3 c_3 fun c3_2 =>
 nx x11 fun v22 =>
 Q27 x2 c3_2 x9 x10 v22 s_3) (
 gA Q4 x3 fun v23 =>
 bx Q4 v23 fun c_4 =>
 pt x2 0 c_4 fun c2 =>
 gA Q4 c2 fun v => some (.ret v, s_1)) := by intros; unfold Q27; exact (Qi _ _ _ _ _ _).trans (by kernel_rfl)
theorem QbP (a0 : AV) (s : St) : cw (.f Q1L) [a0] s =
 bx Q4 (.val a0) fun c1 =>
 gA Q4 c1 fun v6 =>
 bx Q4 v6 fun c =>
 pZ Q4 c fun c3 =>
 bx Q9 (.val (.nils)) fun c_1 =>
 pt c3 3 c_1 fun c3_1 =>
 gC Q9 3 c1 fun v9 =>
 ln Q9 v9 fun v10 =>
 Q27 ((List.map .val (C.ti Q4).zero)) c3_1 v9 v10 (iv 0) s := (Q7 _ _ _).trans (by kernel_rfl)
noncomputable def Q2b (x3 : Slot) (x5 : Slot) : Am.Obj := .loop .ready none Q1g [(3, .s x3), (5, .s x5)] [8] (rngAsg (codeAt [.seqR, .seqR, .seqL, .seqR, .block] (body Try.f44))) (rngBody (codeAt [.seqR, .seqR, .seqL, .seqR, .block] (body Try.f44)))
theorem Q68 (x3 : Slot) (x5 : Slot) (y8 : AV) (loc : Nat) (s_2 : St) : yldR C (Q2b x3 x5) loc [y8] s_2 = noPan (
 bx Qy (.val y8) fun c_1 =>
 pZ Qy c_1 fun c6 =>
 bindS (beginL loc s_2) fun s_3 =>
 gA Qy c6 fun v9 =>
 ca Q0P [v9] s_3 fun v10 s_4 =>
 condS v10 (
 ld Q1 s_4 x5 fun v11 =>
 nx v11 fun v12 =>
 bx Q1 v12 fun c_2 =>
 sto s_4 x5 c_2 fun s_5 =>
 ld Q1 s_5 x5 fun v13 =>
 ld Q1 s_5 x3 fun v14 =>
 bn Q1 .geq v13 v14 fun v15 =>
 condS v15 (
 bindS (setLoop loc .done (some (.exit 0)) s_5) fun s_6 =>
 some (.ret (bv false), s_6)) (
 bindS (setLoop loc .ready none s_5) fun s_7 =>
 some (.ret (bv true), s_7))) (
 ld Q1 s_4 x5 fun v13_1 =>
 ld Q1 s_4 x3 fun v14_1 =>
 bn Q1 .geq v13_1 v14_1 fun v15_1 =>
 condS v15_1 (
 bindS (setLoop loc .done (some (.exit 0)) s_4) fun s_8 =>
 some (.ret (bv false), s_8)) (
 bindS (setLoop loc .ready none s_4) fun s_9 =>
 some (.ret (bv true), s_9)))) := by kernel_rfl
theorem Q8t (a0 : AV) (a1 : AV) (s : St) : cw (.f Q1g) [a0, a1] s =
 bx Q1 (.val a1) fun c3 =>
 bindA (avs c3) fun l3 =>
 bx Q1 (iv 0) fun c =>
 sto (St.addLoc s (.var (List.map .val (C.ti Q1).zero))) (.val (.vp s.locs.length 0)) c fun s_1 =>
 rangeC C cw (.val a0) s_1.locs.length (St.addLoc s_1 (Q2b (.val (.cp l3)) (.val (.vp s.locs.length 0)))) fun s_10 =>
 endX s_1.locs.length s_10 (fun s_11 =>
 ld Q1 s_11 (.val (.vp s.locs.length 0)) fun v16 =>
 some (.ret v16, s_11)) (fun s_12 =>
 some (.ret (iv 0), s_12)) (fun j s_13 =>
 bif Nat.beq j 0 then (
 ld Q1 s_13 (.val (.vp s.locs.length 0)) fun v16_1 =>
 some (.ret v16_1, s_13)) else (
(none : Res))) := (Q7 _ _ _).trans (by kernel_rfl)
noncomputable def Qo : List Slot → List Slot → Slot → Slot → St → Res := fun x1 x2 x3 x4 s => pwD ZC [.seqR, .seqR, .seqR, .seqR] Try.f45 [(1, .var x1), (2, .var x2), (3, .s x3), (4, .s x4)] s
theorem Q3t : ∀ x1 x2 x3 x4 s_2, Qo x1 x2 x3 x4 s_2 =
 bn Qs .eql x3 (iv 0) fun v82 =>
 condS v82 (
 bd Q6 [] fun v83 =>
 bx Q6 v83 fun c =>
 pt x2 0 c fun c2 =>
 gA Q6 c2 fun v => some (.ret v, s_2)) (
 bn Qs .neq x3 (iv 8) fun v86 =>
 condS v86 (
 gC Q1 7 x1 fun v89 =>
 bd Q6 [(0, Qs, x3), (1, Q1, v89), (2, Q2, (sv []))] fun v91 =>
 bx Q6 v91 fun c_1 =>
 pt x2 0 c_1 fun c2_1 =>
 gA Q6 c2_1 fun v => some (.ret v, s_2)) (
 gC Q1 7 x1 fun v89_1 =>
 bd Q6 [(0, Qs, x3), (1, Q1, v89_1), (2, Q2, x4)] fun v91_1 =>
 bx Q6 v91_1 fun c_2 =>
 pt x2 0 c_2 fun c2_2 =>
 gA Q6 c2_2 fun v => some (.ret v, s_2))) := by intros; unfold Qo; exact (Q1x _).trans (by kernel_rfl)
theorem Q4q (a0 : AV) (s : St) : cw (.f ZC) [a0] s =
 bx Qy (.val a0) fun c1 =>
 gC Q0n 0 c1 fun v17 =>
 bn Q0n .neq v17 (.val (.nilp)) fun v18 =>
 condS v18 (
 gA Qy c1 fun v19 =>
 cn Z9 [v19] s fun v20 s_1 =>
 gC Q0n 0 c1 fun v22 =>
 bind1 (nilCheckV v22) fun v23 =>
 fa 2 v23 fun v24 =>
 bind1 (ldV (C.ti Q2) true s_1 v24) fun v25 =>
 Qo c1 ((List.map .val (C.ti Q6).zero)) v20 v25 s_1) (
 gC ZX 2 c1 fun v28 =>
 bn ZX .neq v28 (.val (.nilp)) fun v29 =>
 condS v29 (
 gC ZX 2 c1 fun v31 =>
 bind1 (nilCheckV v31) fun v32 =>
 fa 0 v32 fun v33 =>
 ld Q2 s v33 fun v34 =>
 ca Q0c [v34] s fun v36 s_3 =>
 nt v36 fun v37 =>
 condS v37 (
 Qo c1 ((List.map .val (C.ti Q6).zero)) (iv 8) v34 s_3) (
 Qo c1 ((List.map .val (C.ti Q6).zero)) (iv 0) v34 s_3)) (
 gC Zx 3 c1 fun v40 =>
 bn Zx .neq v40 (.val (.nilp)) fun v41 =>
 condS v41 (
 gC Zx 3 c1 fun v43 =>
 bind1 (nilCheckV v43) fun v44 =>
 bind1 (ldV (C.ti Qh) true s v44) fun v45 =>
 cn Q1m [v45] s fun v46 s_4 =>
 gC Zx 3 c1 fun v48 =>
 bind1 (nilCheckV v48) fun v49 =>
 fa 0 v49 fun v50 =>
 bind1 (ldV (C.ti Q2) true s_4 v50) fun v51 =>
 Qo c1 ((List.map .val (C.ti Q6).zero)) v46 v51 s_4) (
 gC Q0o 4 c1 fun v54 =>
 bn Q0o .neq v54 (.val (.nilp)) fun v55 =>
 condS v55 (
 gC Q0o 4 c1 fun v57 =>
 bind1 (nilCheckV v57) fun v58 =>
 bind1 (ldV (C.ti ZQ) true s v58) fun v59 =>
 cn Q1n [v59] s fun v60 s_5 =>
 gC Q0o 4 c1 fun v62 =>
 bind1 (nilCheckV v62) fun v63 =>
 fa 2 v63 fun v64 =>
 bind1 (ldV (C.ti Q2) true s_5 v64) fun v65 =>
 Qo c1 ((List.map .val (C.ti Q6).zero)) v60 v65 s_5) (
 gC Q0p 5 c1 fun v68 =>
 bn Q0p .neq v68 (.val (.nilp)) fun v69 =>
 condS v69 (
 gC Q0p 5 c1 fun v71 =>
 bind1 (nilCheckV v71) fun v72 =>
 bind1 (ldV (C.ti Q0d) true s v72) fun v73 =>
 cn Q0v [v73] s fun v74 s_6 =>
 gC Q0p 5 c1 fun v76 =>
 bind1 (nilCheckV v76) fun v77 =>
 fa 2 v77 fun v78 =>
 bind1 (ldV (C.ti Q2) true s_6 v78) fun v79 =>
 Qo c1 ((List.map .val (C.ti Q6).zero)) v74 v79 s_6) (
 gC Q1X 6 c1 fun v6 =>
 bind1 (nilCheckV v6) fun v7 =>
 bind1 (ldV (C.ti Q4) true s v7) fun v8 =>
 cn ZW [v8] s fun v9 s_7 =>
 gC Q1X 6 c1 fun v11 =>
 bind1 (nilCheckV v11) fun v12 =>
 fa 2 v12 fun v13 =>
 bind1 (ldV (C.ti Q2) true s_7 v13) fun v14 =>
 Qo c1 ((List.map .val (C.ti Q6).zero)) v9 v14 s_7))))) := (Q7 _ _ _).trans (by kernel_rfl)
theorem Q5m (a0 : AV) (a1 : AV) (s : St) : cw (.f Q16) [a0, a1] s =
 bd Ql [(0, Qf, (.val a0))] fun v4 =>
 ld Qx s (.val a1) fun v5 =>
 ca QC [v4, v5, (bv false)] s fun v6 s_1 =>
 rt [] s_1 := (Q7 _ _ _).trans (by kernel_rfl)
noncomputable def Z0 : Slot → Slot → List Slot → Slot → Slot → Slot → Slot → Slot → St → Res := fun x1_2 x2_2 x3_2 x8_1 x14_2 x15_2 x80 x81 s => lpD QC [.seqR, .seqL, .seqR, .block, .loop, .seqR, .seqR, .seqL, .block, .seqR, .seqR, .seqR, .seqR, .seqR, .block] Try.f47 [(1, .s x1_2), (2, .s x2_2), (3, .var x3_2), (8, .s x8_1), (14, .s x14_2), (15, .s x15_2), (80, .s x80), (81, .s x81)] s
noncomputable def QZ : Slot → Slot → List Slot → Slot → Slot → Slot → Slot → Slot → St → Res := fun x1_1 x2_1 x3_1 x8 x14_1 x15_1 x45 x46 s => lpD QC [.seqR, .seqL, .seqR, .block, .loop, .seqR, .seqR, .seqL, .block, .seqR, .seqR, .seqR, .seqL, .seqR, .block] Try.f47 [(1, .s x1_1), (2, .s x2_1), (3, .var x3_1), (8, .s x8), (14, .s x14_1), (15, .s x15_1), (45, .s x45), (46, .s x46)] s
noncomputable def QB : Slot → Slot → List Slot → Slot → Slot → St → Res := fun x1 x2 x3 x14 x15 s => lpD QC [.seqR, .seqL, .seqR, .block] Try.f47 [(1, .s x1), (2, .s x2), (3, .var x3), (14, .s x14), (15, .s x15)] s
theorem Q11 : ∀ x1_2 x2_2 x3_2 x8_1 x14_2 x15_2 x80 x81 s_7, Z0 x1_2 x2_2 x3_2 x8_1 x14_2 x15_2 x80 x81 s_7 =
 bn Q1 .lss x81 x80 fun v82 =>
 condS v82 (
 bind1 (nilCheckV x8_1) fun v85 =>
 fa 4 v85 fun v86 =>
 ld Qq s_7 v86 fun v87 =>
 ix Qh v87 x81 fun v89 =>
 gC Qf 0 x3_2 fun v91 =>
 bind1 (nilCheckV v89) fun v94 =>
 fa 1 v94 fun v95 =>
 ld Q1 s_7 v95 fun v96 =>
 bd Qy [(3, Zx, v89), (7, Q1, v96)] fun v97 =>
 back (noPan (cal cw true (tgtV v91 [v97]) s_7)) fun v98 s_8 =>
 nt v98 fun v99 =>
 iF v99 fun w_15 =>
 iF v99 fun w_16 =>
 bind1 (gd w_16 (nilCheckV (gdV w_15 v89))) fun v102 =>
 iF v99 fun w_17 =>
 bind1 (gd w_17 (faV 2 v102)) fun v103 =>
 iF v99 fun w_18 =>
 bind1 (gd w_18 (ldV (C.ti Qe) false s_8 v103)) fun v104 =>
 iF v99 fun w_19 =>
 bindB (Slot.isB (gdV w_19 v104) true) fun w_20 =>
 bind1 (gd w_20 (ofSlots (C.ti Ql) (List.take (C.ti Ql).size x3_2))) fun v106 =>
 bindB (Slot.isB (gdV w_19 v104) true) fun w_21 =>
 bindB (Slot.isB (gdV w_19 v104) true) fun w_22 =>
 bind1 (gd w_22 (nilCheckV (gdV w_21 v89))) fun v108 =>
 bindB (Slot.isB (gdV w_19 v104) true) fun w_23 =>
 bind1 (gd w_23 (faV 3 v108)) fun v109 =>
 bindB (Slot.isB (gdV w_19 v104) true) fun w_24 =>
 bindB (Slot.isB (gdV w_19 v104) true) fun w_25 =>
 bind1 (gd w_25 (nilCheckV (gdV w_24 v89))) fun v111 =>
 bindB (Slot.isB (gdV w_19 v104) true) fun w_26 =>
 bind1 (gd w_26 (faV 1 v111)) fun v112 =>
 bindB (Slot.isB (gdV w_19 v104) true) fun w_27 =>
 bind1 (gd w_27 (ldV (C.ti Q1) false s_8 v112)) fun v113 =>
 bindB (Slot.isB (gdV w_19 v104) true) fun w_28 =>
 back (noPan (cal cw w_28 (tgtV (.val (.fn QL [])) [v106, v109, v113]) s_8)) fun v114 s_9 =>
 bindB (Slot.isB (gdV w_19 v104) true) fun w_29 =>
 gN w_29 v114 fun v115 =>
 iF v99 fun w_30 =>
 bind1 (gd w_30 (pickS (gdV w_19 v104) v115 (bv false))) fun v116 =>
 pk v99 (bv true) v116 fun v117 =>
 condS v117 (
 some (.ret (bv false), s_9)) (
 nx x81 fun v118 =>
 Z0 x1_2 x2_2 x3_2 x8_1 x14_2 x15_2 x80 v118 s_9)) (
 nx x15_2 fun v119 =>
 QB x1_2 x2_2 x3_2 x14_2 v119 s_7) := by intros; unfold Z0; exact (Qi _ _ _ _ _ _).trans (by kernel_rfl)
theorem Q10 : ∀ x1_1 x2_1 x3_1 x8 x14_1 x15_1 x45 x46 s_4, QZ x1_1 x2_1 x3_1 x8 x14_1 x15_1 x45 x46 s_4 =
 bn Q1 .lss x46 x45 fun v47 =>
 condS v47 (
 bind1 (nilCheckV x8) fun v50 =>
 fa 6 v50 fun v51 =>
 ld Zy s_4 v51 fun v52 =>
 ix Q1o v52 x46 fun v54 =>
 gC Qf 0 x3_1 fun v56 =>
 bind1 (nilCheckV v54) fun v59 =>
 fa 1 v59 fun v60 =>
 ld Q1 s_4 v60 fun v61 =>
 bd Qy [(2, ZX, v54), (7, Q1, v61)] fun v62 =>
 back (noPan (cal cw true (tgtV v56 [v62]) s_4)) fun v63 s_5 =>
 nt v63 fun v64 =>
 iF v64 fun w_7 =>
 bind1 (gd w_7 (ofSlots (C.ti Ql) (List.take (C.ti Ql).size x3_1))) fun v66 =>
 iF v64 fun w_8 =>
 iF v64 fun w_9 =>
 bind1 (gd w_9 (nilCheckV (gdV w_8 v54))) fun v68 =>
 iF v64 fun w_10 =>
 bind1 (gd w_10 (faV 2 v68)) fun v69 =>
 iF v64 fun w_11 =>
 bind1 (gd w_11 (ldV (C.ti Zg) false s_5 v69)) fun v70 =>
 iF v64 fun w_12 =>
 bind1 (gd w_12 (bslF (C.ti Zg).size [v70])) fun v71 =>
 iF v64 fun w_13 =>
 back (noPan (cal cw w_13 (tgtV (.val (.fn QK [])) [v66, v71]) s_5)) fun v72 s_6 =>
 iF v64 fun w_14 =>
 gN w_14 v72 fun v73 =>
 pk v64 (bv true) v73 fun v74 =>
 condS v74 (
 some (.ret (bv false), s_6)) (
 nx x46 fun v75 =>
 QZ x1_1 x2_1 x3_1 x8 x14_1 x15_1 x45 v75 s_6)) (
 bind1 (nilCheckV x8) fun v77 =>
 fa 4 v77 fun v78 =>
 ld Qq s_4 v78 fun v79 =>
 ln Qq v79 fun v80 =>
 Z0 x1_1 x2_1 x3_1 x8 x14_1 x15_1 v80 (iv 0) s_4) := by intros; unfold QZ; exact (Qi _ _ _ _ _ _).trans (by kernel_rfl)
theorem Q0Z : ∀ x1 x2 x3 x14 x15 s_1, QB x1 x2 x3 x14 x15 s_1 =
 bn Q1 .lss x15 x14 fun v16 =>
 condS v16 (
 ix Qc x1 x15 fun v20 =>
 gC Qf 0 x3 fun v22 =>
 bind1 (nilCheckV v20) fun v26 =>
 fa 1 v26 fun v27 =>
 ld Q1 s_1 v27 fun v28 =>
 bd Qy [(0, Q0n, v20), (1, Qe, x2), (7, Q1, v28)] fun v29 =>
 back (noPan (cal cw true (tgtV v22 [v29]) s_1)) fun v30 s_2 =>
 nt v30 fun v31 =>
 iF v31 fun w =>
 bind1 (gd w (ofSlots (C.ti Ql) (List.take (C.ti Ql).size x3))) fun v33 =>
 iF v31 fun w_1 =>
 iF v31 fun w_2 =>
 bind1 (gd w_2 (nilCheckV (gdV w_1 v20))) fun v35 =>
 iF v31 fun w_3 =>
 bind1 (gd w_3 (faV 5 v35)) fun v36 =>
 iF v31 fun w_4 =>
 bind1 (gd w_4 (ldV (C.ti Qv) false s_2 v36)) fun v37 =>
 iF v31 fun w_5 =>
 back (noPan (cal cw w_5 (tgtV (.val (.fn QK [])) [v33, v37]) s_2)) fun v38 s_3 =>
 iF v31 fun w_6 =>
 gN w_6 v38 fun v39 =>
 pk v31 (bv true) v39 fun v40 =>
 condS v40 (
 some (.ret (bv false), s_3)) (
 bind1 (nilCheckV v20) fun v42 =>
 fa 6 v42 fun v43 =>
 ld Zy s_3 v43 fun v44 =>
 ln Zy v44 fun v45 =>
 QZ x1 x2 x3 v20 x14 x15 v45 (iv 0) s_3)) (
 some (.ret (bv true), s_1)) := by intros; unfold QB; exact (Qi _ _ _ _ _ _).trans (by kernel_rfl)
theorem Q1G (a0 : AV) (a1 : AV) (a2 : AV) (s : St) : cw (.f QC) [a0, a1, a2] s =
 bx Ql (.val a0) fun c3 =>
 ln Qx (.val a1) fun v14 =>
 QB (.val a1) (.val a2) c3 v14 (iv 0) s := (Q7 _ _ _).trans (by kernel_rfl)
noncomputable def Zh : Slot → Slot → Slot → Slot → St → Res := fun x3 x6 x7 x8 s => lpD QN [.seqR, .seqR, .seqL, .seqR, .block] Try.f48 [(3, .s x3), (6, .s x6), (7, .s x7), (8, .s x8)] s
theorem Q1A : ∀ x3 x6 x7 x8 s_1, Zh x3 x6 x7 x8 s_1 =
 bn Q1 .lss x8 x7 fun v9 =>
 condS v9 (
 ix Zg x6 x8 fun v10 =>
 ld Zg s_1 v10 fun v11 =>
 bx Zg v11 fun c =>
 pZ Zg c fun c5 =>
 gC Q0d 0 c5 fun v14 =>
 cn Zn [v14] s_1 fun v15 s_2 =>
 gC ZQ 5 c5 fun v17 =>
 cn ZV [v17] s_2 fun v18 s_3 =>
 bind1 (max3 x3 v15 v18) fun v19 =>
 nx x8 fun v20 =>
 Zh v19 x6 x7 v20 s_3) (
 some (.ret x3, s_1)) := by intros; unfold Zh; exact (Qi _ _ _ _ _ _).trans (by kernel_rfl)
theorem Q2h (a0 : AV) (s : St) : cw (.f QN) [a0] s =
 ln Qv (.val a0) fun v7 =>
 Zh (iv 0) (.val a0) v7 (iv 0) s := (Q7 _ _ _).trans (by kernel_rfl)
noncomputable def Q07 : Slot → Slot → Slot → Slot → St → Res := fun x3 x7 x8 x9 s => lpD Zw [.seqR, .seqR, .seqL, .seqR, .block] Try.f49 [(3, .s x3), (7, .s x7), (8, .s x8), (9, .s x9)] s
theorem Q2l : ∀ x3 x7 x8 x9 s_1, Q07 x3 x7 x8 x9 s_1 =
 bn Q1 .lss x9 x8 fun v10 =>
 condS v10 (
 ix Q4 x7 x9 fun v11 =>
 ld Q4 s_1 v11 fun v12 =>
 bx Q4 v12 fun c =>
 pZ Q4 c fun c5 =>
 gA Q4 c5 fun v14 =>
 ca Zw [v14] s_1 fun v15 s_2 =>
 bind1 (max2 x3 v15) fun v16 =>
 nx x9 fun v17 =>
 Q07 v16 x7 x8 v17 s_2) (
 nx x3 fun v19 =>
 some (.ret v19, s_1)) := by intros; unfold Q07; exact (Qi _ _ _ _ _ _).trans (by kernel_rfl)
theorem Q7D (a0 : AV) (s : St) : cw (.f Zw) [a0] s =
 bx Q4 (.val a0) fun c1 =>
 gC Q9 3 c1 fun v7 =>
 ln Q9 v7 fun v8 =>
 Q07 (iv 0) v7 v8 (iv 0) s := (Q7 _ _ _).trans (by kernel_rfl)
noncomputable def Qp : Slot → Slot → Slot → Slot → Slot → St → Res := fun x1 x2 x15 x16 x17 s => lpD Qz [.seqR, .seqR, .seqL, .seqR, .block] Try.f50 [(1, .s x1), (2, .s x2), (15, .s x15), (16, .s x16), (17, .s x17)] s
theorem Z8 : ∀ x1 x2 x15 x16 x17 s_1, Qp x1 x2 x15 x16 x17 s_1 =
 bn Q1 .lss x17 x16 fun v18 =>
 condS v18 (
 ix Q4 x15 x17 fun v20 =>
 ld Q4 s_1 v20 fun v21 =>
 bx Q4 v21 fun c =>
 pZ Q4 c fun c8 =>
 ix Q4 x1 x17 fun v24 =>
 ld Q4 s_1 v24 fun v25 =>
 bx Q4 v25 fun c_1 =>
 pZ Q4 c_1 fun c9 =>
 gA Q4 c8 fun v27 =>
 gA Q4 c9 fun v28 =>
 back (cal cw true (tgtV x2 [v27, v28]) s_1) fun v29 s_2 =>
 nt v29 fun v30 =>
 condS v30 (
 some (.ret (bv false), s_2)) (
 nx x17 fun v31 =>
 Qp x1 x2 x15 x16 v31 s_2)) (
 some (.ret (bv true), s_1)) := by intros; unfold Qp; exact (Qi _ _ _ _ _ _).trans (by kernel_rfl)
theorem Q0X (a0 : AV) (a1 : AV) (a2 : AV) (s : St) : cw (.f Qz) [a0, a1, a2] s =
 ln Q9 (.val a0) fun v11 =>
 ln Q9 (.val a1) fun v13 =>
 bn Q1 .neq v11 v13 fun v14 =>
 condS v14 (
 some (.ret (bv false), s)) (
 ln Q9 (.val a0) fun v16 =>
 Qp (.val a1) (.val a2) (.val a0) v16 (iv 0) s) := (Q7 _ _ _).trans (by kernel_rfl)
noncomputable def ZF : Slot → Slot → Slot → Slot → St → Res := fun x3 x45 x46 x47 s => lpD ZT [.seqR, .seqR, .seqR, .seqR, .seqL, .seqR, .block] Try.f51 [(3, .s x3), (45, .s x45), (46, .s x46), (47, .s x47)] s
theorem Q20 : ∀ x3 x45 x46 x47 s_1, ZF x3 x45 x46 x47 s_1 =
 bn Q1 .lss x47 x46 fun v48 =>
 condS v48 (
 ix Q4 x45 x47 fun v49 =>
 ld Q4 s_1 v49 fun v50 =>
 bx Q4 v50 fun c =>
 pZ Q4 c fun c10 =>
 ld Qb s_1 x3 fun v52 =>
 gA Q4 c10 fun v53 =>
 back (cal cw true (tgtV v52 [v53]) s_1) fun v54 s_2 =>
 ex v54 0 fun v55 =>
 ex v54 1 fun v56 =>
 bn Qs .neq v55 (iv 0) fun v58 =>
 condS v58 (
 rt [(some v55), (some v56)] s_2) (
 nx x47 fun v61 =>
 ZF x3 x45 x46 v61 s_2)) (
 rt [(some (iv 0)), (some (sv []))] s_1) := by intros; unfold ZF; exact (Qi _ _ _ _ _ _).trans (by kernel_rfl)
theorem Q6v (a0 : AV) (a1 : AV) (a2 : AV) (a3 : AV) (s : St) : cw (.f ZT) [a0, a1, a2, a3] s =
 bx Q4 (.val a0) fun c4 =>
 gC Qg 0 c4 fun v14 =>
 bn Qg .eql v14 (iv 1) fun v15 =>
 condS v15 (
 gC Q1 1 c4 fun v17 =>
 ld Q1 s (.val a1) fun v18 =>
 bn Q1 .geq v17 v18 fun v19 =>
 condS v19 (
 rt [(some (iv 16)), (some (sv []))] s) (
 rt [(some (iv 0)), (some (sv []))] s)) (
 ld QD s (.val a2) fun v21 =>
 gC Q2 2 c4 fun v23 =>
 lk Q2 Q1 s v21 v23 true fun v24 =>
 ex v24 0 fun v25 =>
 ex v24 1 fun v26 =>
 nt v26 fun v29 =>
 condS v29 (
 gC Q2 2 c4 fun v31 =>
 rt [(some (iv 8)), (some v31)] s) (
 bn Q1 .geq v25 (iv 0) fun v34 =>
 iT v34 fun w =>
 iT v34 fun w_1 =>
 iT v34 fun w_2 =>
 gG w_2 w_1 Q9 3 c4 fun v38 =>
 iT v34 fun w_3 =>
 gL w_3 Q9 v38 fun v39 =>
 iT v34 fun w_4 =>
 gB w_4 Q1 .neq (gdV w v25) v39 fun v40 =>
 pk v34 v40 (bv false) fun v41 =>
 condS v41 (
 gC Q2 2 c4 fun v43 =>
 rt [(some (iv 19)), (some v43)] s) (
 gC Q9 3 c4 fun v45 =>
 ln Q9 v45 fun v46 =>
 ZF (.val a3) v45 v46 (iv 0) s))) := (Q7 _ _ _).trans (by kernel_rfl)
noncomputable def Q0E : Slot → List Slot → List Slot → Slot → Slot → Slot → St → Res := fun x1 x4 x5 x23 x24 x25 s => lpD Q0U [.seqR, .seqR, .seqR, .seqL, .seqR, .block] Try.f52 [(1, .s x1), (4, .var x4), (5, .var x5), (23, .s x23), (24, .s x24), (25, .s x25)] s
theorem Q3j : ∀ x1 x4 x5 x23 x24 x25 s_2, Q0E x1 x4 x5 x23 x24 x25 s_2 =
 bn Q1 .lss x25 x24 fun v26 =>
 condS v26 (
 ix Q4 x23 x25 fun v27 =>
 ld Q4 s_2 v27 fun v28 =>
 bx Q4 v28 fun c_2 =>
 pZ Q4 c_2 fun c7 =>
 gC Q9 3 x5 fun v30 =>
 gA Q4 c7 fun v31 =>
 cn Q0U [v31, x1] s_2 fun v33 s_3 =>
 bs Q4 [v33] fun v34 =>
 ap Q4 s_3 v30 v34 fun v35 s_4 =>
 bx Q9 v35 fun c_3 =>
 pt x5 3 c_3 fun c5_1 =>
 nx x25 fun v37 =>
 Q0E x1 x4 c5_1 x23 x24 v37 s_4) (
 gA Q4 x5 fun v38 =>
 bx Q4 v38 fun c_4 =>
 pt x4 0 c_4 fun c4_1 =>
 gA Q4 c4_1 fun v => some (.ret v, s_2)) := by intros; unfold Q0E; exact (Qi _ _ _ _ _ _).trans (by kernel_rfl)
theorem Q9q (a0 : AV) (a1 : AV) (s : St) : cw (.f Q0U) [a0, a1] s =
 bx Q4 (.val a0) fun c2 =>
 gC Qg 0 c2 fun v9 =>
 bn Qg .eql v9 (iv 1) fun v10 =>
 condS v10 (
 gC Q1 1 c2 fun v13 =>
 back (cal cw true (tgtV (.val a1) [v13]) s) fun v14 s_1 =>
 bx Q4 v14 fun c =>
 pZ Q4 c fun c4 =>
 gA Q4 c4 fun v => some (.ret v, s_1)) (
 gC Qg 0 c2 fun v16 =>
 gC Q1 1 c2 fun v18 =>
 gC Q2 2 c2 fun v20 =>
 bd Q4 [(0, Qg, v16), (1, Q1, v18), (2, Q2, v20)] fun v21 =>
 bx Q4 v21 fun c_1 =>
 pZ Q4 c_1 fun c5 =>
 gC Q9 3 c2 fun v23 =>
 ln Q9 v23 fun v24 =>
 Q0E (.val a1) ((List.map .val (C.ti Q4).zero)) c5 v23 v24 (iv 0) s) := (Q7 _ _ _).trans (by kernel_rfl)
theorem Q5L (a0 : AV) (a1 : AV) (s : St) : cw (.f Q3O) [a0, a1] s =
 bn Q1 .geq (.val a0) (iv 0) fun v5 =>
 iT v5 fun w =>
 iT v5 fun w_1 =>
 bind1 (gd w_1 (ldV (C.ti Q9) false s (.val a1))) fun v8 =>
 iT v5 fun w_2 =>
 gL w_2 Q9 v8 fun v9 =>
 iT v5 fun w_3 =>
 gB w_3 Q1 .lss (gdV w (.val a0)) v9 fun v10 =>
 pk v5 v10 (bv false) fun v11 =>
 condS v11 (
 ld Q9 s (.val a1) fun v12 =>
 ix Q4 v12 (.val a0) fun v14 =>
 ld Q4 s v14 fun v15 =>
 ca Q1L [v15] s fun v16 s_1 =>
 bx Q4 v16 fun c =>
 pZ Q4 c fun c3 =>
 gA Q4 c3 fun v => some (.ret v, s_1)) (
 bd Q4 [(0, Qg, (iv 1)), (1, Q1, (.val a0))] fun v18 =>
 bx Q4 v18 fun c_1 =>
 pZ Q4 c_1 fun c3_1 =>
 gA Q4 c3_1 fun v => some (.ret v, s)) := (Q7 _ _ _).trans (by kernel_rfl)
theorem Q55 (a0 : AV) (s : St) : cw (.f Q0P) [a0] s =
 bx Qy (.val a0) fun c1 =>
 gC ZX 2 c1 fun v4 =>
 bn ZX .eql v4 (.val (.nilp)) fun v5 =>
 iT v5 fun w =>
 iT v5 fun w_1 =>
 gG w_1 w Zx 3 c1 fun v8 =>
 iT v5 fun w_2 =>
 gB w_2 Zx .eql v8 (.val (.nilp)) fun v9 =>
 pk v5 v9 (bv false) fun v10 =>
 some (.ret v10, s) := (Q7 _ _ _).trans (by kernel_rfl)
noncomputable def Qw : List Slot → Slot → Slot → Slot → Slot → St → Res := fun x1 x3 x5 x7 x8 s => pwD Z9 [.seqR, .seqR, .seqR, .seqR, .seqR] Try.f58 [(1, .var x1), (3, .s x3), (5, .s x5), (7, .s x7), (8, .s x8)] s
theorem Q2t : ∀ x1 x3 x5 x7 x8 s_1, Qw x1 x3 x5 x7 x8 s_1 =
 nt x8 fun v91 =>
 iF v91 fun w_9 =>
 iF v91 fun w_10 =>
 gG w_10 w_9 Qe 1 x1 fun v94 =>
 iF v91 fun w_11 =>
 bindB (Slot.isB (gdV w_11 v94) true) fun w_12 =>
 bindB (Slot.isB (gdV w_11 v94) true) fun w_13 =>
 bind1 (gd w_13 (nilCheckV (gdV w_12 x3))) fun v97 =>
 bindB (Slot.isB (gdV w_11 v94) true) fun w_14 =>
 bind1 (gd w_14 (faV 0 v97)) fun v98 =>
 bindB (Slot.isB (gdV w_11 v94) true) fun w_15 =>
 bind1 (gd w_15 (ldV (C.ti Qa) false s_1 v98)) fun v99 =>
 bindB (Slot.isB (gdV w_11 v94) true) fun w_16 =>
 gB w_16 Qa .neq v99 (iv 1) fun v100 =>
 iF v91 fun w_17 =>
 bind1 (gd w_17 (pickS (gdV w_11 v94) v100 (bv false))) fun v101 =>
 iF v91 fun w_18 =>
 bindB (Slot.isB (gdV w_18 v101) true) fun w_19 =>
 bindB (Slot.isB (gdV w_18 v101) true) fun w_20 =>
 bind1 (gd w_20 (nilCheckV (gdV w_19 x3))) fun v104 =>
 bindB (Slot.isB (gdV w_18 v101) true) fun w_21 =>
 bind1 (gd w_21 (faV 0 v104)) fun v105 =>
 bindB (Slot.isB (gdV w_18 v101) true) fun w_22 =>
 bind1 (gd w_22 (ldV (C.ti Qa) false s_1 v105)) fun v106 =>
 bindB (Slot.isB (gdV w_18 v101) true) fun w_23 =>
 gB w_23 Qa .neq v106 (iv 2) fun v107 =>
 iF v91 fun w_24 =>
 bind1 (gd w_24 (pickS (gdV w_18 v101) v107 (bv false))) fun v108 =>
 pk v91 (bv true) v108 fun v109 =>
 condS v109 (
 some (.ret (iv 29), s_1)) (
 bind1 (nilCheckV x3) fun v111 =>
 fa 0 v111 fun v112 =>
 ld Qa s_1 v112 fun v113 =>
 bn Qa .eql v113 (iv 1) fun v115 =>
 condS v115 (
 bind1 (nilCheckV x3) fun v117 =>
 fa 5 v117 fun v118 =>
 ld Qv s_1 v118 fun v119 =>
 ln Qv v119 fun v120 =>
 bn Q1 .eql v120 (iv 1) fun v121 =>
 nt v121 fun v165 =>
 condS v165 (
 some (.ret (iv 19), s_1)) (
 some (.ret (iv 0), s_1))) (
 bn Qa .eql v113 (iv 2) fun v123 =>
 condS v123 (
 nt x5 fun v165_1 =>
 condS v165_1 (
 some (.ret (iv 19), s_1)) (
 some (.ret (iv 0), s_1))) (
 bn Qa .eql v113 (iv 3) fun v126 =>
 condS v126 (
 bind1 (nilCheckV x3) fun v128 =>
 fa 2 v128 fun v129 =>
 ld Q2 s_1 v129 fun v130 =>
 ca Q0c [v130] s_1 fun v131 s_2 =>
 nt v131 fun v132 =>
 condS v132 (
 some (.ret (iv 8), s_2)) (
 bind1 (nilCheckV x3) fun v134 =>
 fa 3 v134 fun v135 =>
 ld Q1 s_2 v135 fun v136 =>
 bn Q1 .geq v136 (iv 0) fun v137 =>
 iT v137 fun w_25 =>
 iT v137 fun w_26 =>
 bind1 (gd w_26 (nilCheckV (gdV w_25 x3))) fun v140 =>
 iT v137 fun w_27 =>
 bind1 (gd w_27 (faV 3 v140)) fun v141 =>
 iT v137 fun w_28 =>
 bind1 (gd w_28 (ldV (C.ti Q1) false s_2 v141)) fun v142 =>
 iT v137 fun w_29 =>
 gB w_29 Q1 .leq v142 (iv 8) fun v143 =>
 pk v137 v143 (bv false) fun v144 =>
 iT v144 fun w_30 =>
 pk v144 (gdV w_30 x7) (bv false) fun v147 =>
 iT v147 fun w_31 =>
 iT v147 fun w_32 =>
 bind1 (gd w_32 (nilCheckV (gdV w_31 x3))) fun v150 =>
 iT v147 fun w_33 =>
 bind1 (gd w_33 (faV 4 v150)) fun v151 =>
 iT v147 fun w_34 =>
 bind1 (gd w_34 (ldV (C.ti Qq) false s_2 v151)) fun v152 =>
 iT v147 fun w_35 =>
 gL w_35 Qq v152 fun v153 =>
 iT v147 fun w_36 =>
 gB w_36 Q1 .leq v153 (iv 64) fun v154 =>
 pk v147 v154 (bv false) fun v155 =>
 nt v155 fun v165_2 =>
 condS v165_2 (
 some (.ret (iv 19), s_2)) (
 some (.ret (iv 0), s_2)))) (
 bn Qa .eql v113 (iv 4) fun v157 =>
 condS v157 (
 bind1 (nilCheckV x3) fun v159 =>
 fa 4 v159 fun v160 =>
 ld Qq s_1 v160 fun v161 =>
 ln Qq v161 fun v162 =>
 bn Q1 .eql v162 (iv 1) fun v163 =>
 nt v163 fun v165_3 =>
 condS v165_3 (
 some (.ret (iv 19), s_1)) (
 some (.ret (iv 0), s_1))) (
 bind1 (unS .not (bv true)) fun v165_4 =>
 condS v165_4 (
 some (.ret (iv 19), s_1)) (
 some (.ret (iv 0), s_1))))))) := by intros; unfold Qw; exact (Q1x _).trans (by kernel_rfl)
theorem Q3s (a0 : AV) (s : St) : cw (.f Z9) [a0] s =
 bx Qy (.val a0) fun c1 =>
 gC Q0n 0 c1 fun v11 =>
 bind1 (nilCheckV v11) fun v13 =>
 fa 5 v13 fun v14 =>
 ld Qv s v14 fun v15 =>
 ln Qv v15 fun v16 =>
 bn Q1 .gtr v16 (iv 0) fun v17 =>
 bind1 (nilCheckV v11) fun v19 =>
 fa 6 v19 fun v20 =>
 ld Zy s v20 fun v21 =>
 ln Zy v21 fun v22 =>
 bn Q1 .gtr v22 (iv 0) fun v23 =>
 bind1 (nilCheckV v11) fun v25 =>
 fa 2 v25 fun v26 =>
 ld Q2 s v26 fun v27 =>
 bn Q2 .neq v27 (sv []) fun v28 =>
 iF v28 fun w =>
 iF v28 fun w_1 =>
 bind1 (gd w_1 (nilCheckV (gdV w v11))) fun v31 =>
 iF v28 fun w_2 =>
 bind1 (gd w_2 (faV 3 v31)) fun v32 =>
 iF v28 fun w_3 =>
 bind1 (gd w_3 (ldV (C.ti Q1) false s v32)) fun v33 =>
 iF v28 fun w_4 =>
 gB w_4 Q1 .neq v33 (iv 0) fun v34 =>
 pk v28 (bv true) v34 fun v35 =>
 bind1 (nilCheckV v11) fun v37 =>
 fa 4 v37 fun v38 =>
 ld Qq s v38 fun v39 =>
 ln Qq v39 fun v40 =>
 bn Q1 .gtr v40 (iv 0) fun v41 =>
 bind1 (nilCheckV v11) fun v43 =>
 fa 0 v43 fun v44 =>
 ld Qa s v44 fun v45 =>
 bn Qa .eql v45 (iv 1) fun v47 =>
 condS v47 (
 nt v23 fun v49 =>
 iT v49 fun w_5 =>
 iT v49 fun w_6 =>
 bind1 (gd w_6 (unS .not (gdV w_5 v35))) fun v52 =>
 pk v49 v52 (bv false) fun v53 =>
 iT v53 fun w_7 =>
 iT v53 fun w_8 =>
 bind1 (gd w_8 (unS .not (gdV w_7 v41))) fun v56 =>
 pk v53 v56 (bv false) fun v57 =>
 Qw c1 v11 v23 v41 v57 s) (
 bn Qa .eql v45 (iv 2) fun v59 =>
 condS v59 (
 nt v17 fun v61 =>
 iT v61 fun w_37 =>
 iT v61 fun w_38 =>
 bind1 (gd w_38 (unS .not (gdV w_37 v35))) fun v64 =>
 pk v61 v64 (bv false) fun v65 =>
 iT v65 fun w_39 =>
 iT v65 fun w_40 =>
 bind1 (gd w_40 (unS .not (gdV w_39 v41))) fun v68 =>
 pk v65 v68 (bv false) fun v69 =>
 Qw c1 v11 v23 v41 v69 s) (
 bn Qa .eql v45 (iv 3) fun v71 =>
 condS v71 (
 nt v17 fun v73 =>
 iT v73 fun w_41 =>
 iT v73 fun w_42 =>
 bind1 (gd w_42 (unS .not (gdV w_41 v23))) fun v76 =>
 pk v73 v76 (bv false) fun v77 =>
 Qw c1 v11 v23 v41 v77 s) (
 bn Qa .eql v45 (iv 4) fun v79 =>
 condS v79 (
 nt v17 fun v81 =>
 iT v81 fun w_43 =>
 iT v81 fun w_44 =>
 bind1 (gd w_44 (unS .not (gdV w_43 v23))) fun v84 =>
 pk v81 v84 (bv false) fun v85 =>
 iT v85 fun w_45 =>
 iT v85 fun w_46 =>
 bind1 (gd w_46 (unS .not (gdV w_45 v35))) fun v88 =>
 pk v85 v88 (bv false) fun v89 =>
 Qw c1 v11 v23 v41 v89 s) (
 Qw c1 v11 v23 v41 (bv false) s)))) := (Q7 _ _ _).trans (by kernel_rfl)
theorem Q9T (a0 : AV) (s : St) : cw (.f Q0c) [a0] s =
 bn Q2 .neq (.val a0) (sv []) fun v4 =>
 iT v4 fun w =>
 iT v4 fun w_1 =>
 bind1 (gd w_1 (indexS (C.ti Q2) (C.ti T_0) (gdV w (.val a0)) (iv 0))) fun v7 =>
 iT v4 fun w_2 =>
 cg w_2 Q1l [v7] s fun v8 s_1 =>
 pk v4 v8 (bv false) fun v9 =>
 iT v9 fun w_3 =>
 iT v9 fun w_4 =>
 cg w_4 Q1k [(gdV w_3 (.val a0))] s_1 fun v12 s_2 =>
 pk v9 v12 (bv false) fun v13 =>
 iT v13 fun w_5 =>
 iT v13 fun w_6 =>
 gB w_6 Q2 .add (sv [32]) (gdV w_5 (.val a0)) fun v16 =>
 iT v13 fun w_7 =>
 gB w_7 Q2 .add v16 (sv [32]) fun v17 =>
 iT v13 fun w_8 =>
 cg w_8 Q0x [(.val (.str Q6e)), v17] s_2 fun v18 s_3 =>
 iT v13 fun w_9 =>
 gN w_9 v18 fun v19 =>
 pk v13 v19 (bv false) fun v20 =>
 some (.ret v20, s_3) := (Q7 _ _ _).trans (by kernel_rfl)
theorem Q6a (a0 : AV) (s : St) : cw (.f Q1m) [a0] s =
 bx Qh (.val a0) fun c1 =>
 gC Q4 3 c1 fun v5 =>
 bx Q4 v5 fun c =>
 pZ Q4 c fun c3 =>
 gC Qe 2 c1 fun v8 =>
 nt v8 fun v9 =>
 iT v9 fun w =>
 iT v9 fun w_1 =>
 gG w_1 w Qg 0 c3 fun v12 =>
 iT v9 fun w_2 =>
 gB w_2 Qg .neq v12 (iv 0) fun v13 =>
 iT v9 fun w_3 =>
 bindB (Slot.isB (gdV w_3 v13) false) fun w_4 =>
 bindB (Slot.isB (gdV w_3 v13) false) fun w_5 =>
 gG w_5 w_4 Q1 1 c3 fun v16 =>
 bindB (Slot.isB (gdV w_3 v13) false) fun w_6 =>
 gB w_6 Q1 .neq v16 (iv 0) fun v17 =>
 iT v9 fun w_7 =>
 bind1 (gd w_7 (pickS (gdV w_3 v13) (bv true) v17)) fun v18 =>
 iT v9 fun w_8 =>
 bindB (Slot.isB (gdV w_8 v18) false) fun w_9 =>
 bindB (Slot.isB (gdV w_8 v18) false) fun w_10 =>
 gG w_10 w_9 Q2 2 c3 fun v21 =>
 bindB (Slot.isB (gdV w_8 v18) false) fun w_11 =>
 gB w_11 Q2 .neq v21 (sv []) fun v22 =>
 iT v9 fun w_12 =>
 bind1 (gd w_12 (pickS (gdV w_8 v18) (bv true) v22)) fun v23 =>
 iT v9 fun w_13 =>
 bindB (Slot.isB (gdV w_13 v23) false) fun w_14 =>
 bindB (Slot.isB (gdV w_13 v23) false) fun w_15 =>
 gG w_15 w_14 Q9 3 c3 fun v26 =>
 bindB (Slot.isB (gdV w_13 v23) false) fun w_16 =>
 gL w_16 Q9 v26 fun v27 =>
 bindB (Slot.isB (gdV w_13 v23) false) fun w_17 =>
 gB w_17 Q1 .gtr v27 (iv 0) fun v28 =>
 iT v9 fun w_18 =>
 bind1 (gd w_18 (pickS (gdV w_13 v23) (bv true) v28)) fun v29 =>
 pk v9 v29 (bv false) fun v30 =>
 condS v30 (
 some (.ret (iv 29), s)) (
 gC Q2 0 c1 fun v33 =>
 ca Q0F [v33] s fun v34 s_1 =>
 nt v34 fun v35 =>
 condS v35 (
 some (.ret (iv 8), s_1)) (
 some (.ret (iv 0), s_1))) := (Q7 _ _ _).trans (by kernel_rfl)
theorem Q6b (a0 : AV) (s : St) : cw (.f Q1n) [a0] s =
 bindL (boxCells (C.ti ZQ) (.val a0)) fun c1 =>
 bind1 (ofSlots (C.ti Q3) (List.take (C.ti Q3).size (List.drop 0 c1))) fun v7 =>
 back (cal cw true (tgtV (.val (.fn Q47 [])) [v7]) s) fun v8 s_1 =>
 bind1 (extractS v8 0) fun v9 =>
 bind1 (extractS v8 1) fun v10 =>
 bindL (boxCells (C.ti Q0) v9) fun c =>
 bindL (putAt (List.map .val (C.ti Q0).zero) 0 c) fun c3 =>
 bind1 (unS .not v10) fun v13 =>
 bindB (Slot.isB v13 false) fun w =>
 bindB (Slot.isB v13 false) fun w_1 =>
 bind1 (gd w_1 (bif w then (ofSlots (C.ti Qe) (List.take (C.ti Qe).size (List.drop 0 c3))) else none)) fun v16 =>
 bindB (Slot.isB v13 false) fun w_2 =>
 bind1 (gd w_2 (unS .not v16)) fun v17 =>
 bindB (Slot.isB v13 false) fun w_3 =>
 bindB (Slot.isB (gdV w_3 v17) true) fun w_4 =>
 bindB (Slot.isB (gdV w_3 v17) true) fun w_5 =>
 bind1 (gd w_5 (bif w_4 then (ofSlots (C.ti Q2) (List.take (C.ti Q2).size (List.drop 2 c1))) else none)) fun v20 =>
 bindB (Slot.isB (gdV w_3 v17) true) fun w_6 =>
 bind1 (gd w_6 (binS (C.ti Q2) .neq v20 (.val (.str [])))) fun v21 =>
 bindB (Slot.isB v13 false) fun w_7 =>
 bind1 (gd w_7 (pickS (gdV w_3 v17) v21 (.val (.bool false)))) fun v22 =>
 bind1 (pickS v13 (.val (.bool true)) v22) fun v23 =>
 bindB (Slot.isB v23 false) fun w_8 =>
 bindB (Slot.isB v23 false) fun w_9 =>
 bind1 (gd w_9 (bif w_8 then (ofSlots (C.ti Qe) (List.take (C.ti Qe).size (List.drop 1 c3))) else none)) fun v26 =>
 bindB (Slot.isB v23 false) fun w_10 =>
 bind1 (gd w_10 (unS .not v26)) fun v27 =>
 bindB (Slot.isB v23 false) fun w_11 =>
 bindB (Slot.isB (gdV w_11 v27) true) fun w_12 =>
 bindB (Slot.isB (gdV w_11 v27) true) fun w_13 =>
 bind1 (gd w_13 (bif w_12 then (ofSlots (C.ti Q1) (List.take (C.ti Q1).size (List.drop 3 c1))) else none)) fun v30 =>
 bindB (Slot.isB (gdV w_11 v27) true) fun w_14 =>
 bind1 (gd w_14 (binS (C.ti Q1) .neq v30 (.val (.int .i64 0)))) fun v31 =>
 bindB (Slot.isB v23 false) fun w_15 =>
 bind1 (gd w_15 (pickS (gdV w_11 v27) v31 (.val (.bool false)))) fun v32 =>
 bind1 (pickS v23 (.val (.bool true)) v32) fun v33 =>
 bindB (Slot.isB v33 false) fun w_16 =>
 bindB (Slot.isB v33 false) fun w_17 =>
 bind1 (gd w_17 (bif w_16 then (ofSlots (C.ti Qe) (List.take (C.ti Qe).size (List.drop 2 c3))) else none)) fun v36 =>
 bindB (Slot.isB v33 false) fun w_18 =>
 bind1 (gd w_18 (unS .not v36)) fun v37 =>
 bindB (Slot.isB v33 false) fun w_19 =>
 bindB (Slot.isB (gdV w_19 v37) true) fun w_20 =>
 bindB (Slot.isB (gdV w_19 v37) true) fun w_21 =>
 bind1 (gd w_21 (bif w_20 then (ofSlots (C.ti Qv) (List.take (C.ti Qv).size (List.drop 5 c1))) else none)) fun v40 =>
 bindB (Slot.isB (gdV w_19 v37) true) fun w_22 =>
 bind1 (gd w_22 (lenS (C.ti Qv) v40)) fun v41 =>
 bindB (Slot.isB (gdV w_19 v37) true) fun w_23 =>
 bind1 (gd w_23 (binS (C.ti Q1) .gtr v41 (.val (.int .i64 0)))) fun v42 =>
 bindB (Slot.isB v33 false) fun w_24 =>
 bind1 (gd w_24 (pickS (gdV w_19 v37) v42 (.val (.bool false)))) fun v43 =>
 bind1 (pickS v33 (.val (.bool true)) v43) fun v44 =>
 bindB (Slot.isB v44 false) fun w_25 =>
 bindB (Slot.isB v44 false) fun w_26 =>
 bind1 (gd w_26 (bif w_25 then (ofSlots (C.ti Qe) (List.take (C.ti Qe).size (List.drop 3 c3))) else none)) fun v47 =>
 bindB (Slot.isB v44 false) fun w_27 =>
 bind1 (gd w_27 (unS .not v47)) fun v48 =>
 bindB (Slot.isB v44 false) fun w_28 =>
 bindB (Slot.isB (gdV w_28 v48) true) fun w_29 =>
 bindB (Slot.isB (gdV w_28 v48) true) fun w_30 =>
 bind1 (gd w_30 (bif w_29 then (ofSlots (C.ti Qx) (List.take (C.ti Qx).size (List.drop 6 c1))) else none)) fun v51 =>
 bindB (Slot.isB (gdV w_28 v48) true) fun w_31 =>
 bind1 (gd w_31 (lenS (C.ti Qx) v51)) fun v52 =>
 bindB (Slot.isB (gdV w_28 v48) true) fun w_32 =>
 bind1 (gd w_32 (binS (C.ti Q1) .gtr v52 (.val (.int .i64 0)))) fun v53 =>
 bindB (Slot.isB v44 false) fun w_33 =>
 bind1 (gd w_33 (pickS (gdV w_28 v48) v53 (.val (.bool false)))) fun v54 =>
 bind1 (pickS v44 (.val (.bool true)) v54) fun v55 =>
 bindB (Slot.isB v55 false) fun w_34 =>
 bindB (Slot.isB v55 false) fun w_35 =>
 bind1 (gd w_35 (bif w_34 then (ofSlots (C.ti Q1) (List.take (C.ti Q1).size (List.drop 5 c3))) else none)) fun v58 =>
 bindB (Slot.isB v55 false) fun w_36 =>
 bind1 (gd w_36 (binS (C.ti Q1) .eql v58 (.val (.int .i64 0)))) fun v59 =>
 bindB (Slot.isB v55 false) fun w_37 =>
 bindB (Slot.isB (gdV w_37 v59) true) fun w_38 =>
 bindB (Slot.isB (gdV w_37 v59) true) fun w_39 =>
 bind1 (gd w_39 (bif w_38 then (ofSlots (C.ti QF) (List.take (C.ti QF).size (List.drop 4 c1))) else none)) fun v62 =>
 bindB (Slot.isB (gdV w_37 v59) true) fun w_40 =>
 bind1 (gd w_40 (lenS (C.ti QF) v62)) fun v63 =>
 bindB (Slot.isB (gdV w_37 v59) true) fun w_41 =>
 bind1 (gd w_41 (binS (C.ti Q1) .gtr v63 (.val (.int .i64 0)))) fun v64 =>
 bindB (Slot.isB v55 false) fun w_42 =>
 bind1 (gd w_42 (pickS (gdV w_37 v59) v64 (.val (.bool false)))) fun v65 =>
 bind1 (pickS v55 (.val (.bool true)) v65) fun v66 =>
 condS v66 (
 some (.ret (.val (.int .i64 29)), s_1)) (
 bind1 (ofSlots (C.ti Q3) (List.take (C.ti Q3).size (List.drop 0 c1))) fun v69 =>
 bind1 (binS (C.ti Q3) .eql v69 (.val (.int .i64 2))) fun v70 =>
 bindB (Slot.isB v70 true) fun w_43 =>
 bindB (Slot.isB v70 true) fun w_44 =>
 bind1 (gd w_44 (bif w_43 then (ofSlots (C.ti Q2) (List.take (C.ti Q2).size (List.drop 2 c1))) else none)) fun v73 =>
 bindB (Slot.isB v70 true) fun w_45 =>
 back (cal cw w_45 (tgtV (.val (.fn Q0c [])) [v73]) s_1) fun v74 s_2 =>
 bindB (Slot.isB v70 true) fun w_46 =>
 bind1 (gd w_46 (unS .not v74)) fun v75 =>
 bind1 (pickS v70 v75 (.val (.bool false))) fun v76 =>
 bindB (Slot.isB v76 false) fun w_47 =>
 bindB (Slot.isB v76 false) fun w_48 =>
 bind1 (gd w_48 (bif w_47 then (ofSlots (C.ti Q3) (List.take (C.ti Q3).size (List.drop 0 c1))) else none)) fun v79 =>
 bindB (Slot.isB v76 false) fun w_49 =>
 bind1 (gd w_49 (binS (C.ti Q3) .eql v79 (.val (.int .i64 3)))) fun v80 =>
 bindB (Slot.isB v76 false) fun w_50 =>
 bindB (Slot.isB (gdV w_50 v80) true) fun w_51 =>
 bindB (Slot.isB (gdV w_50 v80) true) fun w_52 =>
 bind1 (gd w_52 (bif w_51 then (ofSlots (C.ti Q2) (List.take (C.ti Q2).size (List.drop 2 c1))) else none)) fun v83 =>
 bindB (Slot.isB (gdV w_50 v80) true) fun w_53 =>
 back (cal cw w_53 (tgtV (.val (.fn ZB [])) [v83]) s_2) fun v84 s_3 =>
 bindB (Slot.isB (gdV w_50 v80) true) fun w_54 =>
 bind1 (gd w_54 (unS .not v84)) fun v85 =>
 bindB (Slot.isB v76 false) fun w_55 =>
 bind1 (gd w_55 (pickS (gdV w_50 v80) v85 (.val (.bool false)))) fun v86 =>
 bind1 (pickS v76 (.val (.bool true)) v86) fun v87 =>
 condS v87 (
 some (.ret (.val (.int .i64 8)), s_3)) (
 bind1 (ofSlots (C.ti Q3) (List.take (C.ti Q3).size (List.drop 0 c1))) fun v90 =>
 bind1 (binS (C.ti Q3) .eql v90 (.val (.int .i64 1))) fun v91 =>
 bindB (Slot.isB v91 true) fun w_56 =>
 bindB (Slot.isB v91 true) fun w_57 =>
 bind1 (gd w_57 (bif w_56 then (ofSlots (C.ti Q1) (List.take (C.ti Q1).size (List.drop 3 c1))) else none)) fun v94 =>
 bindB (Slot.isB v91 true) fun w_58 =>
 back (cal cw w_58 (tgtV (.val (.fn Q1i [])) [v94]) s_3) fun v95 s_4 =>
 bindB (Slot.isB v91 true) fun w_59 =>
 bind1 (gd w_59 (unS .not v95)) fun v96 =>
 bind1 (pickS v91 v96 (.val (.bool false))) fun v97 =>
 bindB (Slot.isB v97 false) fun w_60 =>
 bindB (Slot.isB v97 false) fun w_61 =>
 bind1 (gd w_61 (bif w_60 then (ofSlots (C.ti Q3) (List.take (C.ti Q3).size (List.drop 0 c1))) else none)) fun v100 =>
 bindB (Slot.isB v97 false) fun w_62 =>
 bind1 (gd w_62 (binS (C.ti Q3) .eql v100 (.val (.int .i64 13)))) fun v101 =>
 bindB (Slot.isB v97 false) fun w_63 =>
 bindB (Slot.isB (gdV w_63 v101) true) fun w_64 =>
 bindB (Slot.isB (gdV w_63 v101) true) fun w_65 =>
 bind1 (gd w_65 (bif w_64 then (ofSlots (C.ti Q1) (List.take (C.ti Q1).size (List.drop 3 c1))) else none)) fun v104 =>
 bindB (Slot.isB (gdV w_63 v101) true) fun w_66 =>
 bind1 (gd w_66 (binS (C.ti Q1) .lss v104 (.val (.int .i64 1)))) fun v105 =>
 bindB (Slot.isB (gdV w_63 v101) true) fun w_67 =>
 bindB (Slot.isB (gdV w_67 v105) false) fun w_68 =>
 bindB (Slot.isB (gdV w_67 v105) false) fun w_69 =>
 bind1 (gd w_69 (bif w_68 then (ofSlots (C.ti Q1) (List.take (C.ti Q1).size (List.drop 3 c1))) else none)) fun v108 =>
 bindB (Slot.isB (gdV w_67 v105) false) fun w_70 =>
 bind1 (gd w_70 (binS (C.ti Q1) .gtr v108 (.val (.int .i64 9)))) fun v109 =>
 bindB (Slot.isB (gdV w_63 v101) true) fun w_71 =>
 bind1 (gd w_71 (pickS (gdV w_67 v105) (.val (.bool true)) v109)) fun v110 =>
 bindB (Slot.isB v97 false) fun w_72 =>
 bind1 (gd w_72 (pickS (gdV w_63 v101) v110 (.val (.bool false)))) fun v111 =>
 bind1 (pickS v97 (.val (.bool true)) v111) fun v112 =>
 condS v112 (
 some (.ret (.val (.int .i64 2)), s_4)) (
 bind1 (ofSlots (C.ti QF) (List.take (C.ti QF).size (List.drop 4 c1))) fun v115 =>
 bind1 (lenS (C.ti QF) v115) fun v116 =>
 bind1 (ofSlots (C.ti Q1) (List.take (C.ti Q1).size (List.drop 4 c3))) fun v118 =>
 bind1 (binS (C.ti Q1) .lss v116 v118) fun v119 =>
 bindB (Slot.isB v119 false) fun w_73 =>
 bindB (Slot.isB v119 false) fun w_74 =>
 bind1 (gd w_74 (bif w_73 then (ofSlots (C.ti QF) (List.take (C.ti QF).size (List.drop 4 c1))) else none)) fun v122 =>
 bindB (Slot.isB v119 false) fun w_75 =>
 bind1 (gd w_75 (lenS (C.ti QF) v122)) fun v123 =>
 bindB (Slot.isB v119 false) fun w_76 =>
 bindB (Slot.isB v119 false) fun w_77 =>
 bind1 (gd w_77 (bif w_76 then (ofSlots (C.ti Q1) (List.take (C.ti Q1).size (List.drop 5 c3))) else none)) fun v125 =>
 bindB (Slot.isB v119 false) fun w_78 =>
 bind1 (gd w_78 (binS (C.ti Q1) .gtr v123 v125)) fun v126 =>
 bind1 (pickS v119 (.val (.bool true)) v126) fun v127 =>
 bindB (Slot.isB v127 false) fun w_79 =>
 bindB (Slot.isB v127 false) fun w_80 =>
 bind1 (gd w_80 (bif w_79 then (ofSlots (C.ti Qe) (List.take (C.ti Qe).size (List.drop 2 c3))) else none)) fun v130 =>
 bindB (Slot.isB v127 false) fun w_81 =>
 bindB (Slot.isB (gdV w_81 v130) true) fun w_82 =>
 bindB (Slot.isB (gdV w_81 v130) true) fun w_83 =>
 bind1 (gd w_83 (bif w_82 then (ofSlots (C.ti Qv) (List.take (C.ti Qv).size (List.drop 5 c1))) else none)) fun v133 =>
 bindB (Slot.isB (gdV w_81 v130) true) fun w_84 =>
 bind1 (gd w_84 (lenS (C.ti Qv) v133)) fun v134 =>
 bindB (Slot.isB (gdV w_81 v130) true) fun w_85 =>
 bind1 (gd w_85 (binS (C.ti Q1) .eql v134 (.val (.int .i64 0)))) fun v135 =>
 bindB (Slot.isB v127 false) fun w_86 =>
 bind1 (gd w_86 (pickS (gdV w_81 v130) v135 (.val (.bool false)))) fun v136 =>
 bind1 (pickS v127 (.val (.bool true)) v136) fun v137 =>
 bindB (Slot.isB v137 false) fun w_87 =>
 bindB (Slot.isB v137 false) fun w_88 =>
 bind1 (gd w_88 (bif w_87 then (ofSlots (C.ti Qe) (List.take (C.ti Qe).size (List.drop 3 c3))) else none)) fun v140 =>
 bindB (Slot.isB v137 false) fun w_89 =>
 bindB (Slot.isB (gdV w_89 v140) true) fun w_90 =>
 bindB (Slot.isB (gdV w_89 v140) true) fun w_91 =>
 bind1 (gd w_91 (bif w_90 then (ofSlots (C.ti Qx) (List.take (C.ti Qx).size (List.drop 6 c1))) else none)) fun v143 =>
 bindB (Slot.isB (gdV w_89 v140) true) fun w_92 =>
 bind1 (gd w_92 (lenS (C.ti Qx) v143)) fun v144 =>
 bindB (Slot.isB (gdV w_89 v140) true) fun w_93 =>
 bind1 (gd w_93 (binS (C.ti Q1) .eql v144 (.val (.int .i64 0)))) fun v145 =>
 bindB (Slot.isB v137 false) fun w_94 =>
 bind1 (gd w_94 (pickS (gdV w_89 v140) v145 (.val (.bool false)))) fun v146 =>
 bind1 (pickS v137 (.val (.bool true)) v146) fun v147 =>
 condS v147 (
 some (.ret (.val (.int .i64 19)), s_4)) (
 some (.ret (.val (.int .i64 0)), s_4))))) := (Q7 _ _ _).trans (by kernel_rfl)
noncomputable def QE : List Slot → Slot → Slot → Slot → Slot → St → Res := fun x1 x3 x4 x5 x6 s => pwD Q0v [.seqR, .seqR, .seqR] Try.f62 [(1, .var x1), (3, .s x3), (4, .s x4), (5, .s x5), (6, .s x6)] s
theorem Q4t : ∀ x1 x3 x4 x5 x6 s_1, QE x1 x3 x4 x5 x6 s_1 =
 nt x3 fun v23 =>
 iT v23 fun w =>
 iT v23 fun w_1 =>
 gG w_1 w Q2 2 x1 fun v26 =>
 iT v23 fun w_2 =>
 gB w_2 Q2 .neq v26 (sv []) fun v27 =>
 pk v23 v27 (bv false) fun v28 =>
 iF v28 fun w_3 =>
 iF v28 fun w_4 =>
 bind1 (gd w_4 (unS .not (gdV w_3 x4))) fun v31 =>
 iF v28 fun w_5 =>
 bindB (Slot.isB (gdV w_5 v31) true) fun w_6 =>
 bindB (Slot.isB (gdV w_5 v31) true) fun w_7 =>
 gG w_7 w_6 Q1 3 x1 fun v34 =>
 bindB (Slot.isB (gdV w_5 v31) true) fun w_8 =>
 gB w_8 Q1 .neq v34 (iv 0) fun v35 =>
 iF v28 fun w_9 =>
 bind1 (gd w_9 (pickS (gdV w_5 v31) v35 (bv false))) fun v36 =>
 pk v28 (bv true) v36 fun v37 =>
 iF v37 fun w_10 =>
 iF v37 fun w_11 =>
 gB w_11 Q1 .eql (gdV w_10 x6) (iv 0) fun v40 =>
 iF v37 fun w_12 =>
 bindB (Slot.isB (gdV w_12 v40) true) fun w_13 =>
 bindB (Slot.isB (gdV w_12 v40) true) fun w_14 =>
 gG w_14 w_13 QW 4 x1 fun v43 =>
 bindB (Slot.isB (gdV w_12 v40) true) fun w_15 =>
 gL w_15 QW v43 fun v44 =>
 bindB (Slot.isB (gdV w_12 v40) true) fun w_16 =>
 gB w_16 Q1 .gtr v44 (iv 0) fun v45 =>
 iF v37 fun w_17 =>
 bind1 (gd w_17 (pickS (gdV w_12 v40) v45 (bv false))) fun v46 =>
 pk v37 (bv true) v46 fun v47 =>
 condS v47 (
 some (.ret (iv 29), s_1)) (
 gC QA 0 x1 fun v50 =>
 bn QA .eql v50 (iv 4) fun v51 =>
 iT v51 fun w_18 =>
 iT v51 fun w_19 =>
 gG w_19 w_18 Q2 2 x1 fun v54 =>
 iT v51 fun w_20 =>
 cg w_20 ZB [v54] s_1 fun v55 s_2 =>
 iT v51 fun w_21 =>
 gN w_21 v55 fun v56 =>
 pk v51 v56 (bv false) fun v57 =>
 iF v57 fun w_22 =>
 iF v57 fun w_23 =>
 bindB (Slot.isB (gdV w_23 (gdV w_22 x3)) true) fun w_24 =>
 bindB (Slot.isB (gdV w_23 (gdV w_22 x3)) true) fun w_25 =>
 gG w_25 w_24 QA 0 x1 fun v62 =>
 bindB (Slot.isB (gdV w_23 (gdV w_22 x3)) true) fun w_26 =>
 gB w_26 QA .neq v62 (iv 4) fun v63 =>
 iF v57 fun w_27 =>
 bind1 (gd w_27 (pickS (gdV w_23 (gdV w_22 x3)) v63 (bv false))) fun v64 =>
 iF v57 fun w_28 =>
 bindB (Slot.isB (gdV w_28 v64) true) fun w_29 =>
 bindB (Slot.isB (gdV w_28 v64) true) fun w_30 =>
 gG w_30 w_29 Q2 2 x1 fun v67 =>
 bindB (Slot.isB (gdV w_28 v64) true) fun w_31 =>
 cg w_31 Q0c [v67] s_2 fun v68 s_3 =>
 bindB (Slot.isB (gdV w_28 v64) true) fun w_32 =>
 gN w_32 v68 fun v69 =>
 iF v57 fun w_33 =>
 bind1 (gd w_33 (pickS (gdV w_28 v64) v69 (bv false))) fun v70 =>
 pk v57 (bv true) v70 fun v71 =>
 condS v71 (
 some (.ret (iv 8), s_3)) (
 iT x4 fun w_34 =>
 iT x4 fun w_35 =>
 gG w_35 w_34 Q1 3 x1 fun v76 =>
 iT x4 fun w_36 =>
 cg w_36 Q1i [v76] s_3 fun v77 s_4 =>
 iT x4 fun w_37 =>
 gN w_37 v77 fun v78 =>
 pk x4 v78 (bv false) fun v79 =>
 condS v79 (
 some (.ret (iv 2), s_4)) (
 gC QW 4 x1 fun v82 =>
 ln QW v82 fun v83 =>
 bn Q1 .lss v83 x5 fun v85 =>
 iF v85 fun w_38 =>
 iF v85 fun w_39 =>
 gG w_39 w_38 QW 4 x1 fun v88 =>
 iF v85 fun w_40 =>
 gL w_40 QW v88 fun v89 =>
 iF v85 fun w_41 =>
 iF v85 fun w_42 =>
 gB w_42 Q1 .gtr v89 (gdV w_41 x6) fun v91 =>
 pk v85 (bv true) v91 fun v92 =>
 condS v92 (
 some (.ret (iv 19), s_4)) (
 some (.ret (iv 0), s_4))))) := by intros; unfold QE; exact (Q1x _).trans (by kernel_rfl)
theorem Q6c (a0 : AV) (s : St) : cw (.f Q0v) [a0] s =
 bx Q0d (.val a0) fun c1 =>
 gC QA 0 c1 fun v8 =>
 bn QA .eql v8 (iv 1) fun v10 =>
 condS v10 (
 QE c1 (bv false) (bv false) (iv 0) (iv 0) s) (
 bn QA .eql v8 (iv 2) fun v12 =>
 condS v12 (
 QE c1 (bv true) (bv false) (iv 0) (iv 0) s) (
 bn QA .eql v8 (iv 3) fun v14 =>
 condS v14 (
 QE c1 (bv false) (bv true) (iv 0) (iv 0) s) (
 bn QA .eql v8 (iv 4) fun v16 =>
 condS v16 (
 QE c1 (bv true) (bv false) (iv 0) (iv 1) s) (
 bn QA .eql v8 (iv 5) fun v18 =>
 condS v18 (
 QE c1 (bv false) (bv false) (iv 2) (iv 8) s) (
 bn QA .eql v8 (iv 6) fun v20 =>
 condS v20 (
 QE c1 (bv true) (bv false) (iv 1) (iv 1) s) (
 some (.ret (iv 29), s))))))) := (Q7 _ _ _).trans (by kernel_rfl)
noncomputable def QV : Slot → Slot → Slot → St → Res := fun x3_1 x4_1 x5_1 s => pwD ZW [.seqR, .seqR, .seqR, .seqR, .seqR] Try.f63 [(3, .s x3_1), (4, .s x4_1), (5, .s x5_1)] s
noncomputable def Ze : List Slot → Slot → Slot → Slot → Slot → Slot → St → Res := fun x1 x3 x4 x5 x56 x61 s => pwD ZW [.seqR, .seqR, .seqR, .seqR, .seqL, .seqR, .block, .seqR] Try.f63 [(1, .var x1), (3, .s x3), (4, .s x4), (5, .s x5), (56, .s x56), (61, .s x61)] s
theorem Q5b : ∀ x3_1 x4_1 x5_1 s_2, QV x3_1 x4_1 x5_1 s_2 =
 bn Q1 .lss x3_1 x4_1 fun v74 =>
 iF v74 fun w_26 =>
 iF v74 fun w_27 =>
 iF v74 fun w_28 =>
 gB w_28 Q1 .gtr (gdV w_26 x3_1) (gdV w_27 x5_1) fun v78 =>
 pk v74 (bv true) v78 fun v79 =>
 condS v79 (
 some (.ret (iv 19), s_2)) (
 some (.ret (iv 0), s_2)) := by intros; unfold QV; exact (Q1x _).trans (by kernel_rfl)
theorem Q5a : ∀ x1 x3 x4 x5 x56 x61 s_1, Ze x1 x3 x4 x5 x56 x61 s_1 =
 condS x61 (
 QV x3 x4 x5 s_1) (
 bn Q2 .eql x56 (sv [114, 101, 102]) fun v67 =>
 condS v67 (
 QV x3 (iv 1) (iv 1) s_1) (
 bn Q2 .eql x56 (sv [45, 62]) fun v69 =>
 condS v69 (
 QV x3 (iv 2) (iv 2) s_1) (
 bn Q2 .eql x56 (sv [42]) fun v71 =>
 condS v71 (
 QV x3 (iv 2) (iv 8) s_1) (
 gC Q2 2 x1 fun v58 =>
 ca Q0c [v58] s_1 fun v59 s_3 =>
 nt v59 fun v60 =>
 condS v60 (
 some (.ret (iv 8), s_3)) (
 QV x3 x4 (iv 8) s_3))))) := by intros; unfold Ze; exact (Q1x _).trans (by kernel_rfl)
theorem Q78 (a0 : AV) (s : St) : cw (.f ZW) [a0] s =
 bx Q4 (.val a0) fun c1 =>
 gC Q9 3 c1 fun v7 =>
 ln Q9 v7 fun v8 =>
 gC Qg 0 c1 fun v11 =>
 bn Qg .eql v11 (iv 1) fun v12 =>
 iT v12 fun w =>
 iT v12 fun w_1 =>
 gG w_1 w Q2 2 c1 fun v15 =>
 iT v12 fun w_2 =>
 gB w_2 Q2 .neq v15 (sv []) fun v16 =>
 iT v12 fun w_3 =>
 bindB (Slot.isB (gdV w_3 v16) false) fun w_4 =>
 bindB (Slot.isB (gdV w_3 v16) false) fun w_5 =>
 gB w_5 Q1 .gtr (gdV w_4 v8) (iv 0) fun v19 =>
 iT v12 fun w_6 =>
 bind1 (gd w_6 (pickS (gdV w_3 v16) (bv true) v19)) fun v20 =>
 pk v12 v20 (bv false) fun v21 =>
 iF v21 fun w_7 =>
 iF v21 fun w_8 =>
 gG w_8 w_7 Qg 0 c1 fun v24 =>
 iF v21 fun w_9 =>
 gB w_9 Qg .eql v24 (iv 2) fun v25 =>
 iF v21 fun w_10 =>
 bindB (Slot.isB (gdV w_10 v25) true) fun w_11 =>
 bindB (Slot.isB (gdV w_10 v25) true) fun w_12 =>
 gG w_12 w_11 Q1 1 c1 fun v28 =>
 bindB (Slot.isB (gdV w_10 v25) true) fun w_13 =>
 gB w_13 Q1 .neq v28 (iv 0) fun v29 =>
 iF v21 fun w_14 =>
 bind1 (gd w_14 (pickS (gdV w_10 v25) v29 (bv false))) fun v30 =>
 pk v21 (bv true) v30 fun v31 =>
 iF v31 fun w_15 =>
 iF v31 fun w_16 =>
 gG w_16 w_15 Qg 0 c1 fun v34 =>
 iF v31 fun w_17 =>
 gB w_17 Qg .neq v34 (iv 1) fun v35 =>
 iF v31 fun w_18 =>
 bindB (Slot.isB (gdV w_18 v35) true) fun w_19 =>
 bindB (Slot.isB (gdV w_18 v35) true) fun w_20 =>
 gG w_20 w_19 Qg 0 c1 fun v38 =>
 bindB (Slot.isB (gdV w_18 v35) true) fun w_21 =>
 gB w_21 Qg .neq v38 (iv 2) fun v39 =>
 iF v31 fun w_22 =>
 bind1 (gd w_22 (pickS (gdV w_18 v35) v39 (bv false))) fun v40 =>
 pk v31 (bv true) v40 fun v41 =>
 condS v41 (
 some (.ret (iv 29), s)) (
 gC Qg 0 c1 fun v44 =>
 bn Qg .eql v44 (iv 1) fun v45 =>
 iT v45 fun w_23 =>
 iT v45 fun w_24 =>
 gG w_24 w_23 Q1 1 c1 fun v48 =>
 iT v45 fun w_25 =>
 gB w_25 Q1 .lss v48 (iv 0) fun v49 =>
 pk v45 v49 (bv false) fun v50 =>
 condS v50 (
 some (.ret (iv 2), s)) (
 gC Qg 0 c1 fun v53 =>
 bn Qg .eql v53 (iv 1) fun v54 =>
 condS v54 (
 some (.ret (iv 0), s)) (
 gC Q2 2 c1 fun v56 =>
 bn Q2 .eql v56 (sv [105, 110, 116]) fun v62 =>
 condS v62 (
 Ze c1 v8 (iv 0) (iv 0) v56 v62 s) (
 bn Q2 .eql v56 (sv [98, 111, 111, 108]) fun v63 =>
 condS v63 (
 Ze c1 v8 (iv 0) (iv 0) v56 v63 s) (
 bn Q2 .eql v56 (sv [117, 110, 105, 116]) fun v64 =>
 condS v64 (
 Ze c1 v8 (iv 0) (iv 0) v56 v64 s) (
 bn Q2 .eql v56 (sv [101, 120, 110]) fun v65 =>
 Ze c1 v8 (iv 0) (iv 0) v56 v65 s)))))) := (Q7 _ _ _).trans (by kernel_rfl)
noncomputable def QT : Slot → List Slot → Slot → Slot → St → Res := fun x1 x2 x7 x8 s => lpD QK [.seqR, .seqL, .seqR, .block] Try.f64 [(1, .s x1), (2, .var x2), (7, .s x7), (8, .s x8)] s
theorem Q0M : ∀ x1 x2 x7 x8 s_1, QT x1 x2 x7 x8 s_1 =
 bn Q1 .lss x8 x7 fun v9 =>
 condS v9 (
 gA Ql x2 fun v11 =>
 ix Zg x1 x8 fun v14 =>
 fa 0 v14 fun v15 =>
 cn QQ [v11, v15] s_1 fun v16 s_2 =>
 nt v16 fun v17 =>
 iF v17 fun w =>
 bind1 (gd w (ofSlots (C.ti Ql) (List.take (C.ti Ql).size x2))) fun v19 =>
 iF v17 fun w_1 =>
 iF v17 fun w_2 =>
 iF v17 fun w_3 =>
 bind1 (gd w_3 (ixS (C.ti Zg).size (gdV w_1 x1) (gdV w_2 x8))) fun v22 =>
 iF v17 fun w_4 =>
 bind1 (gd w_4 (faV 5 v22)) fun v23 =>
 iF v17 fun w_5 =>
 back (noPan (cal cw w_5 (tgtV (.val (.fn Z6 [])) [v19, v23]) s_2)) fun v24 s_3 =>
 iF v17 fun w_6 =>
 gN w_6 v24 fun v25 =>
 pk v17 (bv true) v25 fun v26 =>
 condS v26 (
 some (.ret (bv false), s_3)) (
 nx x8 fun v27 =>
 QT x1 x2 x7 v27 s_3)) (
 some (.ret (bv true), s_1)) := by intros; unfold QT; exact (Qi _ _ _ _ _ _).trans (by kernel_rfl)
theorem Q1B (a0 : AV) (a1 : AV) (s : St) : cw (.f QK) [a0, a1] s =
 bx Ql (.val a0) fun c2 =>
 ln Qv (.val a1) fun v7 =>
 QT (.val a1) c2 v7 (iv 0) s := (Q7 _ _ _).trans (by kernel_rfl)
noncomputable def QU : Slot → Slot → List Slot → Slot → Slot → St → Res := fun x1 x2 x3 x19 x20 s => lpD QL [.seqR, .seqR, .seqL, .seqR, .block] Try.f65 [(1, .s x1), (2, .s x2), (3, .var x3), (19, .s x19), (20, .s x20)] s
theorem Q0N : ∀ x1 x2 x3 x19 x20 s_2, QU x1 x2 x3 x19 x20 s_2 =
 bn Q1 .lss x20 x19 fun v21 =>
 condS v21 (
 gA Ql x3 fun v23 =>
 bind1 (nilCheckV x1) fun v25 =>
 fa 3 v25 fun v26 =>
 ld Q9 s_2 v26 fun v27 =>
 ix Q4 v27 x20 fun v29 =>
 cn QL [v23, v29, x2] s_2 fun v31 s_3 =>
 nt v31 fun v32 =>
 condS v32 (
 some (.ret (bv false), s_3)) (
 nx x20 fun v33 =>
 QU x1 x2 x3 x19 v33 s_3)) (
 some (.ret (bv true), s_2)) := by intros; unfold QU; exact (Qi _ _ _ _ _ _).trans (by kernel_rfl)
theorem Q42 (a0 : AV) (a1 : AV) (a2 : AV) (s : St) : cw (.f QL) [a0, a1, a2] s =
 bx Ql (.val a0) fun c3 =>
 gC Qf 0 c3 fun v9 =>
 bd Qy [(6, Q1X, (.val a1)), (7, Q1, (.val a2))] fun v12 =>
 back (cal cw true (tgtV v9 [v12]) s) fun v13 s_1 =>
 nt v13 fun v14 =>
 condS v14 (
 some (.ret (bv false), s_1)) (
 bind1 (nilCheckV (.val a1)) fun v16 =>
 fa 3 v16 fun v17 =>
 ld Q9 s_1 v17 fun v18 =>
 ln Q9 v18 fun v19 =>
 QU (.val a1) (.val a2) c3 v19 (iv 0) s_1) := (Q7 _ _ _).trans (by kernel_rfl)
noncomputable def ZJ : Slot → Slot → Slot → Slot → St → Res := fun x3 x7 x8 x9 s => lpD Zn [.seqR, .seqR, .seqL, .seqR, .block] Try.f66 [(3, .s x3), (7, .s x7), (8, .s x8), (9, .s x9)] s
theorem Q26 : ∀ x3 x7 x8 x9 s_1, ZJ x3 x7 x8 x9 s_1 =
 bn Q1 .lss x9 x8 fun v10 =>
 condS v10 (
 ix Q0d x7 x9 fun v11 =>
 ld Q0d s_1 v11 fun v12 =>
 bx Q0d v12 fun c =>
 pZ Q0d c fun c5 =>
 gA Q0d c5 fun v14 =>
 ca Zn [v14] s_1 fun v15 s_2 =>
 bind1 (max2 x3 v15) fun v16 =>
 nx x9 fun v17 =>
 ZJ v16 x7 x8 v17 s_2) (
 nx x3 fun v19 =>
 some (.ret v19, s_1)) := by intros; unfold ZJ; exact (Qi _ _ _ _ _ _).trans (by kernel_rfl)
theorem Q75 (a0 : AV) (s : St) : cw (.f Zn) [a0] s =
 bx Q0d (.val a0) fun c1 =>
 gC QW 4 c1 fun v7 =>
 ln QW v7 fun v8 =>
 ZJ (iv 0) v7 v8 (iv 0) s := (Q7 _ _ _).trans (by kernel_rfl)
noncomputable def ZI : Slot → Slot → Slot → Slot → St → Res := fun x3 x14 x15 x16 s => lpD ZV [.seqR, .seqR, .seqL, .seqR, .block] Try.f67 [(3, .s x3), (14, .s x14), (15, .s x15), (16, .s x16)] s
theorem Q25 : ∀ x3 x14 x15 x16 s_3, ZI x3 x14 x15 x16 s_3 =
 bn Q1 .lss x16 x15 fun v17 =>
 condS v17 (
 ix ZQ x14 x16 fun v18 =>
 ld ZQ s_3 v18 fun v19 =>
 bx ZQ v19 fun c =>
 pZ ZQ c fun c5 =>
 gA ZQ c5 fun v21 =>
 ca ZV [v21] s_3 fun v22 s_4 =>
 bind1 (max2 x3 v22) fun v23 =>
 nx x16 fun v24 =>
 ZI v23 x14 x15 v24 s_4) (
 nx x3 fun v26 =>
 some (.ret v26, s_3)) := by intros; unfold ZI; exact (Qi _ _ _ _ _ _).trans (by kernel_rfl)
theorem Q74 (a0 : AV) (s : St) : cw (.f ZV) [a0] s =
 bx ZQ (.val a0) fun c1 =>
 gC Qx 6 c1 fun v7 =>
 cn QI [v7] s fun v8 s_1 =>
 gC Qv 5 c1 fun v10 =>
 cn QN [v10] s_1 fun v11 s_2 =>
 bind1 (max2 v8 v11) fun v12 =>
 gC QF 4 c1 fun v14 =>
 ln QF v14 fun v15 =>
 ZI v12 v14 v15 (iv 0) s_2 := (Q7 _ _ _).trans (by kernel_rfl)
theorem Q8z (a0 : AV) (s : St) : cw (.f Q1l) [a0] s =
 bn Zo .geq (.val a0) (.val (.int .u8 97)) fun v4 =>
 iT v4 fun w =>
 iT v4 fun w_1 =>
 gB w_1 Zo .leq (gdV w (.val a0)) (.val (.int .u8 122)) fun v7 =>
 pk v4 v7 (bv false) fun v8 =>
 iF v8 fun w_2 =>
 iF v8 fun w_3 =>
 gB w_3 Zo .eql (gdV w_2 (.val a0)) (.val (.int .u8 95)) fun v11 =>
 pk v8 (bv true) v11 fun v12 =>
 some (.ret v12, s) := (Q7 _ _ _).trans (by kernel_rfl)
noncomputable def Q0Y : Slot → Slot → St → Res := fun x0 x3 s => lpD Q1k [.seqR, .seqL, .seqR, .block] Try.f71 [(0, .s x0), (3, .s x3)] s
theorem Q3J : ∀ x0 x3 s_1, Q0Y x0 x3 s_1 =
 ln Q2 x0 fun v7 =>
 bn Q1 .lss x3 v7 fun v8 =>
 condS v8 (
 bind1 (indexS (C.ti Q2) (C.ti T_0) x0 x3) fun v13 =>
 ca Q1l [v13] s_1 fun v15 s_2 =>
 nt v15 fun v16 =>
 iT v16 fun w =>
 iT v16 fun w_1 =>
 cg w_1 Q1h [(gdV w v13)] s_2 fun v19 s_3 =>
 iT v16 fun w_2 =>
 gN w_2 v19 fun v20 =>
 pk v16 v20 (bv false) fun v21 =>
 iT v21 fun w_3 =>
 iT v21 fun w_4 =>
 gB w_4 Zo .lss (gdV w_3 v13) (.val (.int .u8 48)) fun v24 =>
 iT v21 fun w_5 =>
 bindB (Slot.isB (gdV w_5 v24) false) fun w_6 =>
 bindB (Slot.isB (gdV w_5 v24) false) fun w_7 =>
 gB w_7 Zo .gtr (gdV w_6 v13) (.val (.int .u8 57)) fun v27 =>
 iT v21 fun w_8 =>
 bind1 (gd w_8 (pickS (gdV w_5 v24) (bv true) v27)) fun v28 =>
 pk v21 v28 (bv false) fun v29 =>
 iT v29 fun w_9 =>
 iT v29 fun w_10 =>
 gB w_10 Zo .neq (gdV w_9 v13) (.val (.int .u8 39)) fun v32 =>
 pk v29 v32 (bv false) fun v33 =>
 condS v33 (
 some (.ret (bv false), s_3)) (
 nx x3 fun v10 =>
 Q0Y x0 v10 s_3)) (
 ln Q2 x0 fun v35 =>
 bn Q1 .leq v35 (iv 32) fun v36 =>
 some (.ret v36, s_1)) := by intros; unfold Q0Y; exact (Qi _ _ _ _ _ _).trans (by kernel_rfl)
theorem Q9U (a0 : AV) (s : St) : cw (.f Q1k) [a0] s =
 Q0Y (.val a0) (iv 1) s := (Q7 _ _ _).trans (by kernel_rfl)
theorem Q72 (a0 : AV) (s : St) : cw (.f Q0F) [a0] s =
 bn Q2 .neq (.val a0) (sv []) fun v4 =>
 iT v4 fun w =>
 iT v4 fun w_1 =>
 bind1 (gd w_1 (indexS (C.ti Q2) (C.ti T_0) (gdV w (.val a0)) (iv 0))) fun v7 =>
 iT v4 fun w_2 =>
 cg w_2 Q1h [v7] s fun v8 s_1 =>
 pk v4 v8 (bv false) fun v9 =>
 iT v9 fun w_3 =>
 iT v9 fun w_4 =>
 cg w_4 Q1k [(gdV w_3 (.val a0))] s_1 fun v12 s_2 =>
 pk v9 v12 (bv false) fun v13 =>
 some (.ret v13, s_2) := (Q7 _ _ _).trans (by kernel_rfl)
end Go.Proofs.Ytoahliipbclneaa