/- A part of the proof: G2. -/
import Derived.Test.YtinphnakebeloaaM4
set_option linter.unusedVariables false
set_option linter.unusedSimpArgs false
namespace Go.Proofs.Ytinphnakebeloaa
open Go Go.Am
set_option linter.unusedVariables false
noncomputable def Zq : Slot → Slot → Slot → List Slot → Slot → Slot → Slot → Slot → Slot → Slot → Slot → Slot → Slot → Slot → St → Res := fun x0_2 x3_2 x4_1 x5_1 x6_1 x23_2 x24_2 x25_2 x39_1 x40_1 x41_1 x49 x50 x51 s => lpD Qz [.seqR, .seqR, .seqR, .seqL, .seqR, .block, .loop, .seqR, .seqR, .seqL, .block, .seqR, .seqR, .seqL, .seqR, .thn, .seqR, .seqR, .block, .loop, .seqR, .seqR, .seqL, .block, .seqR, .seqR, .block] Try.f3 [(0, .s x0_2), (3, .s x3_2), (4, .s x4_1), (5, .var x5_1), (6, .s x6_1), (23, .s x23_2), (24, .s x24_2), (25, .s x25_2), (39, .s x39_1), (40, .s x40_1), (41, .s x41_1), (49, .s x49), (50, .s x50), (51, .s x51)] s
noncomputable def QR : Slot → Slot → Slot → Slot → Slot → Slot → St → Res := fun x0_5 x3_5 x4_4 x23_5 x24_5 x25_5 s => pwD Qz [.seqR, .seqR, .seqR, .seqL, .seqR, .block, .loop, .seqR, .seqR, .seqL, .block, .seqR, .seqR, .seqR, .seqR] Try.f3 [(0, .s x0_5), (3, .s x3_5), (4, .s x4_4), (23, .s x23_5), (24, .s x24_5), (25, .s x25_5)] s
noncomputable def Zr : Slot → Slot → Slot → Slot → Slot → Slot → Slot → Slot → Slot → Slot → St → Res := fun x0_4 x3_4 x4_3 x6_3 x23_4 x24_4 x25_4 x69 x70 x71 s => lpD Qz [.seqR, .seqR, .seqR, .seqL, .seqR, .block, .loop, .seqR, .seqR, .seqL, .block, .seqR, .seqR, .seqR, .seqL, .seqR, .thn, .seqL, .seqR, .block] Try.f3 [(0, .s x0_4), (3, .s x3_4), (4, .s x4_3), (6, .s x6_3), (23, .s x23_4), (24, .s x24_4), (25, .s x25_4), (69, .s x69), (70, .s x70), (71, .s x71)] s
noncomputable def Q02 : Slot → Slot → Slot → List Slot → Slot → Slot → Slot → Slot → St → Res := fun x0_3 x3_3 x4_2 x5_2 x6_2 x23_3 x24_3 x25_3 s => pwD Qz [.seqR, .seqR, .seqR, .seqL, .seqR, .block, .loop, .seqR, .seqR, .seqL, .block, .seqR, .seqR, .seqR] Try.f3 [(0, .s x0_3), (3, .s x3_3), (4, .s x4_2), (5, .var x5_2), (6, .s x6_2), (23, .s x23_3), (24, .s x24_3), (25, .s x25_3)] s
noncomputable def Z4 : Slot → Slot → Slot → List Slot → Slot → Slot → Slot → Slot → Slot → Slot → Slot → St → Res := fun x0_1 x3_1 x4 x5 x6 x23_1 x24_1 x25_1 x39 x40 x41 s => lpD Qz [.seqR, .seqR, .seqR, .seqL, .seqR, .block, .loop, .seqR, .seqR, .seqL, .block, .seqR, .seqR, .seqL, .seqR, .thn, .seqR, .seqR, .block] Try.f3 [(0, .s x0_1), (3, .s x3_1), (4, .s x4), (5, .var x5), (6, .s x6), (23, .s x23_1), (24, .s x24_1), (25, .s x25_1), (39, .s x39), (40, .s x40), (41, .s x41)] s
noncomputable def Zp : Slot → Slot → Slot → Slot → Slot → St → Res := fun x0 x3 x23 x24 x25 s => lpD Qz [.seqR, .seqR, .seqR, .seqL, .seqR, .block] Try.f3 [(0, .s x0), (3, .s x3), (23, .s x23), (24, .s x24), (25, .s x25)] s
theorem Q1X : ∀ x0_2 x3_2 x4_1 x5_1 x6_1 x23_2 x24_2 x25_2 x39_1 x40_1 x41_1 x49 x50 x51 s_9, Zq x0_2 x3_2 x4_1 x5_1 x6_1 x23_2 x24_2 x25_2 x39_1 x40_1 x41_1 x49 x50 x51 s_9 =
 bn Q1 .lss x51 x50 fun v52 =>
 condS v52 (
 ix Q2 x49 x51 fun v53 =>
 ld Q2 s_9 v53 fun v54 =>
 ca Q2E [x3_2, v54] s_9 fun v57 s_10 =>
 nt v57 fun v58 =>
 condS v58 (
 some (.ret (bv false), s_10)) (
 nx x51 fun v59 =>
 Zq x0_2 x3_2 x4_1 x5_1 x6_1 x23_2 x24_2 x25_2 x39_1 x40_1 x41_1 x49 x50 v59 s_10)) (
 nx x41_1 fun v60 =>
 Z4 x0_2 x3_2 x4_1 x5_1 x6_1 x23_2 x24_2 x25_2 x39_1 x40_1 v60 s_9) := by intros; unfold Zq; exact (Q9 _ _ _ _ _ _).trans (by kernel_rfl)
theorem Q5f : ∀ x0_5 x3_5 x4_4 x23_5 x24_5 x25_5 s_16, QR x0_5 x3_5 x4_4 x23_5 x24_5 x25_5 s_16 =
 bind1 (sliceS (C.ti Qp) (C.ti Qi).size x0_5 none (some x4_4) none) fun v85 =>
 ca ZA [v85] s_16 fun v86 s_17 =>
 bind1 (fieldS (C.ti Q6) (C.ti Qv) 0 v86) fun v87 =>
 bn Qv .neq v87 (iv 0) fun v88 =>
 condS v88 (
 some (.ret (bv false), s_17)) (
 nx x25_5 fun v89 =>
 Zp x0_5 x3_5 x23_5 x24_5 v89 s_17) := by intros; unfold QR; exact (Q0F _).trans (by kernel_rfl)
theorem Q1Y : ∀ x0_4 x3_4 x4_3 x6_3 x23_4 x24_4 x25_4 x69 x70 x71 s_13, Zr x0_4 x3_4 x4_3 x6_3 x23_4 x24_4 x25_4 x69 x70 x71 s_13 =
 bn Q1 .lss x71 x70 fun v72 =>
 condS v72 (
 ix Q2 x69 x71 fun v73 =>
 ld Q2 s_13 v73 fun v74 =>
 ca Q2E [x3_4, v74] s_13 fun v77 s_14 =>
 nt v77 fun v78 =>
 condS v78 (
 some (.ret (bv false), s_14)) (
 nx x71 fun v79 =>
 Zr x0_4 x3_4 x4_3 x6_3 x23_4 x24_4 x25_4 x69 x70 v79 s_14)) (
 ap Q2 s_13 x3_4 x6_3 fun v82 s_15 =>
 QR x0_4 v82 x4_3 x23_4 x24_4 x25_4 s_15) := by intros; unfold Zr; exact (Q9 _ _ _ _ _ _).trans (by kernel_rfl)
theorem Q0j : ∀ x0_3 x3_3 x4_2 x5_2 x6_2 x23_3 x24_3 x25_3 s_11, Q02 x0_3 x3_3 x4_2 x5_2 x6_2 x23_3 x24_3 x25_3 s_11 =
 gC Qe 0 x5_2 fun v62 =>
 bn Qe .eql v62 (iv 1) fun v63 =>
 condS v63 (
 gC Qj 5 x5_2 fun v65 =>
 ix Ql v65 (iv 0) fun v66 =>
 fa 5 v66 fun v67 =>
 ld Qm s_11 v67 fun v68 =>
 ca Q1B [v68] s_11 fun v69 s_12 =>
 ln Qa v69 fun v70 =>
 Zr x0_3 x3_3 x4_2 x6_2 x23_3 x24_3 x25_3 v69 v70 (iv 0) s_12) (
 QR x0_3 x3_3 x4_2 x23_3 x24_3 x25_3 s_11) := by intros; unfold Q02; exact (Q0F _).trans (by kernel_rfl)
theorem Q1W : ∀ x0_1 x3_1 x4 x5 x6 x23_1 x24_1 x25_1 x39 x40 x41 s_7, Z4 x0_1 x3_1 x4 x5 x6 x23_1 x24_1 x25_1 x39 x40 x41 s_7 =
 bn Q1 .lss x41 x40 fun v42 =>
 condS v42 (
 ix QX x39 x41 fun v43 =>
 ld QX s_7 v43 fun v44 =>
 bx QX v44 fun c_1 =>
 pZ QX c_1 fun c8 =>
 gC Ql 2 c8 fun v46 =>
 bs Ql [v46] fun v47 =>
 bd Qm [(0, Q3, (iv 5)), (5, Qj, v47)] fun v48 =>
 ca Q1B [v48] s_7 fun v49 s_8 =>
 ln Qa v49 fun v50 =>
 Zq x0_1 x3_1 x4 x5 x6 x23_1 x24_1 x25_1 x39 x40 x41 v49 v50 (iv 0) s_8) (
 Q02 x0_1 x3_1 x4 x5 x6 x23_1 x24_1 x25_1 s_7) := by intros; unfold Z4; exact (Q9 _ _ _ _ _ _).trans (by kernel_rfl)
theorem ZC : ∀ x0 x3 x23 x24 x25 s_4, Zp x0 x3 x23 x24 x25 s_4 =
 bn Q1 .lss x25 x24 fun v26 =>
 condS v26 (
 ix Qi x23 x25 fun v28 =>
 ld Qi s_4 v28 fun v29 =>
 bx Qi v29 fun c =>
 pZ Qi c fun c5 =>
 gA Qi c5 fun v30 =>
 ca Q2r [v30] s_4 fun v31 s_5 =>
 gC Qe 0 c5 fun v33 =>
 bn Qe .eql v33 (iv 2) fun v34 =>
 condS v34 (
 ap Q2 s_5 x3 v31 fun v37 s_6 =>
 gC QM 6 c5 fun v39 =>
 ln QM v39 fun v40 =>
 Z4 x0 v37 x25 c5 v31 x23 x24 x25 v39 v40 (iv 0) s_6) (
 Q02 x0 x3 x25 c5 v31 x23 x24 x25 s_5)) (
 ca Q2p [] s_4 fun v90 s_18 =>
 some (.ret v90, s_18)) := by intros; unfold Zp; exact (Q9 _ _ _ _ _ _).trans (by kernel_rfl)
theorem Q6C (a0 : AV) (s : St) : cw (.f Qz) [a0] s =
 ca Q5M [(.val a0)] s fun v14 s_1 =>
 nt v14 fun v15 =>
 iF v15 fun w =>
 iF v15 fun w_1 =>
 cg w_1 ZA [(gdV w (.val a0))] s_1 fun v18 s_2 =>
 iF v15 fun w_2 =>
 bind1 (gd w_2 (fieldS (C.ti Q6) (C.ti Qv) 0 v18)) fun v19 =>
 iF v15 fun w_3 =>
 gB w_3 Qv .neq v19 (iv 0) fun v20 =>
 pk v15 (bv true) v20 fun v21 =>
 condS v21 (
 ca Q2p [] s_2 fun v22 s_3 =>
 some (.ret v22, s_3)) (
 ln Qp (.val a0) fun v24 =>
 Zp (.val a0) (.val (.nils)) (.val a0) v24 (iv 0) s_2) := (Q5 _ _ _).trans (by kernel_rfl)
theorem QcZ (a0 : AV) (s : St) : cw (.f Q5M) [a0] s =
 ln Qp (.val a0) fun v4 =>
 bn Q1 .leq v4 (iv 12) fun v5 =>
 iT v5 fun w =>
 iT v5 fun w_1 =>
 cg w_1 Q4B [(gdV w (.val a0))] s fun v8 s_1 =>
 iT v5 fun w_2 =>
 gB w_2 Q1 .leq v8 (iv 300) fun v9 =>
 pk v5 v9 (bv false) fun v10 =>
 some (.ret v10, s_1) := (Q5 _ _ _).trans (by kernel_rfl)
noncomputable def Q10 : List Slot → Slot → Slot → Slot → Slot → Slot → St → Res := fun x2 x6 x7 x37 x38 x39 s => lpD ZA [.seqR, .seqR, .seqR, .seqR, .seqR, .seqR, .seqR, .seqL, .seqR, .block] Try.f5 [(2, .var x2), (6, .s x6), (7, .s x7), (37, .s x37), (38, .s x38), (39, .s x39)] s
theorem Q4d : ∀ x2 x6 x7 x37 x38 x39 s_8, Q10 x2 x6 x7 x37 x38 x39 s_8 =
 bn Q1 .lss x39 x38 fun v40 =>
 condS v40 (
 ix Qi x37 x39 fun v41 =>
 ld Qi s_8 v41 fun v42 =>
 bx Qi v42 fun c_8 =>
 pZ Qi c_8 fun c9 =>
 ld QH s_8 x7 fun v43 =>
 gA Qi c9 fun v44 =>
 ca ZG [v43, v44] s_8 fun v45 s_9 =>
 ld Zl s_9 x6 fun v47 =>
 gA Qi c9 fun v48 =>
 ca Zn [v47, v48] s_9 fun v49 s_10 =>
 ex v49 0 fun v50 =>
 ex v49 1 fun v51 =>
 bx Zl v50 fun c_9 =>
 sto s_10 x6 c_9 fun s_11 =>
 nx x39 fun v52 =>
 Q10 x2 x6 x7 x37 x38 v52 s_11) (
 ld QH s_8 x7 fun v53 =>
 bind1 (nilCheckV v53) fun v54 =>
 fa 1 v54 fun v55 =>
 ld Q6 s_8 v55 fun v56 =>
 bx Q6 v56 fun c_10 =>
 pt x2 0 c_10 fun c2_2 =>
 gA Q6 c2_2 fun v => some (.ret v, s_8)) := by intros; unfold Q10; exact (Q9 _ _ _ _ _ _).trans (by kernel_rfl)
theorem Q3E (a0 : AV) (s : St) : cw (.f ZA) [a0] s =
 ca Q2F [(.val a0)] s fun v11 s_1 =>
 bx Q6 v11 fun c =>
 pZ Q6 c fun c3 =>
 gA Q6 c3 fun v12 =>
 bd Q6 [] fun v13 =>
 bn Q6 .neq v12 v13 fun v14 =>
 condS v14 (
 gA Q6 c3 fun v15 =>
 bx Q6 v15 fun c_1 =>
 pZ Q6 c_1 fun c2 =>
 gA Q6 c2 fun v => some (.ret v, s_1)) (
 ca Q5g [(.val a0)] s_1 fun v18 s_2 =>
 ex v18 0 fun v19 =>
 ex v18 1 fun v20 =>
 bx Q6 v20 fun c_2 =>
 pZ Q6 c_2 fun c5 =>
 gA Q6 c5 fun v21 =>
 bd Q6 [] fun v22 =>
 bn Q6 .neq v21 v22 fun v23 =>
 condS v23 (
 gA Q6 c5 fun v24 =>
 bx Q6 v24 fun c_3 =>
 pZ Q6 c_3 fun c2_1 =>
 gA Q6 c2_1 fun v => some (.ret v, s_2)) (
 ca Q2C [] s_2 fun v25 s_3 =>
 bx Zl v25 fun c_4 =>
 sto (St.addLoc s_3 (.var (List.map .val (C.ti Zl).zero))) (.val (.vp s_3.locs.length 0)) c_4 fun s_4 =>
 bd Q2P [(0, Qo, (.val (.mp s_4.locs.length)))] fun v27 =>
 bx Q2P v27 fun c28 =>
 bx QH (.val (.vp (St.addLoc s_4 (.map [] 0)).locs.length 0)) fun c_5 =>
 sto (St.addLoc (St.addLoc (St.addLoc s_4 (.map [] 0)) (.var c28)) (.var (List.map .val (C.ti QH).zero))) (.val (.vp (St.addLoc (St.addLoc s_4 (.map [] 0)) (.var c28)).locs.length 0)) c_5 fun s_5 =>
 ld QH s_5 (.val (.vp (St.addLoc (St.addLoc s_4 (.map [] 0)) (.var c28)).locs.length 0)) fun v29 =>
 bind1 (fnS Q0p [(.val (.vp (St.addLoc (St.addLoc s_4 (.map [] 0)) (.var c28)).locs.length 0))]) fun v30 =>
 bind1 (nilCheckV v29) fun v31 =>
 fa 5 v31 fun v32 =>
 bx QB v30 fun c_6 =>
 sto s_5 v32 c_6 fun s_6 =>
 ld QH s_6 (.val (.vp (St.addLoc (St.addLoc s_4 (.map [] 0)) (.var c28)).locs.length 0)) fun v33 =>
 bind1 (fnS Q0q [(.val (.vp s_3.locs.length 0)), (.val (.vp (St.addLoc (St.addLoc s_4 (.map [] 0)) (.var c28)).locs.length 0))]) fun v34 =>
 bind1 (nilCheckV v33) fun v35 =>
 fa 4 v35 fun v36 =>
 bx Qn v34 fun c_7 =>
 sto s_6 v36 c_7 fun s_7 =>
 ln Qp (.val a0) fun v38 =>
 Q10 ((List.map .val (C.ti Q6).zero)) (.val (.vp s_3.locs.length 0)) ((.val (.vp (St.addLoc (St.addLoc s_4 (.map [] 0)) (.var c28)).locs.length 0))) (.val a0) v38 (iv 0) s_7)) := (Q5 _ _ _).trans (by kernel_rfl)
theorem Qb4 (s : St) : cw (.f Q2p) [] s =
 bd Qq [(0, Qr, (iv 2)), (2, Q2, (sv [120]))] fun v5 =>
 bd Qm [(0, Q3, (iv 2)), (1, Q1, (iv 8)), (2, Q2, (sv [120]))] fun v6 =>
 bx Qq v5 fun c =>
 pZ Qq c fun c1 =>
 bx Qm v6 fun c_1 =>
 pZ Qm c_1 fun c2 =>
 gA Qq c1 fun v7 =>
 gA Qm c2 fun v8 =>
 ca Q1n [v7, v8] s fun v9 s_1 =>
 bs Qi [v9] fun v10 =>
 ca ZA [v10] s_1 fun v11 s_2 =>
 bx Q6 v11 fun c_2 =>
 pZ Q6 c_2 fun c3 =>
 gA Qq c1 fun v12 =>
 bd Qm [(0, Q3, (iv 1))] fun v13 =>
 cn Q1n [v12, v13] s_2 fun v14 s_3 =>
 gA Qq c1 fun v15 =>
 gA Qm c2 fun v16 =>
 cn Q1n [v15, v16] s_3 fun v17 s_4 =>
 bs Qi [v14, v17] fun v18 =>
 cn ZA [v18] s_4 fun v19 s_5 =>
 bx Q6 v19 fun c_3 =>
 pZ Q6 c_3 fun c4 =>
 gA Q6 c3 fun v20 =>
 bd Q6 [(0, Qv, (iv 16)), (1, Q1, (iv 8)), (2, Q2, (sv [120]))] fun v21 =>
 bn Q6 .eql v20 v21 fun v22 =>
 iT v22 fun w =>
 iT v22 fun w_1 =>
 gG w_1 w Qv 0 c4 fun v25 =>
 iT v22 fun w_2 =>
 gB w_2 Qv .eql v25 (iv 0) fun v26 =>
 pk v22 v26 (bv false) fun v27 =>
 iT v27 fun w_3 =>
 bind1 (gd w_3 (ofSlots (C.ti Qm) (List.take (C.ti Qm).size c2))) fun v29 =>
 iT v27 fun w_4 =>
 cg w_4 Q1B [v29] s_5 fun v30 s_6 =>
 iT v27 fun w_5 =>
 bind1 (gd w_5 (bslF (C.ti Q2).size [(sv [120])])) fun v31 =>
 iT v27 fun w_6 =>
 cg w_6 Q1A [v30, v31] s_6 fun v32 s_7 =>
 pk v27 v32 (bv false) fun v33 =>
 iT v33 fun w_7 =>
 bind1 (gd w_7 (ofSlots (C.ti Qq) (List.take (C.ti Qq).size c1))) fun v35 =>
 iT v33 fun w_8 =>
 bind1 (gd w_8 (ofSlots (C.ti Qm) (List.take (C.ti Qm).size c2))) fun v36 =>
 iT v33 fun w_9 =>
 cg w_9 Q1n [v35, v36] s_7 fun v37 s_8 =>
 iT v33 fun w_10 =>
 cg w_10 Q2r [v37] s_8 fun v38 s_9 =>
 iT v33 fun w_11 =>
 bind1 (gd w_11 (bslF (C.ti Q2).size [(sv [120])])) fun v39 =>
 iT v33 fun w_12 =>
 cg w_12 Q1A [v38, v39] s_9 fun v40 s_10 =>
 pk v33 v40 (bv false) fun v41 =>
 some (.ret v41, s_10) := (Q5 _ _ _).trans (by kernel_rfl)
theorem Q6h (a0 : AV) (s : St) : cw (.f Q2r) [a0] s =
 bx Qi (.val a0) fun c1 =>
 gA Qi c1 fun v3 =>
 bs Qi [v3] fun v4 =>
 ca Q2F [v4] s fun v5 s_1 =>
 bd Q6 [] fun v6 =>
 bn Q6 .neq v5 v6 fun v7 =>
 condS v7 (
 some (.ret (.val (.nils)), s_1)) (
 gA Qi c1 fun v8 =>
 ca Z3 [v8] s_1 fun v9 s_2 =>
 some (.ret v9, s_2)) := (Q5 _ _ _).trans (by kernel_rfl)
theorem Q7g (a0 : AV) (s : St) : cw (.f Q1B) [a0] s =
 bx Qm (.val a0) fun c1 =>
 gA Qm c1 fun v5 =>
 ca Q2G [v5] s fun v6 s_1 =>
 bd Q6 [] fun v7 =>
 bn Q6 .neq v6 v7 fun v8 =>
 condS v8 (
 some (.ret (.val (.nils)), s_1)) (
 bd Q2P [(0, Qo, (.val (.mp (St.addLoc s_1 (.var (List.map .val (C.ti Qa).zero))).locs.length)))] fun v10 =>
 bx Q2P v10 fun c11 =>
 bind1 (fnS Q07 [(.val (.vp s_1.locs.length 0))]) fun v13 =>
 bind1 (nilCheckV (.val (.vp (St.addLoc (St.addLoc s_1 (.var (List.map .val (C.ti Qa).zero))) (.map [] 0)).locs.length 0))) fun v14 =>
 fa 5 v14 fun v15 =>
 bx QB v13 fun c =>
 sto (St.addLoc (St.addLoc (St.addLoc s_1 (.var (List.map .val (C.ti Qa).zero))) (.map [] 0)) (.var c11)) v15 c fun s_2 =>
 bind1 (nilCheckV (.val (.vp (St.addLoc (St.addLoc s_1 (.var (List.map .val (C.ti Qa).zero))) (.map [] 0)).locs.length 0))) fun v17 =>
 fa 4 v17 fun v18 =>
 bx Qn (.val (.fn Q0K [])) fun c_1 =>
 sto s_2 v18 c_1 fun s_3 =>
 bind1 (nilCheckV (.val (.vp (St.addLoc (St.addLoc s_1 (.var (List.map .val (C.ti Qa).zero))) (.map [] 0)).locs.length 0))) fun v20 =>
 fa 7 v20 fun v21 =>
 bx Qg (bv true) fun c_2 =>
 sto s_3 v21 c_2 fun s_4 =>
 gA Qm c1 fun v23 =>
 ca Qy [(.val (.vp (St.addLoc (St.addLoc s_1 (.var (List.map .val (C.ti Qa).zero))) (.map [] 0)).locs.length 0)), v23] s_4 fun v24 s_5 =>
 ld Qa s_5 (.val (.vp s_1.locs.length 0)) fun v25 =>
 some (.ret v25, s_5)) := (Q5 _ _ _).trans (by kernel_rfl)
noncomputable def Q2d : Slot → Slot → Slot → St → Res := fun x0 x1 x5 s => lpD Q2E [.seqR, .seqL, .seqR, .block] Try.f9 [(0, .s x0), (1, .s x1), (5, .s x5)] s
theorem Q6g : ∀ x0 x1 x5 s_1, Q2d x0 x1 x5 s_1 =
 ln Qa x0 fun v8 =>
 bn Q1 .lss x5 v8 fun v9 =>
 condS v9 (
 ix Q2 x0 x5 fun v14 =>
 ld Q2 s_1 v14 fun v15 =>
 bn Q2 .eql v15 x1 fun v17 =>
 condS v17 (
 some (.ret (bv true), s_1)) (
 nx x5 fun v11 =>
 Q2d x0 x1 v11 s_1)) (
 some (.ret (bv false), s_1)) := by intros; unfold Q2d; exact (Q9 _ _ _ _ _ _).trans (by kernel_rfl)
theorem Qe3 (a0 : AV) (a1 : AV) (s : St) : cw (.f Q2E) [a0, a1] s =
 Q2d (.val a0) (.val a1) (iv 0) s := (Q5 _ _ _).trans (by kernel_rfl)
theorem Qc7 (a0 : AV) (s : St) : cw (.f Q4B) [a0] s =
 ca Q4p [(.val a0)] s fun v4 s_1 =>
 ca Q2q [v4] s_1 fun v5 s_2 =>
 some (.ret v5, s_2) := (Q5 _ _ _).trans (by kernel_rfl)
theorem Qcc (a0 : AV) (s : St) : cw (.f Q2F) [a0] s =
 bx Qp (.val a0) fun c1 =>
 bindA (avs c1) fun l1 =>
 ld Qp s (.val (.cp l1)) fun v3 =>
 ca Q3u [v3] s fun v4 s_1 =>
 bind1 (fnS Q3s [(.val (.cp l1))]) fun v5 =>
 ca Q1D [v4, v5] s_1 fun v6 s_2 =>
 bx Q6 v6 fun c =>
 pZ Q6 c fun c2 =>
 gA Q6 c2 fun v => some (.ret v, s_2) := (Q5 _ _ _).trans (by kernel_rfl)
noncomputable def Q2Q : List Slot → Slot → Slot → Slot → Slot → St → Res := fun x3 x4 x10 x11 x12 s => lpD Q5g [.seqR, .seqR, .seqL, .seqR, .block] Try.f12 [(3, .var x3), (4, .s x4), (10, .s x10), (11, .s x11), (12, .s x12)] s
theorem Q71 : ∀ x3 x4 x10 x11 x12 s_2, Q2Q x3 x4 x10 x11 x12 s_2 =
 bn Q1 .lss x12 x11 fun v13 =>
 condS v13 (
 ix Qi x10 x12 fun v14 =>
 ld Qi s_2 v14 fun v15 =>
 bx Qi v15 fun c =>
 pZ Qi c fun c6 =>
 gA Qi c6 fun v18 =>
 ca Zn [x4, v18] s_2 fun v19 s_3 =>
 ex v19 0 fun v20 =>
 ex v19 1 fun v21 =>
 bx Q6 v21 fun c_1 =>
 pZ Q6 c_1 fun c8 =>
 gC Qv 0 c8 fun v23 =>
 bn Qv .neq v23 (iv 0) fun v24 =>
 condS v24 (
 gA Q6 c8 fun v25 =>
 bx Q6 v25 fun c_2 =>
 pt x3 0 c_2 fun c3 =>
 rt [(some (.val (.nils))), (ofSlots (C.ti Q6) (List.take (C.ti Q6).size c3))] s_3) (
 nx x12 fun v27 =>
 Q2Q x3 v20 x10 x11 v27 s_3)) (
 bd Q6 [] fun v29 =>
 bx Q6 v29 fun c_3 =>
 pt x3 0 c_3 fun c3_1 =>
 rt [(some x4), (ofSlots (C.ti Q6) (List.take (C.ti Q6).size c3_1))] s_2) := by intros; unfold Q2Q; exact (Q9 _ _ _ _ _ _).trans (by kernel_rfl)
theorem QeT (a0 : AV) (s : St) : cw (.f Q5g) [a0] s =
 ca Q2C [] s fun v9 s_1 =>
 ln Qp (.val a0) fun v11 =>
 Q2Q ((List.map .val (C.ti Q6).zero)) v9 (.val a0) v11 (iv 0) s_1 := (Q5 _ _ _).trans (by kernel_rfl)
theorem QbY (s : St) : cw (.f Q2C) [] s =
 ca ZL [(sv [40, 41]), (sv [117, 110, 105, 116]), (iv 0), (iv 1)] s fun v1 s_1 =>
 ca ZL [(sv [102, 97, 108, 115, 101]), (sv [98, 111, 111, 108]), (iv 0), (iv 2)] s_1 fun v2 s_2 =>
 ca ZL [(sv [116, 114, 117, 101]), (sv [98, 111, 111, 108]), (iv 1), (iv 2)] s_2 fun v3 s_3 =>
 ca ZL [(sv [68, 105, 118]), (sv [101, 120, 110]), (iv 0), (iv 0)] s_3 fun v4 s_4 =>
 ca ZL [(sv [69, 111, 102]), (sv [101, 120, 110]), (iv 1), (iv 0)] s_4 fun v5 s_5 =>
 ca ZL [(sv [77, 97, 116, 99, 104]), (sv [101, 120, 110]), (iv 2), (iv 0)] s_5 fun v6 s_6 =>
 bs Qd [v1, v2, v3, v4, v5, v6] fun v7 =>
 some (.ret v7, s_6) := (Q5 _ _ _).trans (by kernel_rfl)
theorem Q9i (a0 : AV) (a1 : AV) (a2 : AV) (s : St) : cw (.f Q0p) [a0, a1, a2] s =
 ld QH s (.val a2) fun v5 =>
 ca QF [v5, (iv 16), (.val a1), (.val a0)] s fun v8 s_1 =>
 rt [] s_1 := (Q5 _ _ _).trans (by kernel_rfl)
theorem Q3V (a0 : AV) (a1 : AV) (a2 : AV) (a3 : AV) (s : St) : cw (.f QF) [a0, a1, a2, a3] s =
 bind1 (nilCheckV (.val a0)) fun v9 =>
 fa 6 v9 fun v10 =>
 ld Qg s v10 fun v11 =>
 nt v11 fun v12 =>
 iT v12 fun w =>
 iT v12 fun w_1 =>
 bind1 (gd w_1 (nilCheckV (gdV w (.val a0)))) fun v15 =>
 iT v12 fun w_2 =>
 bind1 (gd w_2 (faV 7 v15)) fun v16 =>
 iT v12 fun w_3 =>
 bind1 (gd w_3 (ldV (C.ti Qg) false s v16)) fun v17 =>
 iT v12 fun w_4 =>
 gN w_4 v17 fun v18 =>
 pk v12 v18 (bv false) fun v19 =>
 condS v19 (
 bd Q6 [(0, Qv, (.val a1)), (1, Q1, (.val a2)), (2, Q2, (.val a3))] fun v25 =>
 bind1 (nilCheckV (.val a0)) fun v26 =>
 fa 1 v26 fun v27 =>
 bx Q6 v25 fun c =>
 sto s v27 c fun s_1 =>
 bind1 (nilCheckV (.val a0)) fun v28 =>
 fa 6 v28 fun v29 =>
 bx Qg (bv true) fun c_1 =>
 sto s_1 v29 c_1 fun s_2 =>
 rt [] s_2) (
 rt [] s) := (Q5 _ _ _).trans (by kernel_rfl)
theorem Q2x (a0 : AV) (a1 : AV) (a2 : AV) (a3 : AV) (a4 : AV) (s : St) : cw (.f Q0q) [a0, a1, a2, a3, a4] s =
 ld Zl s (.val a3) fun v11 =>
 ca Q3H [v11, (.val a0)] s fun v13 s_1 =>
 ex v13 0 fun v14 =>
 ex v13 1 fun v15 =>
 bx Qd v14 fun c =>
 pZ Qd c fun c8 =>
 nt v15 fun v18 =>
 condS v18 (
 ld QH s_1 (.val a4) fun v19 =>
 ca QF [v19, (iv 17), (.val a1), (.val a0)] s_1 fun v22 s_2 =>
 rt [] s_2) (
 gC Qg 4 c8 fun v25 =>
 bn Q1 .gtr (.val a2) (iv 0) fun v27 =>
 bn Qg .neq v25 v27 fun v28 =>
 condS v28 (
 ld QH s_1 (.val a4) fun v29 =>
 ca QF [v29, (iv 19), (.val a1), (.val a0)] s_1 fun v32 s_3 =>
 rt [] s_3) (
 rt [] s_1)) := (Q5 _ _ _).trans (by kernel_rfl)
noncomputable def Q1F : Slot → List Slot → Slot → Slot → Slot → St → Res := fun x1 x4 x8 x9 x10 s => lpD Q3H [.seqR, .seqL, .seqR, .block] Try.f17 [(1, .s x1), (4, .var x4), (8, .s x8), (9, .s x9), (10, .s x10)] s
theorem Q5l : ∀ x1 x4 x8 x9 x10 s_1, Q1F x1 x4 x8 x9 x10 s_1 =
 bn Q1 .lss x10 x9 fun v11 =>
 condS v11 (
 ix Qd x8 x10 fun v12 =>
 ld Qd s_1 v12 fun v13 =>
 bx Qd v13 fun c =>
 pZ Qd c fun c7 =>
 gC Q2 0 c7 fun v15 =>
 bn Q2 .eql v15 x1 fun v17 =>
 condS v17 (
 gC Q4 6 c7 fun v20 =>
 ca Q0G [v20] s_1 fun v21 s_2 =>
 bx Q4 v21 fun c_1 =>
 pt c7 6 c_1 fun c7_1 =>
 gA Qd c7_1 fun v24 =>
 bx Qd v24 fun c_2 =>
 pt x4 0 c_2 fun c4 =>
 rt [(ofSlots (C.ti Qd) (List.take (C.ti Qd).size c4)), (some (bv true))] s_2) (
 nx x10 fun v25 =>
 Q1F x1 x4 x8 x9 v25 s_1)) (
 bd Qd [] fun v26 =>
 bx Qd v26 fun c_3 =>
 pt x4 0 c_3 fun c4_1 =>
 rt [(ofSlots (C.ti Qd) (List.take (C.ti Qd).size c4_1)), (some (bv false))] s_1) := by intros; unfold Q1F; exact (Q9 _ _ _ _ _ _).trans (by kernel_rfl)
theorem QcE (a0 : AV) (a1 : AV) (s : St) : cw (.f Q3H) [a0, a1] s =
 ln Zl (.val a0) fun v9 =>
 Q1F (.val a1) ((List.map .val (C.ti Qd).zero)) (.val a0) v9 (iv 0) s := (Q5 _ _ _).trans (by kernel_rfl)
noncomputable def Zx : Slot → List Slot → Slot → Slot → Slot → St → Res := fun x0 x3 x16 x17 x18 s => lpD ZG [.seqR, .seqL, .seqR, .block, .seqR, .thn, .seqL, .seqR, .block] Try.f18 [(0, .s x0), (3, .var x3), (16, .s x16), (17, .s x17), (18, .s x18)] s
noncomputable def Zy : Slot → Slot → Slot → Slot → Slot → Slot → St → Res := fun x0_1 x7 x8 x44 x45 x46 s => lpD ZG [.seqR, .seqL, .seqR, .block, .seqR, .els, .seqR, .thn, .seqR, .seqR, .seqL, .seqR, .block] Try.f18 [(0, .s x0_1), (7, .s x7), (8, .s x8), (44, .s x44), (45, .s x45), (46, .s x46)] s
theorem Q33 : ∀ x0 x3 x16 x17 x18 s_1, Zx x0 x3 x16 x17 x18 s_1 =
 bn Q1 .lss x18 x17 fun v19 =>
 condS v19 (
 ix Ql x16 x18 fun v20 =>
 ld Ql s_1 v20 fun v21 =>
 bx Ql v21 fun c =>
 pZ Ql c fun c6 =>
 gC Qq 0 c6 fun v24 =>
 ca QP [x0, v24, (.val (.mp s_1.locs.length))] (St.addLoc s_1 (.map [] 0)) fun v26 s_2 =>
 gC Qm 5 c6 fun v29 =>
 ca Qy [x0, v29] s_2 fun v30 s_3 =>
 nx x18 fun v31 =>
 Zx x0 x3 x16 x17 v31 s_3) (
 gA Qi x3 fun v33 =>
 ca Z3 [v33] s_1 fun v34 s_4 =>
 ca Z6 [x0, v34] s_4 fun v35 s_5 =>
 some (.ret v35, s_5)) := by intros; unfold Zx; exact (Q9 _ _ _ _ _ _).trans (by kernel_rfl)
theorem Q1g : ∀ x0_1 x7 x8 x44 x45 x46 s_8, Zy x0_1 x7 x8 x44 x45 x46 s_8 =
 bn Q1 .lss x46 x45 fun v47 =>
 condS v47 (
 ix QX x44 x46 fun v48 =>
 ld QX s_8 v48 fun v49 =>
 bx QX v49 fun c_1 =>
 pZ QX c_1 fun c10 =>
 gC Q2 0 c10 fun v52 =>
 lk Q2 Q1 s_8 x8 v52 false fun v53 =>
 nx v53 fun v54 =>
 upd2 Q2 Q1 s_8 x8 v52 v54 fun _ s_9 =>
 gC Q2 0 c10 fun v57 =>
 lk Q2 Q1 s_9 x8 v57 false fun v58 =>
 bn Q1 .gtr v58 (iv 1) fun v59 =>
 condS v59 (
 gC Q1 1 c10 fun v62 =>
 gC Q2 0 c10 fun v64 =>
 ca QF [x0_1, (iv 9), v62, v64] s_9 fun v65 s_10 =>
 gC Ql 2 c10 fun v68 =>
 ca ZX [x0_1, v68] s_10 fun v69 s_11 =>
 nx x46 fun v70 =>
 Zy x0_1 x7 x8 x44 x45 v70 s_11) (
 gC Ql 2 c10 fun v68_1 =>
 ca ZX [x0_1, v68_1] s_9 fun v69_1 s_12 =>
 nx x46 fun v70_1 =>
 Zy x0_1 x7 x8 x44 x45 v70_1 s_12)) (
 some (.ret x7, s_8)) := by intros; unfold Zy; exact (Q9 _ _ _ _ _ _).trans (by kernel_rfl)
theorem Q8r (a0 : AV) (a1 : AV) (s : St) : cw (.f ZG) [a0, a1] s =
 bx Qi (.val a1) fun c3 =>
 gC Qe 0 c3 fun v12 =>
 bn Qe .eql v12 (iv 1) fun v14 =>
 condS v14 (
 gC Qj 5 c3 fun v16 =>
 ln Qj v16 fun v17 =>
 Zx (.val a0) c3 v16 v17 (iv 0) s) (
 bn Qe .eql v12 (iv 2) fun v37 =>
 condS v37 (
 gA Qi c3 fun v39 =>
 ca Z3 [v39] s fun v40 s_6 =>
 ca Z6 [(.val a0), v40] s_6 fun v41 s_7 =>
 gC QM 6 c3 fun v44 =>
 ln QM v44 fun v45 =>
 Zy (.val a0) v41 (.val (.mp s_7.locs.length)) v44 v45 (iv 0) (St.addLoc s_7 (.map [] 0))) (
 some (.ret (.val (.fn Q0r [])), s))) := (Q5 _ _ _).trans (by kernel_rfl)
noncomputable def Q1r : List Slot → Slot → List Slot → St → Res := fun x5_4 x6_4 x18_2 s => pwD Zn [.seqR, .scope, .seqR, .seqR, .seqR, .seqR, .seqR, .seqR, .seqR, .seqR, .seqR, .seqR, .seqR] Try.f19 [(5, .var x5_4), (6, .s x6_4), (18, .var x18_2)] s
noncomputable def Q3I : List Slot → List Slot → Slot → Slot → Slot → Slot → Slot → Slot → List Slot → Slot → List Slot → List Slot → List Slot → Slot → Slot → Slot → St → Res := fun x3_4 x5_5 x6_5 x7_4 x8_4 x9_4 x10_4 x13_3 x16_2 x17_2 x18_3 x20_1 x25 x90_2 x91_2 x92_2 s => pwD Zn [.seqR, .scope, .seqR, .seqR, .seqR, .seqR, .seqR, .seqR, .seqR, .seqR, .seqR, .seqR, .seqL, .seqR, .block, .loop, .seqR, .seqR, .seqL, .block, .seqR, .seqR, .seqR, .seqR, .seqR, .seqR, .seqR, .seqR] Try.f19 [(3, .var x3_4), (5, .var x5_5), (6, .s x6_5), (7, .s x7_4), (8, .s x8_4), (9, .s x9_4), (10, .s x10_4), (13, .s x13_3), (16, .var x16_2), (17, .s x17_2), (18, .var x18_3), (20, .var x20_1), (25, .var x25), (90, .s x90_2), (91, .s x91_2), (92, .s x92_2)] s
noncomputable def Q03 : List Slot → List Slot → Slot → Slot → Slot → Slot → Slot → Slot → List Slot → Slot → List Slot → List Slot → Slot → Slot → Slot → Slot → Slot → St → Res := fun x3_3 x5_3 x6_3 x7_3 x8_3 x9_3 x10_3 x13_2 x16_1 x17_1 x18_1 x20 x21 x22 x90_1 x91_1 x92_1 s => pwD Zn [.seqR, .scope, .seqR, .seqR, .seqR, .seqR, .seqR, .seqR, .seqR, .seqR, .seqR, .seqR, .seqL, .seqR, .block, .loop, .seqR, .seqR, .seqL, .block, .seqR, .seqR, .seqR, .seqR] Try.f19 [(3, .var x3_3), (5, .var x5_3), (6, .s x6_3), (7, .s x7_3), (8, .s x8_3), (9, .s x9_3), (10, .s x10_3), (13, .s x13_2), (16, .var x16_1), (17, .s x17_1), (18, .var x18_1), (20, .var x20), (21, .s x21), (22, .s x22), (90, .s x90_1), (91, .s x91_1), (92, .s x92_1)] s
noncomputable def Q2a : List Slot → List Slot → Slot → Slot → Slot → Slot → Slot → Slot → List Slot → Slot → List Slot → Slot → Slot → Slot → St → Res := fun x3_2 x5_2 x6_2 x7_2 x8_2 x9_2 x10_2 x13_1 x16 x17 x18 x90 x91 x92 s => lpD Zn [.seqR, .scope, .seqR, .seqR, .seqR, .seqR, .seqR, .seqR, .seqR, .seqR, .seqR, .seqR, .seqL, .seqR, .block] Try.f19 [(3, .var x3_2), (5, .var x5_2), (6, .s x6_2), (7, .s x7_2), (8, .s x8_2), (9, .s x9_2), (10, .s x10_2), (13, .s x13_1), (16, .var x16), (17, .s x17), (18, .var x18), (90, .s x90), (91, .s x91), (92, .s x92)] s
noncomputable def Q1q : List Slot → List Slot → Slot → Slot → Slot → Slot → Slot → Slot → St → Res := fun x3_1 x5_1 x6_1 x7_1 x8_1 x9_1 x10_1 x13 s => pwD Zn [.seqR, .scope, .seqR, .seqR, .seqR, .seqR, .seqR, .seqR, .seqR] Try.f19 [(3, .var x3_1), (5, .var x5_1), (6, .s x6_1), (7, .s x7_1), (8, .s x8_1), (9, .s x9_1), (10, .s x10_1), (13, .s x13)] s
noncomputable def Q0B : List Slot → List Slot → Slot → Slot → Slot → Slot → Slot → Slot → Slot → Slot → St → Res := fun x3 x5 x6 x7 x8 x9 x10 x34 x35 x36 s => lpD Zn [.seqR, .scope, .seqR, .seqR, .seqR, .seqR, .seqL, .seqR, .block] Try.f19 [(3, .var x3), (5, .var x5), (6, .s x6), (7, .s x7), (8, .s x8), (9, .s x9), (10, .s x10), (34, .s x34), (35, .s x35), (36, .s x36)] s
theorem Q61 : ∀ x5_4 x6_4 x18_2 s_10, Q1r x5_4 x6_4 x18_2 s_10 =
 gC Qv 0 x18_2 fun v165 =>
 bn Qv .neq v165 (iv 0) fun v166 =>
 condS v166 (
 gA Q6 x18_2 fun v167 =>
 bx Q6 v167 fun c_5 =>
 pt x5_4 0 c_5 fun c5_1 =>
 rt [(some (.val (.nils))), (ofSlots (C.ti Q6) (List.take (C.ti Q6).size c5_1))] s_10) (
 bd Q6 [] fun v169 =>
 bx Q6 v169 fun c_6 =>
 pt x5_4 0 c_6 fun c5_2 =>
 rt [(some x6_4), (ofSlots (C.ti Q6) (List.take (C.ti Q6).size c5_2))] s_10) := by intros; unfold Q1r; exact (Q0F _).trans (by kernel_rfl)
theorem Q62 : ∀ x3_4 x5_5 x6_5 x7_4 x8_4 x9_4 x10_4 x13_3 x16_2 x17_2 x18_3 x20_1 x25 x90_2 x91_2 x92_2 s_14, Q3I x3_4 x5_5 x6_5 x7_4 x8_4 x9_4 x10_4 x13_3 x16_2 x17_2 x18_3 x20_1 x25 x90_2 x91_2 x92_2 s_14 =
 gC Q2 0 x20_1 fun v149 =>
 gC Qg 2 x20_1 fun v154 =>
 gA Q4 x25 fun v156 =>
 bd Q1a [(0, Q1, x17_2), (1, Q4, v156)] fun v157 =>
 bd Qd [(0, Q2, v149), (1, Q2, x13_3), (2, Q1, x9_4), (3, Q1, x10_4), (4, Qg, v154), (5, Q1a, v157)] fun v158 =>
 bs Qd [v158] fun v159 =>
 ap Qd s_14 x6_5 v159 fun v160 s_15 =>
 nx x9_4 fun v162 =>
 nx x92_2 fun v163 =>
 Q2a x3_4 x5_5 v160 x7_4 x8_4 v162 x10_4 x13_3 x16_2 x17_2 x18_3 x90_2 x91_2 v163 s_15 := by intros; unfold Q3I; exact (Q0F _).trans (by kernel_rfl)
theorem Q3A : ∀ x3_3 x5_3 x6_3 x7_3 x8_3 x9_3 x10_3 x13_2 x16_1 x17_1 x18_1 x20 x21 x22 x90_1 x91_1 x92_1 s_9, Q03 x3_3 x5_3 x6_3 x7_3 x8_3 x9_3 x10_3 x13_2 x16_1 x17_1 x18_1 x20 x21 x22 x90_1 x91_1 x92_1 s_9 =
 bn Qv .neq x21 (iv 0) fun v128 =>
 condS v128 (
 gC Q1 1 x20 fun v131 =>
 bd Q6 [(0, Qv, x21), (1, Q1, v131), (2, Q2, x22)] fun v133 =>
 bx Q6 v133 fun c_4 =>
 pt x18_1 0 c_4 fun c18 =>
 Q1r x5_3 x6_3 c18 s_9) (
 gC Q2 0 x20 fun v136 =>
 lk Q2 Q1 s_9 x8_3 v136 false fun v137 =>
 nx v137 fun v138 =>
 upd2 Q2 Q1 s_9 x8_3 v136 v138 fun _ s_11 =>
 gA Q4 x16_1 fun v139 =>
 ca Q97 [v139, (.val (.nils))] s_11 fun v140 s_12 =>
 bx Q4 v140 fun c_7 =>
 pZ Q4 c_7 fun c25 =>
 gC Qg 2 x20 fun v142 =>
 condS v142 (
 gC Q4 3 x20 fun v144 =>
 gA Q4 x16_1 fun v145 =>
 ca QaG [v144, v145] s_12 fun v146 s_13 =>
 bx Q4 v146 fun c_8 =>
 pt c25 0 c_8 fun c25_1 =>
 Q3I x3_3 x5_3 x6_3 x7_3 x8_3 x9_3 x10_3 x13_2 x16_1 x17_1 x18_1 x20 c25_1 x90_1 x91_1 x92_1 s_13) (
 Q3I x3_3 x5_3 x6_3 x7_3 x8_3 x9_3 x10_3 x13_2 x16_1 x17_1 x18_1 x20 c25 x90_1 x91_1 x92_1 s_12)) := by intros; unfold Q03; exact (Q0F _).trans (by kernel_rfl)
theorem Q0c : ∀ x3_2 x5_2 x6_2 x7_2 x8_2 x9_2 x10_2 x13_1 x16 x17 x18 x90 x91 x92 s_8, Q2a x3_2 x5_2 x6_2 x7_2 x8_2 x9_2 x10_2 x13_1 x16 x17 x18 x90 x91 x92 s_8 =
 bn Q1 .lss x92 x91 fun v93 =>
 condS v93 (
 ix Zo x90 x92 fun v94 =>
 ld Zo s_8 v94 fun v95 =>
 bx Zo v95 fun c_3 =>
 pZ Zo c_3 fun c20 =>
 gC Q2 0 c20 fun v97 =>
 gC Q2 0 c20 fun v101 =>
 lk Q2 Q1 s_8 x8_2 v101 false fun v102 =>
 bn Q1 .gtr v102 (iv 0) fun v103 =>
 condS v103 (
 Q03 x3_2 x5_2 x6_2 x7_2 x8_2 x9_2 x10_2 x13_1 x16 x17 x18 c20 (iv 9) v97 x90 x91 x92 s_8) (
 gC Qe 0 x3_2 fun v106 =>
 bn Qe .eql v106 (iv 4) fun v107 =>
 iT v107 fun w_3 =>
 iT v107 fun w_4 =>
 gB w_4 Q1 .gtr (gdV w_3 x9_2) (iv 1023) fun v110 =>
 pk v107 v110 (bv false) fun v111 =>
 condS v111 (
 Q03 x3_2 x5_2 x6_2 x7_2 x8_2 x9_2 x10_2 x13_1 x16 x17 x18 c20 (iv 19) v97 x90 x91 x92 s_8) (
 gC Qg 2 c20 fun v114 =>
 condS v114 (
 gC Q4 3 c20 fun v119 =>
 ca Q4A [x7_2, x17, v119] s_8 fun v120 s_16 =>
 ex v120 0 fun v121 =>
 ex v120 1 fun v122 =>
 bn Qv .neq v121 (iv 0) fun v124 =>
 condS v124 (
 Q03 x3_2 x5_2 x6_2 x7_2 x8_2 x9_2 x10_2 x13_1 x16 x17 x18 c20 v121 v122 x90 x91 x92 s_16) (
 Q03 x3_2 x5_2 x6_2 x7_2 x8_2 x9_2 x10_2 x13_1 x16 x17 x18 c20 (iv 0) v97 x90 x91 x92 s_16)) (
 Q03 x3_2 x5_2 x6_2 x7_2 x8_2 x9_2 x10_2 x13_1 x16 x17 x18 c20 (iv 0) v97 x90 x91 x92 s_8)))) (
 Q1r x5_2 x6_2 x18 s_8) := by intros; unfold Q2a; exact (Q9 _ _ _ _ _ _).trans (by kernel_rfl)
theorem QaU : ∀ x3_1 x5_1 x6_1 x7_1 x8_1 x9_1 x10_1 x13 s_6, Q1q x3_1 x5_1 x6_1 x7_1 x8_1 x9_1 x10_1 x13 s_6 =
 gA Qi x3_1 fun v85 =>
 ca Q27 [v85] s_6 fun v86 s_7 =>
 ex v86 0 fun v87 =>
 ex v86 1 fun v88 =>
 bx Q4 v87 fun c_2 =>
 pZ Q4 c_2 fun c16 =>
 gC QL 4 x3_1 fun v90 =>
 ln QL v90 fun v91 =>
 Q2a x3_1 x5_1 x6_1 x7_1 x8_1 x9_1 x10_1 x13 c16 v88 ((List.map .val (C.ti Q6).zero)) v90 v91 (iv 0) s_7 := by intros; unfold Q1q; exact (Q0F _).trans (by kernel_rfl)
theorem Q63 : ∀ x3 x5 x6 x7 x8 x9 x10 x34 x35 x36 s_3, Q0B x3 x5 x6 x7 x8 x9 x10 x34 x35 x36 s_3 =
 bn Q1 .lss x36 x35 fun v37 =>
 condS v37 (
 ix Qd x34 x36 fun v38 =>
 ld Qd s_3 v38 fun v39 =>
 bx Qd v39 fun c =>
 pZ Qd c fun c12 =>
 gC Q2 0 c12 fun v42 =>
 lk Q2 Q1 s_3 x8 v42 false fun v43 =>
 nx v43 fun v44 =>
 upd2 Q2 Q1 s_3 x8 v42 v44 fun _ s_4 =>
 gC Qe 0 x3 fun v46 =>
 bn Qe .eql v46 (iv 4) fun v47 =>
 iT v47 fun w =>
 iT v47 fun w_1 =>
 gG w_1 w Q2 1 c12 fun v50 =>
 iT v47 fun w_2 =>
 gB w_2 Q2 .eql v50 (sv [101, 120, 110]) fun v51 =>
 pk v47 v51 (bv false) fun v52 =>
 condS v52 (
 nx x9 fun v54 =>
 nx x36 fun v55 =>
 Q0B x3 x5 x6 x7 x8 v54 x10 x34 x35 v55 s_4) (
 nx x36 fun v55_1 =>
 Q0B x3 x5 x6 x7 x8 x9 x10 x34 x35 v55_1 s_4)) (
 gC Q2 2 x3 fun v57 =>
 gC Qe 0 x3 fun v59 =>
 bn Qe .eql v59 (iv 3) fun v63 =>
 condS v63 (
 gC Q2 2 x3 fun v67 =>
 lk Q2 Q1 s_3 x7 v67 true fun v68 =>
 ex v68 0 fun v69 =>
 ex v68 1 fun v70 =>
 condS v70 (
 gC Q1 1 x3 fun v73 =>
 gC Q2 2 x3 fun v75 =>
 bd Q6 [(0, Qv, (iv 9)), (1, Q1, v73), (2, Q2, v75)] fun v76 =>
 bx Q6 v76 fun c_1 =>
 pt x5 0 c_1 fun c5 =>
 rt [(some (.val (.nils))), (ofSlots (C.ti Q6) (List.take (C.ti Q6).size c5))] s_3) (
 gC Q2 2 x3 fun v79 =>
 gC Q1 3 x3 fun v81 =>
 upd2 Q2 Q1 s_3 x7 v79 v81 fun _ s_5 =>
 Q1q x3 x5 x6 x7 x8 x9 x10 v57 s_5)) (
 bn Qe .eql v59 (iv 4) fun v83 =>
 condS v83 (
 Q1q x3 x5 x6 x7 x8 x9 (iv 0) (sv [101, 120, 110]) s_3) (
 bd Q6 [] fun v61 =>
 bx Q6 v61 fun c_9 =>
 pt x5 0 c_9 fun c5_3 =>
 rt [(some x6), (ofSlots (C.ti Q6) (List.take (C.ti Q6).size c5_3))] s_3))) := by intros; unfold Q0B; exact (Q9 _ _ _ _ _ _).trans (by kernel_rfl)
theorem QdR (a0 : AV) (a1 : AV) (s : St) : cw (.f Zn) [a0, a1] s =
 bx Qi (.val a1) fun c3 =>
 ca Q2o [(.val a0)] s fun v27 s_1 =>
 ca Q2D [(.val a0)] s_1 fun v29 s_2 =>
 gC QL 4 c3 fun v32 =>
 ln QL v32 fun v33 =>
 ln Zl (.val a0) fun v35 =>
 Q0B c3 ((List.map .val (C.ti Q6).zero)) v27 v29 (.val (.mp s_2.locs.length)) (iv 0) v33 (.val a0) v35 (iv 0) (St.addLoc s_2 (.map [] 0)) := (Q5 _ _ _).trans (by kernel_rfl)
theorem Qd0 (a0 : AV) (a1 : AV) (s : St) : cw (.f Q1n) [a0, a1] s =
 bx Qq (.val a0) fun c2 =>
 bx Qm (.val a1) fun c3 =>
 gA Qq c2 fun v5 =>
 gA Qm c3 fun v6 =>
 bd Ql [(0, Qq, v5), (5, Qm, v6)] fun v7 =>
 bs Ql [v7] fun v8 =>
 bd Qi [(0, Qe, (iv 1)), (5, Qj, v8)] fun v9 =>
 bx Qi v9 fun c =>
 pZ Qi c fun c4 =>
 gA Qi c4 fun v => some (.ret v, s) := (Q5 _ _ _).trans (by kernel_rfl)
noncomputable def Q1l : Slot → Slot → Slot → St → Res := fun x0 x1 x5 s => lpD Q1A [.seqR, .seqR, .seqL, .seqR, .block] Try.f21 [(0, .s x0), (1, .s x1), (5, .s x5)] s
theorem Q4T : ∀ x0 x1 x5 s_1, Q1l x0 x1 x5 s_1 =
 ln Qa x0 fun v13 =>
 bn Q1 .lss x5 v13 fun v14 =>
 condS v14 (
 ix Q2 x0 x5 fun v19 =>
 ld Q2 s_1 v19 fun v20 =>
 ix Q2 x1 x5 fun v23 =>
 ld Q2 s_1 v23 fun v24 =>
 bn Q2 .neq v20 v24 fun v25 =>
 condS v25 (
 some (.ret (bv false), s_1)) (
 nx x5 fun v16 =>
 Q1l x0 x1 v16 s_1)) (
 some (.ret (bv true), s_1)) := by intros; unfold Q1l; exact (Q9 _ _ _ _ _ _).trans (by kernel_rfl)
theorem Qc8 (a0 : AV) (a1 : AV) (s : St) : cw (.f Q1A) [a0, a1] s =
 ln Qa (.val a0) fun v7 =>
 ln Qa (.val a1) fun v9 =>
 bn Q1 .neq v7 v9 fun v10 =>
 condS v10 (
 some (.ret (bv false), s)) (
 Q1l (.val a0) (.val a1) (iv 0) s) := (Q5 _ _ _).trans (by kernel_rfl)
noncomputable def Q12 : List Slot → Slot → Slot → Slot → Slot → Slot → Slot → Slot → Slot → St → Res := fun x1_1 x3_1 x4_1 x16_1 x17_1 x18_1 x24 x25 x26 s => lpD Z3 [.seqR, .seqR, .seqR, .seqL, .seqR, .thn, .seqR, .block, .loop, .seqR, .seqR, .seqL, .block, .seqR, .seqR, .block] Try.f22 [(1, .var x1_1), (3, .s x3_1), (4, .s x4_1), (16, .s x16_1), (17, .s x17_1), (18, .s x18_1), (24, .s x24), (25, .s x25), (26, .s x26)] s
noncomputable def Q13 : Slot → Slot → Slot → Slot → Slot → St → Res := fun x3_3 x4_3 x39 x40 x41 s => lpD Z3 [.seqR, .seqR, .seqR, .seqR, .seqL, .seqR, .thn, .seqR, .block] Try.f22 [(3, .s x3_3), (4, .s x4_3), (39, .s x39), (40, .s x40), (41, .s x41)] s
noncomputable def Q11 : List Slot → Slot → Slot → St → Res := fun x1_2 x3_2 x4_2 s => pwD Z3 [.seqR, .seqR, .seqR, .seqR] Try.f22 [(1, .var x1_2), (3, .s x3_2), (4, .s x4_2)] s
noncomputable def Q0f : List Slot → Slot → Slot → Slot → Slot → Slot → St → Res := fun x1 x3 x4 x16 x17 x18 s => lpD Z3 [.seqR, .seqR, .seqR, .seqL, .seqR, .thn, .seqR, .block] Try.f22 [(1, .var x1), (3, .s x3), (4, .s x4), (16, .s x16), (17, .s x17), (18, .s x18)] s
theorem Q4f : ∀ x1_1 x3_1 x4_1 x16_1 x17_1 x18_1 x24 x25 x26 s_3, Q12 x1_1 x3_1 x4_1 x16_1 x17_1 x18_1 x24 x25 x26 s_3 =
 bn Q1 .lss x26 x25 fun v27 =>
 condS v27 (
 ix Q2 x24 x26 fun v28 =>
 ld Q2 s_3 v28 fun v29 =>
 back (cal cw true (tgtV x4_1 [v29]) s_3) fun v32 s_4 =>
 nx x26 fun v33 =>
 Q12 x1_1 x3_1 x4_1 x16_1 x17_1 x18_1 x24 x25 v33 s_4) (
 nx x18_1 fun v34 =>
 Q0f x1_1 x3_1 x4_1 x16_1 x17_1 v34 s_3) := by intros; unfold Q12; exact (Q9 _ _ _ _ _ _).trans (by kernel_rfl)
theorem Q4g : ∀ x3_3 x4_3 x39 x40 x41 s_6, Q13 x3_3 x4_3 x39 x40 x41 s_6 =
 bn Q1 .lss x41 x40 fun v42 =>
 condS v42 (
 ix QX x39 x41 fun v43 =>
 ld QX s_6 v43 fun v44 =>
 bx QX v44 fun c_1 =>
 pZ QX c_1 fun c10 =>
 gC Q2 0 c10 fun v47 =>
 back (cal cw true (tgtV x4_3 [v47]) s_6) fun v48 s_7 =>
 nx x41 fun v49 =>
 Q13 x3_3 x4_3 x39 x40 v49 s_7) (
 ld Qa s_6 x3_3 fun v50 =>
 some (.ret v50, s_6)) := by intros; unfold Q13; exact (Q9 _ _ _ _ _ _).trans (by kernel_rfl)
theorem Q8q : ∀ x1_2 x3_2 x4_2 s_5, Q11 x1_2 x3_2 x4_2 s_5 =
 gC Qe 0 x1_2 fun v36 =>
 bn Qe .eql v36 (iv 2) fun v37 =>
 condS v37 (
 gC QM 6 x1_2 fun v39 =>
 ln QM v39 fun v40 =>
 Q13 x3_2 x4_2 v39 v40 (iv 0) s_5) (
 ld Qa s_5 x3_2 fun v50_1 =>
 some (.ret v50_1, s_5)) := by intros; unfold Q11; exact (Q0F _).trans (by kernel_rfl)
theorem Q4e : ∀ x1 x3 x4 x16 x17 x18 s_1, Q0f x1 x3 x4 x16 x17 x18 s_1 =
 bn Q1 .lss x18 x17 fun v19 =>
 condS v19 (
 ix Ql x16 x18 fun v20 =>
 ld Ql s_1 v20 fun v21 =>
 bx Ql v21 fun c =>
 pZ Ql c fun c6 =>
 gC Qq 0 c6 fun v23 =>
 ca Q28 [v23] s_1 fun v24 s_2 =>
 ln Qa v24 fun v25 =>
 Q12 x1 x3 x4 x16 x17 x18 v24 v25 (iv 0) s_2) (
 Q11 x1 x3 x4 s_1) := by intros; unfold Q0f; exact (Q9 _ _ _ _ _ _).trans (by kernel_rfl)
theorem Qbe (a0 : AV) (s : St) : cw (.f Z3) [a0] s =
 bx Qi (.val a0) fun c1 =>
 bind1 (fnS Z8 [(.val (.vp s.locs.length 0))]) fun v11 =>
 gC Qe 0 c1 fun v13 =>
 bn Qe .eql v13 (iv 1) fun v14 =>
 condS v14 (
 gC Qj 5 c1 fun v16 =>
 ln Qj v16 fun v17 =>
 Q0f c1 (.val (.vp s.locs.length 0)) v11 v16 v17 (iv 0) (St.addLoc s (.var (List.map .val (C.ti Qa).zero)))) (
 Q11 c1 (.val (.vp s.locs.length 0)) v11 (St.addLoc s (.var (List.map .val (C.ti Qa).zero)))) := (Q5 _ _ _).trans (by kernel_rfl)
theorem Q9l (a0 : AV) (s : St) : cw (.f Q2G) [a0] s =
 bx Qm (.val a0) fun c1 =>
 bindA (avs c1) fun l1 =>
 ld Qm s (.val (.cp l1)) fun v3 =>
 ca Q23 [v3] s fun v4 s_1 =>
 bind1 (fnS Q22 [(.val (.cp l1))]) fun v5 =>
 ca Q1D [v4, v5] s_1 fun v6 s_2 =>
 bx Q6 v6 fun c =>
 pZ Q6 c fun c2 =>
 gA Q6 c2 fun v => some (.ret v, s_2) := (Q5 _ _ _).trans (by kernel_rfl)
theorem Q5x (a0 : AV) (a1 : AV) (a2 : AV) (s : St) : cw (.f Q07) [a0, a1, a2] s =
 ld Qa s (.val a2) fun v5 =>
 ca QQ [v5, (.val a0)] s fun v7 s_1 =>
 nt v7 fun v8 =>
 condS v8 (
 ld Qa s_1 (.val a2) fun v9 =>
 bs Q2 [(.val a0)] fun v11 =>
 ap Q2 s_1 v9 v11 fun v12 s_2 =>
 bx Qa v12 fun c =>
 sto s_2 (.val a2) c fun s_3 =>
 rt [] s_3) (
 rt [] s_1) := (Q5 _ _ _).trans (by kernel_rfl)
theorem Q2h (a0 : AV) (a1 : AV) (s : St) : cw (.f QQ) [a0, a1] s =
 ca QZ [(.val a0), (.val a1)] s fun v7 s_1 =>
 bn Q1 .geq v7 (iv 0) fun v8 =>
 some (.ret v8, s_1) := (Q5 _ _ _).trans (by kernel_rfl)
theorem Qai (a0 : AV) (a1 : AV) (a2 : AV) (s : St) : cw (.f Q0K) [a0, a1, a2] s =
 rt [] s := (Q5 _ _ _).trans (by kernel_rfl)
noncomputable def Zz : Slot → Slot → Slot → St → Res := fun x88 x89 x90 s => lpD Qy [.seqR, .seqR, .seqR, .seqR, .seqR, .seqR, .seqR, .seqR, .block] Try.f27 [(88, .s x88), (89, .s x89), (90, .s x90)] s
noncomputable def QV : Slot → Slot → Slot → Slot → Slot → St → Res := fun x0_3 x4_2 x78 x79 x80 s => lpD Qy [.seqR, .seqR, .seqR, .seqR, .seqR, .seqR, .seqL, .seqR, .block] Try.f27 [(0, .s x0_3), (4, .s x4_2), (78, .s x78), (79, .s x79), (80, .s x80)] s
noncomputable def QU : Slot → List Slot → Slot → Slot → Slot → Slot → St → Res := fun x0_2 x3_2 x4_1 x67 x68 x69 s => lpD Qy [.seqR, .seqR, .seqR, .seqR, .seqR, .seqL, .seqR, .block] Try.f27 [(0, .s x0_2), (3, .var x3_2), (4, .s x4_1), (67, .s x67), (68, .s x68), (69, .s x69)] s
noncomputable def QT : Slot → List Slot → Slot → Slot → Slot → Slot → St → Res := fun x0_1 x3_1 x4 x53 x54 x55 s => lpD Qy [.seqR, .seqR, .seqR, .seqR, .seqL, .seqR, .block] Try.f27 [(0, .s x0_1), (3, .var x3_1), (4, .s x4), (53, .s x53), (54, .s x54), (55, .s x55)] s
noncomputable def QS : Slot → List Slot → St → Res := fun x0 x3 s => pwD Qy [.seqR, .seqR, .seqR] Try.f27 [(0, .s x0), (3, .var x3)] s
theorem Q37 : ∀ x88 x89 x90 s_10, Zz x88 x89 x90 s_10 =
 bn Q1 .lss x90 x89 fun v91 =>
 condS v91 (
 ix ZW x88 x90 fun v92 =>
 ld ZW s_10 v92 fun v93 =>
 back (cal cw true (tgtV v93 []) s_10) fun v95 s_11 =>
 nx x90 fun v96 =>
 Zz x88 x89 v96 s_11) (
 rt [] s_10) := by intros; unfold Zz; exact (Q9 _ _ _ _ _ _).trans (by kernel_rfl)
theorem Q36 : ∀ x0_3 x4_2 x78 x79 x80 s_8, QV x0_3 x4_2 x78 x79 x80 s_8 =
 bn Q1 .lss x80 x79 fun v81 =>
 condS v81 (
 ix Ql x78 x80 fun v82 =>
 ld Ql s_8 v82 fun v83 =>
 bx Ql v83 fun c_2 =>
 pZ Ql c_2 fun c10 =>
 gA Ql c10 fun v85 =>
 ca ZX [x0_3, v85] s_8 fun v86 s_9 =>
 nx x80 fun v87 =>
 QV x0_3 x4_2 x78 x79 v87 s_9) (
 ln Q1O x4_2 fun v89 =>
 Zz x4_2 v89 (iv 0) s_8) := by intros; unfold QV; exact (Q9 _ _ _ _ _ _).trans (by kernel_rfl)
theorem Q35 : ∀ x0_2 x3_2 x4_1 x67 x68 x69 s_6, QU x0_2 x3_2 x4_1 x67 x68 x69 s_6 =
 bn Q1 .lss x69 x68 fun v70 =>
 condS v70 (
 ix Qm x67 x69 fun v71 =>
 ld Qm s_6 v71 fun v72 =>
 bx Qm v72 fun c_1 =>
 pZ Qm c_1 fun c8 =>
 gA Qm c8 fun v74 =>
 ca Qy [x0_2, v74] s_6 fun v75 s_7 =>
 nx x69 fun v76 =>
 QU x0_2 x3_2 x4_1 x67 x68 v76 s_7) (
 gC Qj 5 x3_2 fun v78 =>
 ln Qj v78 fun v79 =>
 QV x0_2 x4_1 v78 v79 (iv 0) s_6) := by intros; unfold QU; exact (Q9 _ _ _ _ _ _).trans (by kernel_rfl)
theorem Q34 : ∀ x0_1 x3_1 x4 x53 x54 x55 s_3, QT x0_1 x3_1 x4 x53 x54 x55 s_3 =
 bn Q1 .lss x55 x54 fun v56 =>
 condS v56 (
 ix Qi x53 x55 fun v57 =>
 ld Qi s_3 v57 fun v58 =>
 bx Qi v58 fun c =>
 pZ Qi c fun c6 =>
 gA Qi c6 fun v61 =>
 ca ZG [x0_1, v61] s_3 fun v62 s_4 =>
 bs ZW [v62] fun v63 =>
 ap ZW s_4 x4 v63 fun v64 s_5 =>
 nx x55 fun v65 =>
 QT x0_1 x3_1 v64 x53 x54 v65 s_5) (
 gC QD 4 x3_1 fun v67 =>
 ln QD v67 fun v68 =>
 QU x0_1 x3_1 x4 v67 v68 (iv 0) s_3) := by intros; unfold QT; exact (Q9 _ _ _ _ _ _).trans (by kernel_rfl)
theorem Q6L : ∀ x0 x3 s_2, QS x0 x3 s_2 =
 gC Qp 6 x3 fun v53 =>
 ln Qp v53 fun v54 =>
 QT x0 x3 (.val (.nils)) v53 v54 (iv 0) s_2 := by intros; unfold QS; exact (Q0F _).trans (by kernel_rfl)
theorem Q8s (a0 : AV) (a1 : AV) (s : St) : cw (.f Qy) [a0, a1] s =
 bx Qm (.val a1) fun c3 =>
 bind1 (nilCheckV (.val a0)) fun v14 =>
 fa 6 v14 fun v15 =>
 ld Qg s v15 fun v16 =>
 condS v16 (
 rt [] s) (
 gC Q3 0 c3 fun v18 =>
 bn Q3 .eql v18 (iv 2) fun v20 =>
 condS v20 (
 bind1 (nilCheckV (.val a0)) fun v22 =>
 fa 0 v22 fun v23 =>
 ld Qo s v23 fun v24 =>
 gC Q2 2 c3 fun v26 =>
 lk Q2 Q1 s v24 v26 false fun v27 =>
 bn Q1 .eql v27 (iv 0) fun v28 =>
 condS v28 (
 bind1 (nilCheckV (.val a0)) fun v30 =>
 fa 5 v30 fun v31 =>
 ld QB s v31 fun v32 =>
 gC Q2 2 c3 fun v34 =>
 gC Q1 1 c3 fun v36 =>
 back (noPan (cal cw true (tgtV v32 [v34, v36]) s)) fun v37 s_1 =>
 QS (.val a0) c3 s_1) (
 QS (.val a0) c3 s)) (
 bn Q3 .eql v18 (iv 3) fun v39 =>
 condS v39 (
 bind1 (nilCheckV (.val a0)) fun v41 =>
 fa 4 v41 fun v42 =>
 ld Qn s v42 fun v43 =>
 gC Q2 2 c3 fun v45 =>
 gC Q1 1 c3 fun v47 =>
 gC QD 4 c3 fun v49 =>
 ln QD v49 fun v50 =>
 back (noPan (cal cw true (tgtV v43 [v45, v47, v50]) s)) fun v51 s_12 =>
 QS (.val a0) c3 s_12) (
 QS (.val a0) c3 s))) := (Q5 _ _ _).trans (by kernel_rfl)
noncomputable def Q0e : Slot → Slot → Slot → St → Res := fun x0 x3 x4 s => lpD Q2q [.seqR, .seqR, .seqL, .seqR, .block] Try.f28 [(0, .s x0), (3, .s x3), (4, .s x4)] s
theorem Q4c : ∀ x0 x3 x4 s_1, Q0e x0 x3 x4 s_1 =
 ln Q0a x0 fun v7 =>
 bn Q1 .lss x4 v7 fun v8 =>
 condS v8 (
 ix Qb x0 x4 fun v13 =>
 fa 0 v13 fun v14 =>
 ld Q1 s_1 v14 fun v15 =>
 bn Q1 .leq v15 (iv 4) fun v16 =>
 condS v16 (
 nx x3 fun v18 =>
 nx x4 fun v10 =>
 Q0e x0 v18 v10 s_1) (
 nx x4 fun v10_1 =>
 Q0e x0 x3 v10_1 s_1)) (
 some (.ret x3, s_1)) := by intros; unfold Q0e; exact (Q9 _ _ _ _ _ _).trans (by kernel_rfl)
theorem Qbc (a0 : AV) (s : St) : cw (.f Q2q) [a0] s =
 Q0e (.val a0) (iv 0) (iv 0) s := (Q5 _ _ _).trans (by kernel_rfl)
noncomputable def Q2c : Slot → Slot → Slot → St → Res := fun x0 x3 x4 s => lpD Q4p [.seqR, .seqR, .seqL, .seqR, .block] Try.f29 [(0, .s x0), (3, .s x3), (4, .s x4)] s
theorem Q6f : ∀ x0 x3 x4 s_1, Q2c x0 x3 x4 s_1 =
 ln Qp x0 fun v7 =>
 bn Q1 .lss x4 v7 fun v8 =>
 condS v8 (
 ix Qi x0 x4 fun v14 =>
 ld Qi s_1 v14 fun v15 =>
 ca ZU [v15, (bv false)] s_1 fun v16 s_2 =>
 ap Qb s_2 x3 v16 fun v17 s_3 =>
 nx x4 fun v10 =>
 Q2c x0 v17 v10 s_3) (
 some (.ret x3, s_1)) := by intros; unfold Q2c; exact (Q9 _ _ _ _ _ _).trans (by kernel_rfl)
theorem Qe2 (a0 : AV) (s : St) : cw (.f Q4p) [a0] s =
 Q2c (.val a0) (.val (.nils)) (iv 0) s := (Q5 _ _ _).trans (by kernel_rfl)
noncomputable def Q41 (x4 : Slot) : Am.Obj := .loop .ready none Q1D [(4, .s x4)] [16] (rngAsg (codeAt [.seqR, .seqR, .seqR, .seqL, .seqR, .block] (body Try.f30))) (rngBody (codeAt [.seqR, .seqR, .seqR, .seqL, .seqR, .block] (body Try.f30)))
theorem Q9n (x4 : Slot) (y16 : AV) (loc : Nat) (s_5 : St) : yldR C (Q41 x4) loc [y16] s_5 = noPan (
 bx QI (.val y16) fun c_2 =>
 pZ QI c_2 fun c5 =>
 bindS (beginL loc s_5) fun s_6 =>
 gA QI c5 fun v17 =>
 ca Q0t [v17] s_6 fun v18 s_7 =>
 bx Q6 v18 fun c_3 =>
 pZ Q6 c_3 fun c6 =>
 gC Qv 0 c6 fun v20 =>
 bn Qv .neq v20 (iv 0) fun v21 =>
 condS v21 (
 gA Q6 c6 fun v22 =>
 bx Q6 v22 fun c_4 =>
 sto s_7 x4 c_4 fun s_8 =>
 bindS (setLoop loc .done (some .ret) s_8) fun s_9 =>
 some (.ret (bv false), s_9)) (
 bindS (setLoop loc .ready none s_7) fun s_10 =>
 some (.ret (bv true), s_10))) := by kernel_rfl
theorem Qcg (a0 : AV) (a1 : AV) (s : St) : cw (.f Q1D) [a0, a1] s =
 ca Q2H [(.val a0), (iv 8193)] (St.addLoc s (.var (List.map .val (C.ti Q6).zero))) fun v8 s_1 =>
 bn Q1 .gtr v8 (iv 8192) fun v9 =>
 condS v9 (
 bd Q6 [(0, Qv, (iv 4))] fun v10 =>
 bx Q6 v10 fun c =>
 sto s_1 (.val (.vp s.locs.length 0)) c fun s_2 =>
 bind1 (ldV (C.ti Q6) false s_2 (.val (.vp s.locs.length 0))) fun v => some (.ret v, s_2)) (
 back (cal cw true (tgtV (.val a1) []) s_1) fun v12 s_3 =>
 bn Q1 .gtr v12 (iv 100) fun v13 =>
 condS v13 (
 bd Q6 [(0, Qv, (iv 7))] fun v14 =>
 bx Q6 v14 fun c_1 =>
 sto s_3 (.val (.vp s.locs.length 0)) c_1 fun s_4 =>
 bind1 (ldV (C.ti Q6) false s_4 (.val (.vp s.locs.length 0))) fun v => some (.ret v, s_4)) (
 rangeC C cw (.val a0) s_3.locs.length (St.addLoc s_3 (Q41 (.val (.vp s.locs.length 0)))) fun s_11 =>
 endX s_3.locs.length s_11 (fun s_12 =>
 bd Q6 [] fun v23 =>
 bx Q6 v23 fun c_5 =>
 sto s_12 (.val (.vp s.locs.length 0)) c_5 fun s_15 =>
 bind1 (ldV (C.ti Q6) false s_15 (.val (.vp s.locs.length 0))) fun v => some (.ret v, s_15)) (fun s_13 =>
 bind1 (ldV (C.ti Q6) false s_13 (.val (.vp s.locs.length 0))) fun v => some (.ret v, s_13)) (fun j s_14 =>
 bif Nat.beq j 0 then (
 bd Q6 [] fun v23_1 =>
 bx Q6 v23_1 fun c_6 =>
 sto s_14 (.val (.vp s.locs.length 0)) c_6 fun s_16 =>
 bind1 (ldV (C.ti Q6) false s_16 (.val (.vp s.locs.length 0))) fun v => some (.ret v, s_16)) else (
(none : Res))))) := (Q5 _ _ _).trans (by kernel_rfl)
theorem Qat (a0 : AV) (s : St) : cw (.f Q3u) [a0] s =
 bx Qp (.val a0) fun c1 =>
 bindA (avs c1) fun l1 =>
 bind1 (fnS Q2u [(.val (.cp l1))]) fun v3 =>
 some (.ret v3, s) := (Q5 _ _ _).trans (by kernel_rfl)
theorem Qam (a0 : AV) (s : St) : cw (.f Q3s) [a0] s =
 ld Qp s (.val a0) fun v2 =>
 ca Z9 [v2] s fun v3 s_1 =>
 some (.ret v3, s_1) := (Q5 _ _ _).trans (by kernel_rfl)
noncomputable def ZJ : Slot → Slot → Slot → Slot → Slot → Slot → Slot → Slot → St → Res := fun x3_2 x6_1 x11_2 x12_2 x13_2 x35 x36 x37 s => lpD Z9 [.seqR, .seqR, .seqL, .seqR, .block, .loop, .seqR, .seqR, .seqL, .block, .seqR, .seqR, .seqR, .seqL, .seqR, .block] Try.f33 [(3, .s x3_2), (6, .s x6_1), (11, .s x11_2), (12, .s x12_2), (13, .s x13_2), (35, .s x35), (36, .s x36), (37, .s x37)] s
noncomputable def Q0i : Slot → List Slot → Slot → Slot → Slot → Slot → Slot → Slot → Slot → St → Res := fun x3_1 x5 x6 x11_1 x12_1 x13_1 x21 x22 x23 s => lpD Z9 [.seqR, .seqR, .seqL, .seqR, .block, .loop, .seqR, .seqR, .seqL, .block, .seqR, .seqR, .seqL, .seqR, .block] Try.f33 [(3, .s x3_1), (5, .var x5), (6, .s x6), (11, .s x11_1), (12, .s x12_1), (13, .s x13_1), (21, .s x21), (22, .s x22), (23, .s x23)] s
noncomputable def Zi : Slot → Slot → Slot → Slot → St → Res := fun x3 x11 x12 x13 s => lpD Z9 [.seqR, .seqR, .seqL, .seqR, .block] Try.f33 [(3, .s x3), (11, .s x11), (12, .s x12), (13, .s x13)] s
theorem Q3o : ∀ x3_2 x6_1 x11_2 x12_2 x13_2 x35 x36 x37 s_5, ZJ x3_2 x6_1 x11_2 x12_2 x13_2 x35 x36 x37 s_5 =
 bn Q1 .lss x37 x36 fun v38 =>
 condS v38 (
 ix Zo x35 x37 fun v39 =>
 ld Zo s_5 v39 fun v40 =>
 bx Zo v40 fun c_2 =>
 pZ Zo c_2 fun c10 =>
 gC Qg 2 c10 fun v42 =>
 condS v42 (
 gC Q4 3 c10 fun v45 =>
 ca Q0l [v45] s_5 fun v46 s_6 =>
 bind1 (max2 x6_1 v46) fun v47 =>
 nx x37 fun v48 =>
 ZJ x3_2 v47 x11_2 x12_2 x13_2 x35 x36 v48 s_6) (
 nx x37 fun v48_1 =>
 ZJ x3_2 x6_1 x11_2 x12_2 x13_2 x35 x36 v48_1 s_5)) (
 nx x6_1 fun v51 =>
 bind1 (max2 x3_2 v51) fun v52 =>
 nx x13_2 fun v53 =>
 Zi v52 x11_2 x12_2 v53 s_5) := by intros; unfold ZJ; exact (Q9 _ _ _ _ _ _).trans (by kernel_rfl)
theorem Q3n : ∀ x3_1 x5 x6 x11_1 x12_1 x13_1 x21 x22 x23 s_3, Q0i x3_1 x5 x6 x11_1 x12_1 x13_1 x21 x22 x23 s_3 =
 bn Q1 .lss x23 x22 fun v24 =>
 condS v24 (
 ix QX x21 x23 fun v25 =>
 ld QX s_3 v25 fun v26 =>
 bx QX v26 fun c_1 =>
 pZ QX c_1 fun c8 =>
 gC Ql 2 c8 fun v29 =>
 bs Ql [v29] fun v30 =>
 ca Zh [v30] s_3 fun v31 s_4 =>
 bind1 (max2 x6 v31) fun v32 =>
 nx x23 fun v33 =>
 Q0i x3_1 x5 v32 x11_1 x12_1 x13_1 x21 x22 v33 s_4) (
 gC QL 4 x5 fun v35 =>
 ln QL v35 fun v36 =>
 ZJ x3_1 x6 x11_1 x12_1 x13_1 v35 v36 (iv 0) s_3) := by intros; unfold Q0i; exact (Q9 _ _ _ _ _ _).trans (by kernel_rfl)
theorem Q3m : ∀ x3 x11 x12 x13 s_1, Zi x3 x11 x12 x13 s_1 =
 bn Q1 .lss x13 x12 fun v14 =>
 condS v14 (
 ix Qi x11 x13 fun v15 =>
 ld Qi s_1 v15 fun v16 =>
 bx Qi v16 fun c =>
 pZ Qi c fun c5 =>
 gC Qj 5 c5 fun v18 =>
 ca Zh [v18] s_1 fun v19 s_2 =>
 gC QM 6 c5 fun v21 =>
 ln QM v21 fun v22 =>
 Q0i x3 c5 v19 x11 x12 x13 v21 v22 (iv 0) s_2) (
 some (.ret x3, s_1)) := by intros; unfold Zi; exact (Q9 _ _ _ _ _ _).trans (by kernel_rfl)
theorem Q54 (a0 : AV) (s : St) : cw (.f Z9) [a0] s =
 ln Qp (.val a0) fun v12 =>
 Zi (iv 0) (.val a0) v12 (iv 0) s := (Q5 _ _ _).trans (by kernel_rfl)
theorem Qc1 (a0 : AV) (a1 : AV) (a2 : AV) (a3 : AV) (s : St) : cw (.f ZL) [a0, a1, a2, a3] s =
 ca Q3v [(.val a1), (.val (.nils))] s fun v14 s_1 =>
 bd Q1a [(1, Q4, v14)] fun v15 =>
 bd Qd [(0, Q2, (.val a0)), (1, Q2, (.val a1)), (2, Q1, (.val a2)), (3, Q1, (.val a3)), (5, Q1a, v15)] fun v16 =>
 bx Qd v16 fun c =>
 pZ Qd c fun c8 =>
 gA Qd c8 fun v => some (.ret v, s_1) := (Q5 _ _ _).trans (by kernel_rfl)
noncomputable def Q1i : List Slot → List Slot → Slot → Slot → Slot → St → Res := fun x1 x2 x10 x11 x12 s => lpD Q0G [.seqR, .seqR, .seqL, .seqR, .block] Try.f35 [(1, .var x1), (2, .var x2), (10, .s x10), (11, .s x11), (12, .s x12)] s
theorem Q1d : ∀ x1 x2 x10 x11 x12 s_2, Q1i x1 x2 x10 x11 x12 s_2 =
 bn Q1 .lss x12 x11 fun v13 =>
 condS v13 (
 ix Q4 x10 x12 fun v15 =>
 ld Q4 s_2 v15 fun v16 =>
 bx Q4 v16 fun c_1 =>
 pZ Q4 c_1 fun c4 =>
 gC Qk 3 x1 fun v18 =>
 gA Q4 c4 fun v20 =>
 cn Q0G [v20] s_2 fun v21 s_3 =>
 ix Q4 v18 x12 fun v22 =>
 bx Q4 v21 fun c_2 =>
 sto s_3 v22 c_2 fun s_4 =>
 nx x12 fun v23 =>
 Q1i x1 x2 x10 x11 v23 s_4) (
 bindLS (frzSlots C.ti x1 s_2) fun c1_2 s_5 =>
 gA Q4 c1_2 fun v24 =>
 bx Q4 v24 fun c_3 =>
 pt x2 0 c_3 fun c2 =>
 gA Q4 c2 fun v => some (.ret v, s_5)) := by intros; unfold Q1i; exact (Q9 _ _ _ _ _ _).trans (by kernel_rfl)
theorem QbZ (a0 : AV) (s : St) : cw (.f Q0G) [a0] s =
 bx Q4 (.val a0) fun c1 =>
 gC Qk 3 c1 fun v6 =>
 ca Zj [v6] s fun v7 s_1 =>
 bx Qk v7 fun c =>
 pt c1 3 c fun c1_1 =>
 gC Qk 3 c1_1 fun v10 =>
 ln Qk v10 fun v11 =>
 Q1i c1_1 ((List.map .val (C.ti Q4).zero)) v10 v11 (iv 0) s_1 := (Q5 _ _ _).trans (by kernel_rfl)
noncomputable def ZZ : Slot → Slot → Slot → Slot → Slot → St → Res := fun x0_2 x2_2 x44 x45 x46 s => lpD QP [.seqR, .seqR, .seqR, .block] Try.f36 [(0, .s x0_2), (2, .s x2_2), (44, .s x44), (45, .s x45), (46, .s x46)] s
noncomputable def Z7 : Slot → Slot → List Slot → St → Res := fun x0_1 x2_1 x4_1 s => pwD QP [.seqR, .seqR] Try.f36 [(0, .s x0_1), (2, .s x2_1), (4, .var x4_1)] s
noncomputable def ZY : Slot → Slot → List Slot → Slot → Slot → St → Res := fun x0 x2 x4 x9 x10 s => pwD QP [.seqR, .seqL, .seqR, .block, .seqR] Try.f36 [(0, .s x0), (2, .s x2), (4, .var x4), (9, .s x9), (10, .s x10)] s
theorem Q38 : ∀ x0_2 x2_2 x44 x45 x46 s_5, ZZ x0_2 x2_2 x44 x45 x46 s_5 =
 bn Q1 .lss x46 x45 fun v47 =>
 condS v47 (
 ix Qq x44 x46 fun v48 =>
 ld Qq s_5 v48 fun v49 =>
 bx Qq v49 fun c =>
 pZ Qq c fun c7 =>
 gA Qq c7 fun v51 =>
 ca QP [x0_2, v51, x2_2] s_5 fun v53 s_6 =>
 nx x46 fun v54 =>
 ZZ x0_2 x2_2 x44 x45 v54 s_6) (
 rt [] s_5) := by intros; unfold ZZ; exact (Q9 _ _ _ _ _ _).trans (by kernel_rfl)
theorem Q6N : ∀ x0_1 x2_1 x4_1 s_4, Z7 x0_1 x2_1 x4_1 s_4 =
 gC QN 4 x4_1 fun v44 =>
 ln QN v44 fun v45 =>
 ZZ x0_1 x2_1 v44 v45 (iv 0) s_4 := by intros; unfold Z7; exact (Q0F _).trans (by kernel_rfl)
theorem Q6M : ∀ x0 x2 x4 x9 x10 s_1, ZY x0 x2 x4 x9 x10 s_1 =
 condS x10 (
 gC Q2 2 x4 fun v15 =>
 lk Q2 Q1 s_1 x2 v15 false fun v16 =>
 nx v16 fun v17 =>
 upd2 Q2 Q1 s_1 x2 v15 v17 fun _ s_2 =>
 gC Q2 2 x4 fun v20 =>
 lk Q2 Q1 s_2 x2 v20 false fun v21 =>
 bn Q1 .gtr v21 (iv 1) fun v22 =>
 condS v22 (
 gC Q1 1 x4 fun v25 =>
 gC Q2 2 x4 fun v27 =>
 ca QF [x0, (iv 9), v25, v27] s_2 fun v28 s_3 =>
 Z7 x0 x2 x4 s_3) (
 Z7 x0 x2 x4 s_2)) (
 bn Qr .eql x9 (iv 4) fun v30 =>
 condS v30 (
 bind1 (nilCheckV x0) fun v32 =>
 fa 4 v32 fun v33 =>
 ld Qn s_1 v33 fun v34 =>
 gC Q2 2 x4 fun v36 =>
 gC Q1 1 x4 fun v38 =>
 gC QN 4 x4 fun v40 =>
 ln QN v40 fun v41 =>
 back (noPan (cal cw true (tgtV v34 [v36, v38, v41]) s_1)) fun v42 s_7 =>
 Z7 x0 x2 x4 s_7) (
 Z7 x0 x2 x4 s_1)) := by intros; unfold ZY; exact (Q0F _).trans (by kernel_rfl)
theorem Q8t (a0 : AV) (a1 : AV) (a2 : AV) (s : St) : cw (.f QP) [a0, a1, a2] s =
 bx Qq (.val a1) fun c4 =>
 gC Qr 0 c4 fun v9 =>
 bn Qr .eql v9 (iv 2) fun v11 =>
 condS v11 (
 ZY (.val a0) (.val a2) c4 v9 v11 s) (
 bn Qr .eql v9 (iv 6) fun v12 =>
 ZY (.val a0) (.val a2) c4 v9 v12 s) := (Q5 _ _ _).trans (by kernel_rfl)
noncomputable def ZN : Slot → Slot → Slot → Slot → Slot → St → Res := fun x2 x3 x7 x8 x9 s => lpD Z6 [.seqR, .seqL, .seqR, .block] Try.f37 [(2, .s x2), (3, .s x3), (7, .s x7), (8, .s x8), (9, .s x9)] s
theorem Q2z : ∀ x2 x3 x7 x8 x9 s_1, ZN x2 x3 x7 x8 x9 s_1 =
 bn Q1 .lss x9 x8 fun v10 =>
 condS v10 (
 ix Q2 x7 x9 fun v11 =>
 ld Q2 s_1 v11 fun v12 =>
 ld QH s_1 x2 fun v13 =>
 bind1 (nilCheckV v13) fun v14 =>
 fa 0 v14 fun v15 =>
 ld Qo s_1 v15 fun v16 =>
 lk Q2 Q1 s_1 v16 v12 false fun v18 =>
 nx v18 fun v19 =>
 upd2 Q2 Q1 s_1 v16 v12 v19 fun _ s_2 =>
 nx x9 fun v20 =>
 ZN x2 x3 x7 x8 v20 s_2) (
 bind1 (fnS QA [x3, x2]) fun v21 =>
 some (.ret v21, s_1)) := by intros; unfold ZN; exact (Q9 _ _ _ _ _ _).trans (by kernel_rfl)
theorem Q7Z (a0 : AV) (a1 : AV) (s : St) : cw (.f Z6) [a0, a1] s =
 bx QH (.val a0) fun c2 =>
 bindA (avs c2) fun l2 =>
 bx Qa (.val a1) fun c3 =>
 bindA (avs c3) fun l3 =>
 ld Qa s (.val (.cp l3)) fun v7 =>
 ln Qa v7 fun v8 =>
 ZN (.val (.cp l2)) (.val (.cp l3)) v7 v8 (iv 0) s := (Q5 _ _ _).trans (by kernel_rfl)
theorem Q80 (a0 : AV) (a1 : AV) (s : St) : cw (.f ZX) [a0, a1] s =
 bx Ql (.val a1) fun c3 =>
 gC Qq 0 c3 fun v7 =>
 ca QP [(.val a0), v7, (.val (.mp s.locs.length))] (St.addLoc s (.map [] 0)) fun v9 s_1 =>
 gC Qq 0 c3 fun v12 =>
 ca Q28 [v12] s_1 fun v13 s_2 =>
 ca Z6 [(.val a0), v13] s_2 fun v14 s_3 =>
 gC Qm 5 c3 fun v17 =>
 ca Qy [(.val a0), v17] s_3 fun v18 s_4 =>
 back (cal cw true (tgtV v14 []) s_4) fun v20 s_5 =>
 rt [] s_5 := (Q5 _ _ _).trans (by kernel_rfl)
theorem Q7m (s : St) : cw (.f Q0r) [] s =
 rt [] s := (Q5 _ _ _).trans (by kernel_rfl)
noncomputable def Q0N : Slot → Slot → Slot → Slot → St → Res := fun x3 x9 x10 x11 s => lpD Q2o [.seqR, .seqR, .seqL, .seqR, .block] Try.f40 [(3, .s x3), (9, .s x9), (10, .s x10), (11, .s x11)] s
theorem Q44 : ∀ x3 x9 x10 x11 s_2, Q0N x3 x9 x10 x11 s_2 =
 bn Q1 .lss x11 x10 fun v12 =>
 condS v12 (
 ix Qd x9 x11 fun v13 =>
 ld Qd s_2 v13 fun v14 =>
 bx Qd v14 fun c =>
 pZ Qd c fun c5 =>
 gC Q4 6 c5 fun v17 =>
 ca Q0G [v17] s_2 fun v18 s_3 =>
 bx Q4 v18 fun c_1 =>
 pt c5 6 c_1 fun c5_1 =>
 gA Qd c5_1 fun v22 =>
 bs Qd [v22] fun v23 =>
 ap Qd s_3 x3 v23 fun v24 s_4 =>
 nx x11 fun v25 =>
 Q0N v24 x9 x10 v25 s_4) (
 some (.ret x3, s_2)) := by intros; unfold Q0N; exact (Q9 _ _ _ _ _ _).trans (by kernel_rfl)
theorem QaY (a0 : AV) (s : St) : cw (.f Q2o) [a0] s =
 ln Zl (.val a0) fun v7 =>
 bind2 (makeS Qd (C.ti Qd) s (iv 0) v7) fun v8 s_1 =>
 ln Zl (.val a0) fun v10 =>
 Q0N v8 (.val a0) v10 (iv 0) s_1 := (Q5 _ _ _).trans (by kernel_rfl)
noncomputable def Q0o : Slot → Slot → Slot → Slot → St → Res := fun x3 x10 x11 x12 s => lpD Q2D [.seqR, .seqR, .seqL, .seqR, .block] Try.f41 [(3, .s x3), (10, .s x10), (11, .s x11), (12, .s x12)] s
theorem Q4J : ∀ x3 x10 x11 x12 s_8, Q0o x3 x10 x11 x12 s_8 =
 bn Q1 .lss x12 x11 fun v13 =>
 condS v13 (
 ix Qd x10 x12 fun v14 =>
 ld Qd s_8 v14 fun v15 =>
 bx Qd v15 fun c =>
 pZ Qd c fun c5 =>
 gC Q2 1 c5 fun v19 =>
 lk Q2 Q1 s_8 x3 v19 true fun v20 =>
 ex v20 0 fun v21 =>
 ex v20 1 fun v22 =>
 nt v22 fun v24 =>
 condS v24 (
 gC Q2 1 c5 fun v27 =>
 gC Q1 5 c5 fun v30 =>
 upd2 Q2 Q1 s_8 x3 v27 v30 fun _ s_9 =>
 nx x12 fun v31 =>
 Q0o x3 x10 x11 v31 s_9) (
 nx x12 fun v31_1 =>
 Q0o x3 x10 x11 v31_1 s_8)) (
 some (.ret x3, s_8)) := by intros; unfold Q0o; exact (Q9 _ _ _ _ _ _).trans (by kernel_rfl)
theorem Qc0 (a0 : AV) (s : St) : cw (.f Q2D) [a0] s =
 upd2 Q2 Q1 (St.addLoc s (.map [] 0)) (.val (.mp s.locs.length)) (sv [105, 110, 116]) (iv (-1)) fun _ s_1 =>
 upd2 Q2 Q1 s_1 (.val (.mp s.locs.length)) (sv [98, 111, 111, 108]) (iv (-1)) fun _ s_2 =>
 upd2 Q2 Q1 s_2 (.val (.mp s.locs.length)) (sv [117, 110, 105, 116]) (iv (-1)) fun _ s_3 =>
 upd2 Q2 Q1 s_3 (.val (.mp s.locs.length)) (sv [101, 120, 110]) (iv (-1)) fun _ s_4 =>
 upd2 Q2 Q1 s_4 (.val (.mp s.locs.length)) (sv [114, 101, 102]) (iv (-1)) fun _ s_5 =>
 upd2 Q2 Q1 s_5 (.val (.mp s.locs.length)) (sv [45, 62]) (iv (-1)) fun _ s_6 =>
 upd2 Q2 Q1 s_6 (.val (.mp s.locs.length)) (sv [42]) (iv (-1)) fun _ s_7 =>
 ln Zl (.val a0) fun v11 =>
 Q0o (.val (.mp s.locs.length)) (.val a0) v11 (iv 0) s_7 := (Q5 _ _ _).trans (by kernel_rfl)
noncomputable def Q0O : List Slot → List Slot → Slot → Slot → Slot → St → Res := fun x1 x2 x4 x11 x12 s => lpD Q27 [.seqR, .seqR, .seqR, .seqL, .seqR, .block] Try.f42 [(1, .var x1), (2, .var x2), (4, .s x4), (11, .s x11), (12, .s x12)] s
theorem Q5o : ∀ x1 x2 x4 x11 x12 s_2, Q0O x1 x2 x4 x11 x12 s_2 =
 bn Q1 .lss x12 x11 fun v13 =>
 condS v13 (
 bd Q4 [(0, Qs, (iv 1)), (1, Q1, x12)] fun v17 =>
 bs Q4 [v17] fun v18 =>
 ap Q4 s_2 x4 v18 fun v19 s_3 =>
 nx x12 fun v20 =>
 Q0O x1 x2 v19 x11 v20 s_3) (
 gC Q2 2 x1 fun v22 =>
 cn Q3v [v22, x4] s_2 fun v24 s_4 =>
 gC Q1 3 x1 fun v26 =>
 bx Q4 v24 fun c_1 =>
 pt x2 0 c_1 fun c2_1 =>
 rt [(ofSlots (C.ti Q4) (List.take (C.ti Q4).size c2_1)), (some v26)] s_4) := by intros; unfold Q0O; exact (Q9 _ _ _ _ _ _).trans (by kernel_rfl)
theorem Q4I (a0 : AV) (s : St) : cw (.f Q27) [a0] s =
 bx Qi (.val a0) fun c1 =>
 gC Qe 0 c1 fun v7 =>
 bn Qe .eql v7 (iv 4) fun v8 =>
 condS v8 (
 ca Q3v [(sv [101, 120, 110]), (.val (.nils))] s fun v9 s_1 =>
 bx Q4 v9 fun c =>
 pZ Q4 c fun c2 =>
 rt [(ofSlots (C.ti Q4) (List.take (C.ti Q4).size c2)), (some (iv 0))] s_1) (
 gC Q1 3 c1 fun v11 =>
 Q0O c1 ((List.map .val (C.ti Q4).zero)) (.val (.nils)) v11 (iv 0) s) := (Q5 _ _ _).trans (by kernel_rfl)
theorem Qc2 (a0 : AV) (a1 : AV) (a2 : AV) (s : St) : cw (.f Q4A) [a0, a1, a2] s =
 bx Qo (.val a0) fun c3 =>
 bindA (avs c3) fun l3 =>
 bx Q1 (.val a1) fun c4 =>
 bindA (avs c4) fun l4 =>
 bx Q4 (.val a2) fun c5 =>
 bind1 (fnS Q0H [(.val (.cp l4)), (.val (.cp l3)), (.val (.vp s.locs.length 0))]) fun v9 =>
 bx Qh v9 fun c =>
 sto (St.addLoc s (.var (List.map .val (C.ti Qh).zero))) (.val (.vp s.locs.length 0)) c fun s_1 =>
 ld Qh s_1 (.val (.vp s.locs.length 0)) fun v10 =>
 gA Q4 c5 fun v11 =>
 back (cal cw true (tgtV v10 [v11]) s_1) fun v12 s_2 =>
 ex v12 0 fun v13 =>
 ex v12 1 fun v14 =>
 rt [(some v13), (some v14)] s_2 := (Q5 _ _ _).trans (by kernel_rfl)
theorem Qge (a0 : AV) (a1 : AV) (s : St) : cw (.f Q97) [a0, a1] s =
 bx Q4 (.val a0) fun c2 =>
 bx Qk (.val a1) fun c3 =>
 bindA (avs c3) fun l3 =>
 gA Q4 c2 fun v5 =>
 bind1 (fnS Q6t [(.val (.cp l3))]) fun v6 =>
 ca Q29 [v5, v6] s fun v7 s_1 =>
 bx Q4 v7 fun c =>
 pZ Q4 c fun c4 =>
 gA Q4 c4 fun v => some (.ret v, s_1) := (Q5 _ _ _).trans (by kernel_rfl)
theorem Qh5 (a0 : AV) (a1 : AV) (s : St) : cw (.f QaG) [a0, a1] s =
 bx Q4 (.val a0) fun c2 =>
 bx Q4 (.val a1) fun c3 =>
 gA Q4 c2 fun v5 =>
 gA Q4 c3 fun v6 =>
 bs Q4 [v5, v6] fun v7 =>
 ca Q3v [(sv [45, 62]), v7] s fun v8 s_1 =>
 bx Q4 v8 fun c =>
 pZ Q4 c fun c4 =>
 gA Q4 c4 fun v => some (.ret v, s_1) := (Q5 _ _ _).trans (by kernel_rfl)
theorem Q4Y (a0 : AV) (a1 : AV) (s : St) : cw (.f Z8) [a0, a1] s =
 ld Qa s (.val a1) fun v3 =>
 ca QQ [v3, (.val a0)] s fun v5 s_1 =>
 nt v5 fun v6 =>
 condS v6 (
 ld Qa s_1 (.val a1) fun v7 =>
 bs Q2 [(.val a0)] fun v9 =>
 ap Q2 s_1 v7 v9 fun v10 s_2 =>
 bx Qa v10 fun c =>
 sto s_2 (.val a1) c fun s_3 =>
 rt [] s_3) (
 rt [] s_1) := (Q5 _ _ _).trans (by kernel_rfl)
noncomputable def Q53 (x3 : Slot) : Am.Obj := .loop .ready none Q28 [(3, .s x3)] [7] (rngAsg (codeAt [.seqR, .seqR, .seqL, .seqR, .block] (body Try.f47))) (rngBody (codeAt [.seqR, .seqR, .seqL, .seqR, .block] (body Try.f47)))
theorem Qan (x3 : Slot) (y7 : AV) (loc : Nat) (s_2 : St) : yldR C (Q53 x3) loc [y7] s_2 = noPan (
 bx QI (.val y7) fun c =>
 pZ QI c fun c4 =>
 bindS (beginL loc s_2) fun s_3 =>
 gC Q09 5 c4 fun v9 =>
 bind1 (nilCheckV v9) fun v10 =>
 fa 0 v10 fun v11 =>
 ld Qr s_3 v11 fun v12 =>
 bn Qr .eql v12 (iv 2) fun v13 =>
 iF v13 fun w =>
 iF v13 fun w_1 =>
 gG w_1 w Q09 5 c4 fun v16 =>
 iF v13 fun w_2 =>
 bind1 (gd w_2 (nilCheckV v16)) fun v17 =>
 iF v13 fun w_3 =>
 bind1 (gd w_3 (faV 0 v17)) fun v18 =>
 iF v13 fun w_4 =>
 bind1 (gd w_4 (ldV (C.ti Qr) false s_3 v18)) fun v19 =>
 iF v13 fun w_5 =>
 gB w_5 Qr .eql v19 (iv 6) fun v20 =>
 pk v13 (bv true) v20 fun v21 =>
 condS v21 (
 ld Qa s_3 x3 fun v22 =>
 gC Q09 5 c4 fun v24 =>
 bind1 (nilCheckV v24) fun v25 =>
 fa 2 v25 fun v26 =>
 ld Q2 s_3 v26 fun v27 =>
 bs Q2 [v27] fun v28 =>
 ap Q2 s_3 v22 v28 fun v29 s_4 =>
 bx Qa v29 fun c_1 =>
 sto s_4 x3 c_1 fun s_5 =>
 bindS (setLoop loc .ready none s_5) fun s_6 =>
 some (.ret (bv true), s_6)) (
 bindS (setLoop loc .ready none s_3) fun s_7 =>
 some (.ret (bv true), s_7))) := by kernel_rfl
theorem Qdt (a0 : AV) (s : St) : cw (.f Q28) [a0] s =
 bx Qq (.val a0) fun c1 =>
 gA Qq c1 fun v5 =>
 ca Q3t [v5] (St.addLoc s (.var (List.map .val (C.ti Qa).zero))) fun v6 s_1 =>
 rangeC C cw v6 s_1.locs.length (St.addLoc s_1 (Q53 (.val (.vp s.locs.length 0)))) fun s_8 =>
 endX s_1.locs.length s_8 (fun s_9 =>
 ld Qa s_9 (.val (.vp s.locs.length 0)) fun v30 =>
 some (.ret v30, s_9)) (fun s_10 =>
 some (.ret (.val (.nils)), s_10)) (fun j s_11 =>
 bif Nat.beq j 0 then (
 ld Qa s_11 (.val (.vp s.locs.length 0)) fun v30_1 =>
 some (.ret v30_1, s_11)) else (
(none : Res))) := (Q5 _ _ _).trans (by kernel_rfl)
theorem Q85 (a0 : AV) (s : St) : cw (.f Q23) [a0] s =
 bx Qm (.val a0) fun c1 =>
 bindA (avs c1) fun l1 =>
 bind1 (fnS Q1v [(.val (.cp l1))]) fun v3 =>
 some (.ret v3, s) := (Q5 _ _ _).trans (by kernel_rfl)
theorem Q82 (a0 : AV) (s : St) : cw (.f Q22) [a0] s =
 ld Qm s (.val a0) fun v2 =>
 ca ZH [v2] s fun v3 s_1 =>
 some (.ret v3, s_1) := (Q5 _ _ _).trans (by kernel_rfl)
noncomputable def Q0z : Slot → Slot → Slot → Slot → St → Res := fun x3 x14 x15 x16 s => lpD ZH [.seqR, .seqR, .seqL, .seqR, .block] Try.f50 [(3, .s x3), (14, .s x14), (15, .s x15), (16, .s x16)] s
theorem Q3X : ∀ x3 x14 x15 x16 s_3, Q0z x3 x14 x15 x16 s_3 =
 bn Q1 .lss x16 x15 fun v17 =>
 condS v17 (
 ix Qm x14 x16 fun v18 =>
 ld Qm s_3 v18 fun v19 =>
 bx Qm v19 fun c =>
 pZ Qm c fun c5 =>
 gA Qm c5 fun v21 =>
 ca ZH [v21] s_3 fun v22 s_4 =>
 bind1 (max2 x3 v22) fun v23 =>
 nx x16 fun v24 =>
 Q0z v23 x14 x15 v24 s_4) (
 nx x3 fun v26 =>
 some (.ret v26, s_3)) := by intros; unfold Q0z; exact (Q9 _ _ _ _ _ _).trans (by kernel_rfl)
theorem Qaq (a0 : AV) (s : St) : cw (.f ZH) [a0] s =
 bx Qm (.val a0) fun c1 =>
 gC Qp 6 c1 fun v7 =>
 cn Z9 [v7] s fun v8 s_1 =>
 gC Qj 5 c1 fun v10 =>
 cn Zh [v10] s_1 fun v11 s_2 =>
 bind1 (max2 v8 v11) fun v12 =>
 gC QD 4 c1 fun v14 =>
 ln QD v14 fun v15 =>
 Q0z v12 v14 v15 (iv 0) s_2 := (Q5 _ _ _).trans (by kernel_rfl)
noncomputable def QJ : Slot → Slot → Slot → Slot → St → Res := fun x0 x1 x7 x8 s => lpD QZ [.seqR, .seqL, .seqR, .block] Try.f51 [(0, .s x0), (1, .s x1), (7, .s x7), (8, .s x8)] s
theorem Q06 : ∀ x0 x1 x7 x8 s_1, QJ x0 x1 x7 x8 s_1 =
 bn Q1 .lss x8 x7 fun v9 =>
 condS v9 (
 ix Q2 x0 x8 fun v14 =>
 ld Q2 s_1 v14 fun v15 =>
 bn Q2 .eql x1 v15 fun v16 =>
 condS v16 (
 some (.ret x8, s_1)) (
 nx x8 fun v18 =>
 QJ x0 x1 x7 v18 s_1)) (
 some (.ret (iv (-1)), s_1)) := by intros; unfold QJ; exact (Q9 _ _ _ _ _ _).trans (by kernel_rfl)
theorem Q39 (a0 : AV) (a1 : AV) (s : St) : cw (.f QZ) [a0, a1] s =
 ln Qa (.val a0) fun v7 =>
 QJ (.val a0) (.val a1) v7 (iv 0) s := (Q5 _ _ _).trans (by kernel_rfl)
noncomputable def Q0d : List Slot → Slot → Slot → St → Res := fun x2_2 x5_2 x8 s => lpD ZU [.seqR, .seqR, .seqR, .seqR, .seqL, .seqR, .block] Try.f52 [(2, .var x2_2), (5, .s x5_2), (8, .s x8)] s
noncomputable def Q0U : List Slot → Slot → Slot → St → Res := fun x2_1 x5_1 x7 s => lpD ZU [.seqR, .seqR, .seqR, .seqL, .seqR, .block] Try.f52 [(2, .var x2_1), (5, .s x5_1), (7, .s x7)] s
noncomputable def Q0T : List Slot → Slot → Slot → St → Res := fun x2 x5 x6 s => lpD ZU [.seqR, .seqR, .seqL, .seqR, .block] Try.f52 [(2, .var x2), (5, .s x5), (6, .s x6)] s
theorem Q25 : ∀ x2_2 x5_2 x8 s_8, Q0d x2_2 x5_2 x8 s_8 =
 gC QL 4 x2_2 fun v64 =>
 ln QL v64 fun v65 =>
 bn Q1 .lss x8 v65 fun v66 =>
 condS v66 (
 gC QL 4 x2_2 fun v70 =>
 ix Zo v70 x8 fun v72 =>
 ld Zo s_8 v72 fun v73 =>
 bx Zo v73 fun c =>
 pZ Zo c fun c9 =>
 gA Zo c9 fun v75 =>
 gC Q1 1 c9 fun v77 =>
 bd Qb [(0, Q1, (iv 6)), (40, Zo, v75), (2, Q1, v77)] fun v78 =>
 bs Qb [v78] fun v79 =>
 ap Qb s_8 x5_2 v79 fun v80 s_9 =>
 gC Qg 2 c9 fun v82 =>
 condS v82 (
 gC Q4 3 c9 fun v85 =>
 gC Q1 1 c9 fun v87 =>
 ca Q0J [v85, v87] s_9 fun v88 s_10 =>
 ap Qb s_10 v80 v88 fun v89 s_11 =>
 nx x8 fun v68 =>
 Q0d x2_2 v89 v68 s_11) (
 nx x8 fun v68_1 =>
 Q0d x2_2 v80 v68_1 s_9)) (
 some (.ret x5_2, s_8)) := by intros; unfold Q0d; exact (Q9 _ _ _ _ _ _).trans (by kernel_rfl)
theorem Q47 : ∀ x2_1 x5_1 x7 s_4, Q0U x2_1 x5_1 x7 s_4 =
 gC QM 6 x2_1 fun v33 =>
 ln QM v33 fun v34 =>
 bn Q1 .lss x7 v34 fun v35 =>
 condS v35 (
 gC QM 6 x2_1 fun v40 =>
 ix QX v40 x7 fun v42 =>
 ld QX s_4 v42 fun v43 =>
 gC QM 6 x2_1 fun v45 =>
 ix QX v45 x7 fun v47 =>
 fa 1 v47 fun v48 =>
 ld Q1 s_4 v48 fun v49 =>
 bd Qb [(0, Q1, (iv 5)), (26, QX, v43), (2, Q1, v49)] fun v50 =>
 bs Qb [v50] fun v51 =>
 ap Qb s_4 x5_1 v51 fun v52 s_5 =>
 gC QM 6 x2_1 fun v55 =>
 ix QX v55 x7 fun v57 =>
 fa 2 v57 fun v58 =>
 ld Ql s_5 v58 fun v59 =>
 ca Q0I [v59] s_5 fun v60 s_6 =>
 ap Qb s_6 v52 v60 fun v61 s_7 =>
 nx x7 fun v37 =>
 Q0U x2_1 v61 v37 s_7) (
 Q0d x2_1 x5_1 (iv 0) s_4) := by intros; unfold Q0U; exact (Q9 _ _ _ _ _ _).trans (by kernel_rfl)
theorem Q46 : ∀ x2 x5 x6 s_1, Q0T x2 x5 x6 s_1 =
 gC Qj 5 x2 fun v18 =>
 ln Qj v18 fun v19 =>
 bn Q1 .lss x6 v19 fun v20 =>
 condS v20 (
 gC Qj 5 x2 fun v25 =>
 ix Ql v25 x6 fun v27 =>
 ld Ql s_1 v27 fun v28 =>
 ca Q0I [v28] s_1 fun v29 s_2 =>
 ap Qb s_2 x5 v29 fun v30 s_3 =>
 nx x6 fun v22 =>
 Q0T x2 v30 v22 s_3) (
 Q0U x2 x5 (iv 0) s_1) := by intros; unfold Q0T; exact (Q9 _ _ _ _ _ _).trans (by kernel_rfl)
theorem Qb9 (a0 : AV) (a1 : AV) (s : St) : cw (.f ZU) [a0, a1] s =
 bx Qi (.val a0) fun c2 =>
 gA Qi c2 fun v10 =>
 gC Q1 1 c2 fun v12 =>
 bd Qb [(0, Q1, (iv 1)), (3, Qi, v10), (2, Q1, v12), (1, Qg, (.val a1))] fun v14 =>
 bs Qb [v14] fun v15 =>
 Q0T c2 v15 (iv 0) s := (Q5 _ _ _).trans (by kernel_rfl)
noncomputable def Q40 (x3 : Slot) (x5 : Slot) : Am.Obj := .loop .ready none Q2H [(3, .s x3), (5, .s x5)] [8] (rngAsg (codeAt [.seqR, .seqR, .seqL, .seqR, .block] (body Try.f53))) (rngBody (codeAt [.seqR, .seqR, .seqL, .seqR, .block] (body Try.f53)))
theorem Q9m (x3 : Slot) (x5 : Slot) (y8 : AV) (loc : Nat) (s_2 : St) : yldR C (Q40 x3 x5) loc [y8] s_2 = noPan (
 bx QI (.val y8) fun c_1 =>
 pZ QI c_1 fun c6 =>
 bindS (beginL loc s_2) fun s_3 =>
 gA QI c6 fun v9 =>
 ca Q24 [v9] s_3 fun v10 s_4 =>
 condS v10 (
 ld Q1 s_4 x5 fun v11 =>
 nx v11 fun v12 =>
 bx Q1 v12 fun c_2 =>
 sto s_4 x5 c_2 fun s_5 =>
 ld Q1 s_5 x5 fun v13 =>
 ld Q1 s_5 x3 fun v14 =>
 bn Q1 .geq v13 v14 fun v15 =>
 condS v15 (
 bindS (setLoop loc .done (some (.exit 0)) s_5) fun s_6 =>
 some (.ret (bv false), s_6)) (
 bindS (setLoop loc .ready none s_5) fun s_7 =>
 some (.ret (bv true), s_7))) (
 ld Q1 s_4 x5 fun v13_1 =>
 ld Q1 s_4 x3 fun v14_1 =>
 bn Q1 .geq v13_1 v14_1 fun v15_1 =>
 condS v15_1 (
 bindS (setLoop loc .done (some (.exit 0)) s_4) fun s_8 =>
 some (.ret (bv false), s_8)) (
 bindS (setLoop loc .ready none s_4) fun s_9 =>
 some (.ret (bv true), s_9)))) := by kernel_rfl
theorem Qcd (a0 : AV) (a1 : AV) (s : St) : cw (.f Q2H) [a0, a1] s =
 bx Q1 (.val a1) fun c3 =>
 bindA (avs c3) fun l3 =>
 bx Q1 (iv 0) fun c =>
 sto (St.addLoc s (.var (List.map .val (C.ti Q1).zero))) (.val (.vp s.locs.length 0)) c fun s_1 =>
 rangeC C cw (.val a0) s_1.locs.length (St.addLoc s_1 (Q40 (.val (.cp l3)) (.val (.vp s.locs.length 0)))) fun s_10 =>
 endX s_1.locs.length s_10 (fun s_11 =>
 ld Q1 s_11 (.val (.vp s.locs.length 0)) fun v16 =>
 some (.ret v16, s_11)) (fun s_12 =>
 some (.ret (iv 0), s_12)) (fun j s_13 =>
 bif Nat.beq j 0 then (
 ld Q1 s_13 (.val (.vp s.locs.length 0)) fun v16_1 =>
 some (.ret v16_1, s_13)) else (
(none : Res))) := (Q5 _ _ _).trans (by kernel_rfl)
noncomputable def Qx : List Slot → List Slot → Slot → Slot → St → Res := fun x1 x2 x3 x4 s => pwD Q0t [.seqR, .seqR, .seqR, .seqR] Try.f54 [(1, .var x1), (2, .var x2), (3, .s x3), (4, .s x4)] s
theorem Q5X : ∀ x1 x2 x3 x4 s_2, Qx x1 x2 x3 x4 s_2 =
 bn Qv .eql x3 (iv 0) fun v82 =>
 condS v82 (
 bd Q6 [] fun v83 =>
 bx Q6 v83 fun c =>
 pt x2 0 c fun c2 =>
 gA Q6 c2 fun v => some (.ret v, s_2)) (
 bn Qv .neq x3 (iv 8) fun v86 =>
 condS v86 (
 gC Q1 7 x1 fun v89 =>
 bd Q6 [(0, Qv, x3), (1, Q1, v89), (2, Q2, (sv []))] fun v91 =>
 bx Q6 v91 fun c_1 =>
 pt x2 0 c_1 fun c2_1 =>
 gA Q6 c2_1 fun v => some (.ret v, s_2)) (
 gC Q1 7 x1 fun v89_1 =>
 bd Q6 [(0, Qv, x3), (1, Q1, v89_1), (2, Q2, x4)] fun v91_1 =>
 bx Q6 v91_1 fun c_2 =>
 pt x2 0 c_2 fun c2_2 =>
 gA Q6 c2_2 fun v => some (.ret v, s_2))) := by intros; unfold Qx; exact (Q0F _).trans (by kernel_rfl)
theorem Q7o (a0 : AV) (s : St) : cw (.f Q0t) [a0] s =
 bx QI (.val a0) fun c1 =>
 gC Q1o 0 c1 fun v17 =>
 bn Q1o .neq v17 (.val (.nilp)) fun v18 =>
 condS v18 (
 gA QI c1 fun v19 =>
 cn ZO [v19] s fun v20 s_1 =>
 gC Q1o 0 c1 fun v22 =>
 bind1 (nilCheckV v22) fun v23 =>
 fa 2 v23 fun v24 =>
 bind1 (ldV (C.ti Q2) true s_1 v24) fun v25 =>
 Qx c1 ((List.map .val (C.ti Q6).zero)) v20 v25 s_1) (
 gC Q0M 2 c1 fun v28 =>
 bn Q0M .neq v28 (.val (.nilp)) fun v29 =>
 condS v29 (
 gC Q0M 2 c1 fun v31 =>
 bind1 (nilCheckV v31) fun v32 =>
 fa 0 v32 fun v33 =>
 ld Q2 s v33 fun v34 =>
 ca Q19 [v34] s fun v36 s_3 =>
 nt v36 fun v37 =>
 condS v37 (
 Qx c1 ((List.map .val (C.ti Q6).zero)) (iv 8) v34 s_3) (
 Qx c1 ((List.map .val (C.ti Q6).zero)) (iv 0) v34 s_3)) (
 gC Q0m 3 c1 fun v40 =>
 bn Q0m .neq v40 (.val (.nilp)) fun v41 =>
 condS v41 (
 gC Q0m 3 c1 fun v43 =>
 bind1 (nilCheckV v43) fun v44 =>
 bind1 (ldV (C.ti Zo) true s v44) fun v45 =>
 cn Q2M [v45] s fun v46 s_4 =>
 gC Q0m 3 c1 fun v48 =>
 bind1 (nilCheckV v48) fun v49 =>
 fa 0 v49 fun v50 =>
 bind1 (ldV (C.ti Q2) true s_4 v50) fun v51 =>
 Qx c1 ((List.map .val (C.ti Q6).zero)) v46 v51 s_4) (
 gC Q1p 4 c1 fun v54 =>
 bn Q1p .neq v54 (.val (.nilp)) fun v55 =>
 condS v55 (
 gC Q1p 4 c1 fun v57 =>
 bind1 (nilCheckV v57) fun v58 =>
 bind1 (ldV (C.ti Qm) true s v58) fun v59 =>
 cn Q2N [v59] s fun v60 s_5 =>
 gC Q1p 4 c1 fun v62 =>
 bind1 (nilCheckV v62) fun v63 =>
 fa 2 v63 fun v64 =>
 bind1 (ldV (C.ti Q2) true s_5 v64) fun v65 =>
 Qx c1 ((List.map .val (C.ti Q6).zero)) v60 v65 s_5) (
 gC Q09 5 c1 fun v68 =>
 bn Q09 .neq v68 (.val (.nilp)) fun v69 =>
 condS v69 (
 gC Q09 5 c1 fun v71 =>
 bind1 (nilCheckV v71) fun v72 =>
 bind1 (ldV (C.ti Qq) true s v72) fun v73 =>
 cn Q1z [v73] s fun v74 s_6 =>
 gC Q09 5 c1 fun v76 =>
 bind1 (nilCheckV v76) fun v77 =>
 fa 2 v77 fun v78 =>
 bind1 (ldV (C.ti Q2) true s_6 v78) fun v79 =>
 Qx c1 ((List.map .val (C.ti Q6).zero)) v74 v79 s_6) (
 gC Q3O 6 c1 fun v6 =>
 bind1 (nilCheckV v6) fun v7 =>
 bind1 (ldV (C.ti Q4) true s v7) fun v8 =>
 cn Q0L [v8] s fun v9 s_7 =>
 gC Q3O 6 c1 fun v11 =>
 bind1 (nilCheckV v11) fun v12 =>
 fa 2 v12 fun v13 =>
 bind1 (ldV (C.ti Q2) true s_7 v13) fun v14 =>
 Qx c1 ((List.map .val (C.ti Q6).zero)) v9 v14 s_7))))) := (Q5 _ _ _).trans (by kernel_rfl)
theorem Q8w (a0 : AV) (a1 : AV) (s : St) : cw (.f Q2u) [a0, a1] s =
 bd Qt [(0, Qf, (.val a0))] fun v4 =>
 ld Qp s (.val a1) fun v5 =>
 ca Z1 [v4, v5, (bv false)] s fun v6 s_1 =>
 rt [] s_1 := (Q5 _ _ _).trans (by kernel_rfl)
noncomputable def ZE : Slot → Slot → List Slot → Slot → Slot → Slot → Slot → Slot → St → Res := fun x1_2 x2_2 x3_2 x8_1 x14_2 x15_2 x80 x81 s => lpD Z1 [.seqR, .seqL, .seqR, .block, .loop, .seqR, .seqR, .seqL, .block, .seqR, .seqR, .seqR, .seqR, .seqR, .block] Try.f56 [(1, .s x1_2), (2, .s x2_2), (3, .var x3_2), (8, .s x8_1), (14, .s x14_2), (15, .s x15_2), (80, .s x80), (81, .s x81)] s
noncomputable def ZD : Slot → Slot → List Slot → Slot → Slot → Slot → Slot → Slot → St → Res := fun x1_1 x2_1 x3_1 x8 x14_1 x15_1 x45 x46 s => lpD Z1 [.seqR, .seqL, .seqR, .block, .loop, .seqR, .seqR, .seqL, .block, .seqR, .seqR, .seqR, .seqL, .seqR, .block] Try.f56 [(1, .s x1_1), (2, .s x2_1), (3, .var x3_1), (8, .s x8), (14, .s x14_1), (15, .s x15_1), (45, .s x45), (46, .s x46)] s
noncomputable def QW : Slot → Slot → List Slot → Slot → Slot → St → Res := fun x1 x2 x3 x14 x15 s => lpD Z1 [.seqR, .seqL, .seqR, .block] Try.f56 [(1, .s x1), (2, .s x2), (3, .var x3), (14, .s x14), (15, .s x15)] s
theorem Q2l : ∀ x1_2 x2_2 x3_2 x8_1 x14_2 x15_2 x80 x81 s_7, ZE x1_2 x2_2 x3_2 x8_1 x14_2 x15_2 x80 x81 s_7 =
 bn Q1 .lss x81 x80 fun v82 =>
 condS v82 (
 bind1 (nilCheckV x8_1) fun v85 =>
 fa 4 v85 fun v86 =>
 ld QL s_7 v86 fun v87 =>
 ix Zo v87 x81 fun v89 =>
 gC Qf 0 x3_2 fun v91 =>
 bind1 (nilCheckV v89) fun v94 =>
 fa 1 v94 fun v95 =>
 ld Q1 s_7 v95 fun v96 =>
 bd QI [(3, Q0m, v89), (7, Q1, v96)] fun v97 =>
 back (noPan (cal cw true (tgtV v91 [v97]) s_7)) fun v98 s_8 =>
 nt v98 fun v99 =>
 iF v99 fun w_15 =>
 iF v99 fun w_16 =>
 bind1 (gd w_16 (nilCheckV (gdV w_15 v89))) fun v102 =>
 iF v99 fun w_17 =>
 bind1 (gd w_17 (faV 2 v102)) fun v103 =>
 iF v99 fun w_18 =>
 bind1 (gd w_18 (ldV (C.ti Qg) false s_8 v103)) fun v104 =>
 iF v99 fun w_19 =>
 bindB (Slot.isB (gdV w_19 v104) true) fun w_20 =>
 bind1 (gd w_20 (ofSlots (C.ti Qt) (List.take (C.ti Qt).size x3_2))) fun v106 =>
 bindB (Slot.isB (gdV w_19 v104) true) fun w_21 =>
 bindB (Slot.isB (gdV w_19 v104) true) fun w_22 =>
 bind1 (gd w_22 (nilCheckV (gdV w_21 v89))) fun v108 =>
 bindB (Slot.isB (gdV w_19 v104) true) fun w_23 =>
 bind1 (gd w_23 (faV 3 v108)) fun v109 =>
 bindB (Slot.isB (gdV w_19 v104) true) fun w_24 =>
 bindB (Slot.isB (gdV w_19 v104) true) fun w_25 =>
 bind1 (gd w_25 (nilCheckV (gdV w_24 v89))) fun v111 =>
 bindB (Slot.isB (gdV w_19 v104) true) fun w_26 =>
 bind1 (gd w_26 (faV 1 v111)) fun v112 =>
 bindB (Slot.isB (gdV w_19 v104) true) fun w_27 =>
 bind1 (gd w_27 (ldV (C.ti Q1) false s_8 v112)) fun v113 =>
 bindB (Slot.isB (gdV w_19 v104) true) fun w_28 =>
 back (noPan (cal cw w_28 (tgtV (.val (.fn Zc [])) [v106, v109, v113]) s_8)) fun v114 s_9 =>
 bindB (Slot.isB (gdV w_19 v104) true) fun w_29 =>
 gN w_29 v114 fun v115 =>
 iF v99 fun w_30 =>
 bind1 (gd w_30 (pickS (gdV w_19 v104) v115 (bv false))) fun v116 =>
 pk v99 (bv true) v116 fun v117 =>
 condS v117 (
 some (.ret (bv false), s_9)) (
 nx x81 fun v118 =>
 ZE x1_2 x2_2 x3_2 x8_1 x14_2 x15_2 x80 v118 s_9)) (
 nx x15_2 fun v119 =>
 QW x1_2 x2_2 x3_2 x14_2 v119 s_7) := by intros; unfold ZE; exact (Q9 _ _ _ _ _ _).trans (by kernel_rfl)
theorem Q2k : ∀ x1_1 x2_1 x3_1 x8 x14_1 x15_1 x45 x46 s_4, ZD x1_1 x2_1 x3_1 x8 x14_1 x15_1 x45 x46 s_4 =
 bn Q1 .lss x46 x45 fun v47 =>
 condS v47 (
 bind1 (nilCheckV x8) fun v50 =>
 fa 6 v50 fun v51 =>
 ld QM s_4 v51 fun v52 =>
 ix QX v52 x46 fun v54 =>
 gC Qf 0 x3_1 fun v56 =>
 bind1 (nilCheckV v54) fun v59 =>
 fa 1 v59 fun v60 =>
 ld Q1 s_4 v60 fun v61 =>
 bd QI [(2, Q0M, v54), (7, Q1, v61)] fun v62 =>
 back (noPan (cal cw true (tgtV v56 [v62]) s_4)) fun v63 s_5 =>
 nt v63 fun v64 =>
 iF v64 fun w_7 =>
 bind1 (gd w_7 (ofSlots (C.ti Qt) (List.take (C.ti Qt).size x3_1))) fun v66 =>
 iF v64 fun w_8 =>
 iF v64 fun w_9 =>
 bind1 (gd w_9 (nilCheckV (gdV w_8 v54))) fun v68 =>
 iF v64 fun w_10 =>
 bind1 (gd w_10 (faV 2 v68)) fun v69 =>
 iF v64 fun w_11 =>
 bind1 (gd w_11 (ldV (C.ti Ql) false s_5 v69)) fun v70 =>
 iF v64 fun w_12 =>
 bind1 (gd w_12 (bslF (C.ti Ql).size [v70])) fun v71 =>
 iF v64 fun w_13 =>
 back (noPan (cal cw w_13 (tgtV (.val (.fn Zb [])) [v66, v71]) s_5)) fun v72 s_6 =>
 iF v64 fun w_14 =>
 gN w_14 v72 fun v73 =>
 pk v64 (bv true) v73 fun v74 =>
 condS v74 (
 some (.ret (bv false), s_6)) (
 nx x46 fun v75 =>
 ZD x1_1 x2_1 x3_1 x8 x14_1 x15_1 x45 v75 s_6)) (
 bind1 (nilCheckV x8) fun v77 =>
 fa 4 v77 fun v78 =>
 ld QL s_4 v78 fun v79 =>
 ln QL v79 fun v80 =>
 ZE x1_1 x2_1 x3_1 x8 x14_1 x15_1 v80 (iv 0) s_4) := by intros; unfold ZD; exact (Q9 _ _ _ _ _ _).trans (by kernel_rfl)
theorem Q2j : ∀ x1 x2 x3 x14 x15 s_1, QW x1 x2 x3 x14 x15 s_1 =
 bn Q1 .lss x15 x14 fun v16 =>
 condS v16 (
 ix Qi x1 x15 fun v20 =>
 gC Qf 0 x3 fun v22 =>
 bind1 (nilCheckV v20) fun v26 =>
 fa 1 v26 fun v27 =>
 ld Q1 s_1 v27 fun v28 =>
 bd QI [(0, Q1o, v20), (1, Qg, x2), (7, Q1, v28)] fun v29 =>
 back (noPan (cal cw true (tgtV v22 [v29]) s_1)) fun v30 s_2 =>
 nt v30 fun v31 =>
 iF v31 fun w =>
 bind1 (gd w (ofSlots (C.ti Qt) (List.take (C.ti Qt).size x3))) fun v33 =>
 iF v31 fun w_1 =>
 iF v31 fun w_2 =>
 bind1 (gd w_2 (nilCheckV (gdV w_1 v20))) fun v35 =>
 iF v31 fun w_3 =>
 bind1 (gd w_3 (faV 5 v35)) fun v36 =>
 iF v31 fun w_4 =>
 bind1 (gd w_4 (ldV (C.ti Qj) false s_2 v36)) fun v37 =>
 iF v31 fun w_5 =>
 back (noPan (cal cw w_5 (tgtV (.val (.fn Zb [])) [v33, v37]) s_2)) fun v38 s_3 =>
 iF v31 fun w_6 =>
 gN w_6 v38 fun v39 =>
 pk v31 (bv true) v39 fun v40 =>
 condS v40 (
 some (.ret (bv false), s_3)) (
 bind1 (nilCheckV v20) fun v42 =>
 fa 6 v42 fun v43 =>
 ld QM s_3 v43 fun v44 =>
 ln QM v44 fun v45 =>
 ZD x1 x2 x3 v20 x14 x15 v45 (iv 0) s_3)) (
 some (.ret (bv true), s_1)) := by intros; unfold QW; exact (Q9 _ _ _ _ _ _).trans (by kernel_rfl)
theorem Q3p (a0 : AV) (a1 : AV) (a2 : AV) (s : St) : cw (.f Z1) [a0, a1, a2] s =
 bx Qt (.val a0) fun c3 =>
 ln Qp (.val a1) fun v14 =>
 QW (.val a1) (.val a2) c3 v14 (iv 0) s := (Q5 _ _ _).trans (by kernel_rfl)
noncomputable def Q00 : Slot → Slot → Slot → Slot → St → Res := fun x3 x6 x7 x8 s => lpD Zh [.seqR, .seqR, .seqL, .seqR, .block] Try.f57 [(3, .s x3), (6, .s x6), (7, .s x7), (8, .s x8)] s
theorem Q3b : ∀ x3 x6 x7 x8 s_1, Q00 x3 x6 x7 x8 s_1 =
 bn Q1 .lss x8 x7 fun v9 =>
 condS v9 (
 ix Ql x6 x8 fun v10 =>
 ld Ql s_1 v10 fun v11 =>
 bx Ql v11 fun c =>
 pZ Ql c fun c5 =>
 gC Qq 0 c5 fun v14 =>
 cn Q08 [v14] s_1 fun v15 s_2 =>
 gC Qm 5 c5 fun v17 =>
 cn ZH [v17] s_2 fun v18 s_3 =>
 bind1 (max3 x3 v15 v18) fun v19 =>
 nx x8 fun v20 =>
 Q00 v19 x6 x7 v20 s_3) (
 some (.ret x3, s_1)) := by intros; unfold Q00; exact (Q9 _ _ _ _ _ _).trans (by kernel_rfl)
theorem Q4i (a0 : AV) (s : St) : cw (.f Zh) [a0] s =
 ln Qj (.val a0) fun v7 =>
 Q00 (iv 0) (.val a0) v7 (iv 0) s := (Q5 _ _ _).trans (by kernel_rfl)
noncomputable def Q15 : Slot → Slot → Slot → Slot → St → Res := fun x3 x7 x8 x9 s => lpD Q0l [.seqR, .seqR, .seqL, .seqR, .block] Try.f58 [(3, .s x3), (7, .s x7), (8, .s x8), (9, .s x9)] s
theorem Q4m : ∀ x3 x7 x8 x9 s_1, Q15 x3 x7 x8 x9 s_1 =
 bn Q1 .lss x9 x8 fun v10 =>
 condS v10 (
 ix Q4 x7 x9 fun v11 =>
 ld Q4 s_1 v11 fun v12 =>
 bx Q4 v12 fun c =>
 pZ Q4 c fun c5 =>
 gA Q4 c5 fun v14 =>
 ca Q0l [v14] s_1 fun v15 s_2 =>
 bind1 (max2 x3 v15) fun v16 =>
 nx x9 fun v17 =>
 Q15 v16 x7 x8 v17 s_2) (
 nx x3 fun v19 =>
 some (.ret v19, s_1)) := by intros; unfold Q15; exact (Q9 _ _ _ _ _ _).trans (by kernel_rfl)
theorem Qbh (a0 : AV) (s : St) : cw (.f Q0l) [a0] s =
 bx Q4 (.val a0) fun c1 =>
 gC Qk 3 c1 fun v7 =>
 ln Qk v7 fun v8 =>
 Q15 (iv 0) v7 v8 (iv 0) s := (Q5 _ _ _).trans (by kernel_rfl)
noncomputable def Q57 : List Slot → List Slot → Slot → Slot → Slot → St → Res := fun x4 x5 x10 x11 x12 s => lpD Q3v [.seqR, .seqR, .seqL, .seqR, .block] Try.f59 [(4, .var x4), (5, .var x5), (10, .s x10), (11, .s x11), (12, .s x12)] s
theorem Q8W : ∀ x4 x5 x10 x11 x12 s_1, Q57 x4 x5 x10 x11 x12 s_1 =
 bn Q1 .lss x12 x11 fun v13 =>
 condS v13 (
 ix Q4 x10 x12 fun v14 =>
 ld Q4 s_1 v14 fun v15 =>
 bx Q4 v15 fun c_1 =>
 pZ Q4 c_1 fun c7 =>
 gC Qk 3 x5 fun v17 =>
 gA Q4 c7 fun v18 =>
 cn Q3w [v18] s_1 fun v19 s_2 =>
 bs Q4 [v19] fun v20 =>
 ap Q4 s_2 v17 v20 fun v21 s_3 =>
 bx Qk v21 fun c_2 =>
 pt x5 3 c_2 fun c5_1 =>
 nx x12 fun v23 =>
 Q57 x4 c5_1 x10 x11 v23 s_3) (
 gA Q4 x5 fun v24 =>
 bx Q4 v24 fun c_3 =>
 pt x4 0 c_3 fun c4 =>
 gA Q4 c4 fun v => some (.ret v, s_1)) := by intros; unfold Q57; exact (Q9 _ _ _ _ _ _).trans (by kernel_rfl)
theorem Qh6 (a0 : AV) (a1 : AV) (s : St) : cw (.f Q3v) [a0, a1] s =
 bd Q4 [(0, Qs, (iv 2)), (2, Q2, (.val a0))] fun v9 =>
 bx Q4 v9 fun c =>
 pZ Q4 c fun c5 =>
 ln Qk (.val a1) fun v11 =>
 Q57 ((List.map .val (C.ti Q4).zero)) c5 (.val a1) v11 (iv 0) s := (Q5 _ _ _).trans (by kernel_rfl)
theorem Q0E (a0 : AV) (s : St) : cw (.f Zj) [a0] s =
 bn Qk .eql (.val a0) (.val (.nils)) fun v4 =>
 condS v4 (
 some (.ret (.val (.nils)), s)) (
 bs Q4 [] fun v5 =>
 bind2 (appendV Q4 (C.ti Q4) s v5 (.val a0)) fun v7 s_1 =>
 some (.ret v7, s_1)) := (Q5 _ _ _).trans (by kernel_rfl)
noncomputable def Zs : Slot → Slot → Slot → Slot → St → Res := fun x1 x4 x5 x6 s => lpD QA [.seqR, .block] Try.f61 [(1, .s x1), (4, .s x4), (5, .s x5), (6, .s x6)] s
theorem Q1Z : ∀ x1 x4 x5 x6 s_1, Zs x1 x4 x5 x6 s_1 =
 bn Q1 .lss x6 x5 fun v7 =>
 condS v7 (
 ix Q2 x4 x6 fun v8 =>
 ld Q2 s_1 v8 fun v9 =>
 ld QH s_1 x1 fun v10 =>
 bind1 (nilCheckV v10) fun v11 =>
 fa 0 v11 fun v12 =>
 ld Qo s_1 v12 fun v13 =>
 lk Q2 Q1 s_1 v13 v9 false fun v15 =>
 bn Q1 .sub v15 (iv 1) fun v16 =>
 upd2 Q2 Q1 s_1 v13 v9 v16 fun _ s_2 =>
 nx x6 fun v17 =>
 Zs x1 x4 x5 v17 s_2) (
 rt [] s_1) := by intros; unfold Zs; exact (Q9 _ _ _ _ _ _).trans (by kernel_rfl)
theorem Q6K (a0 : AV) (a1 : AV) (s : St) : cw (.f QA) [a0, a1] s =
 ld Qa s (.val a0) fun v4 =>
 ln Qa v4 fun v5 =>
 Zs (.val a1) v4 v5 (iv 0) s := (Q5 _ _ _).trans (by kernel_rfl)
noncomputable def Q0w : Slot → Slot → Slot → Slot → St → Res := fun x3 x45 x46 x47 s => lpD Q0H [.seqR, .seqR, .seqR, .seqR, .seqL, .seqR, .block] Try.f62 [(3, .s x3), (45, .s x45), (46, .s x46), (47, .s x47)] s
theorem Q3P : ∀ x3 x45 x46 x47 s_1, Q0w x3 x45 x46 x47 s_1 =
 bn Q1 .lss x47 x46 fun v48 =>
 condS v48 (
 ix Q4 x45 x47 fun v49 =>
 ld Q4 s_1 v49 fun v50 =>
 bx Q4 v50 fun c =>
 pZ Q4 c fun c10 =>
 ld Qh s_1 x3 fun v52 =>
 gA Q4 c10 fun v53 =>
 back (cal cw true (tgtV v52 [v53]) s_1) fun v54 s_2 =>
 ex v54 0 fun v55 =>
 ex v54 1 fun v56 =>
 bn Qv .neq v55 (iv 0) fun v58 =>
 condS v58 (
 rt [(some v55), (some v56)] s_2) (
 nx x47 fun v61 =>
 Q0w x3 x45 x46 v61 s_2)) (
 rt [(some (iv 0)), (some (sv []))] s_1) := by intros; unfold Q0w; exact (Q9 _ _ _ _ _ _).trans (by kernel_rfl)
theorem Q9M (a0 : AV) (a1 : AV) (a2 : AV) (a3 : AV) (s : St) : cw (.f Q0H) [a0, a1, a2, a3] s =
 bx Q4 (.val a0) fun c4 =>
 gC Qs 0 c4 fun v14 =>
 bn Qs .eql v14 (iv 1) fun v15 =>
 condS v15 (
 gC Q1 1 c4 fun v17 =>
 ld Q1 s (.val a1) fun v18 =>
 bn Q1 .geq v17 v18 fun v19 =>
 condS v19 (
 rt [(some (iv 16)), (some (sv []))] s) (
 rt [(some (iv 0)), (some (sv []))] s)) (
 ld Qo s (.val a2) fun v21 =>
 gC Q2 2 c4 fun v23 =>
 lk Q2 Q1 s v21 v23 true fun v24 =>
 ex v24 0 fun v25 =>
 ex v24 1 fun v26 =>
 nt v26 fun v29 =>
 condS v29 (
 gC Q2 2 c4 fun v31 =>
 rt [(some (iv 8)), (some v31)] s) (
 bn Q1 .geq v25 (iv 0) fun v34 =>
 iT v34 fun w =>
 iT v34 fun w_1 =>
 iT v34 fun w_2 =>
 gG w_2 w_1 Qk 3 c4 fun v38 =>
 iT v34 fun w_3 =>
 gL w_3 Qk v38 fun v39 =>
 iT v34 fun w_4 =>
 gB w_4 Q1 .neq (gdV w v25) v39 fun v40 =>
 pk v34 v40 (bv false) fun v41 =>
 condS v41 (
 gC Q2 2 c4 fun v43 =>
 rt [(some (iv 19)), (some v43)] s) (
 gC Qk 3 c4 fun v45 =>
 ln Qk v45 fun v46 =>
 Q0w (.val a3) v45 v46 (iv 0) s))) := (Q5 _ _ _).trans (by kernel_rfl)
noncomputable def Q1L : Slot → List Slot → List Slot → Slot → Slot → Slot → St → Res := fun x1 x4 x5 x23 x24 x25 s => lpD Q29 [.seqR, .seqR, .seqR, .seqL, .seqR, .block] Try.f63 [(1, .s x1), (4, .var x4), (5, .var x5), (23, .s x23), (24, .s x24), (25, .s x25)] s
theorem Q5L : ∀ x1 x4 x5 x23 x24 x25 s_2, Q1L x1 x4 x5 x23 x24 x25 s_2 =
 bn Q1 .lss x25 x24 fun v26 =>
 condS v26 (
 ix Q4 x23 x25 fun v27 =>
 ld Q4 s_2 v27 fun v28 =>
 bx Q4 v28 fun c_2 =>
 pZ Q4 c_2 fun c7 =>
 gC Qk 3 x5 fun v30 =>
 gA Q4 c7 fun v31 =>
 cn Q29 [v31, x1] s_2 fun v33 s_3 =>
 bs Q4 [v33] fun v34 =>
 ap Q4 s_3 v30 v34 fun v35 s_4 =>
 bx Qk v35 fun c_3 =>
 pt x5 3 c_3 fun c5_1 =>
 nx x25 fun v37 =>
 Q1L x1 x4 c5_1 x23 x24 v37 s_4) (
 gA Q4 x5 fun v38 =>
 bx Q4 v38 fun c_4 =>
 pt x4 0 c_4 fun c4_1 =>
 gA Q4 c4_1 fun v => some (.ret v, s_2)) := by intros; unfold Q1L; exact (Q9 _ _ _ _ _ _).trans (by kernel_rfl)
theorem Qdv (a0 : AV) (a1 : AV) (s : St) : cw (.f Q29) [a0, a1] s =
 bx Q4 (.val a0) fun c2 =>
 gC Qs 0 c2 fun v9 =>
 bn Qs .eql v9 (iv 1) fun v10 =>
 condS v10 (
 gC Q1 1 c2 fun v13 =>
 back (cal cw true (tgtV (.val a1) [v13]) s) fun v14 s_1 =>
 bx Q4 v14 fun c =>
 pZ Q4 c fun c4 =>
 gA Q4 c4 fun v => some (.ret v, s_1)) (
 gC Qs 0 c2 fun v16 =>
 gC Q1 1 c2 fun v18 =>
 gC Q2 2 c2 fun v20 =>
 bd Q4 [(0, Qs, v16), (1, Q1, v18), (2, Q2, v20)] fun v21 =>
 bx Q4 v21 fun c_1 =>
 pZ Q4 c_1 fun c5 =>
 gC Qk 3 c2 fun v23 =>
 ln Qk v23 fun v24 =>
 Q1L (.val a1) ((List.map .val (C.ti Q4).zero)) c5 v23 v24 (iv 0) s) := (Q5 _ _ _).trans (by kernel_rfl)
theorem Q8X (a0 : AV) (a1 : AV) (s : St) : cw (.f Q6t) [a0, a1] s =
 bn Q1 .geq (.val a0) (iv 0) fun v5 =>
 iT v5 fun w =>
 iT v5 fun w_1 =>
 bind1 (gd w_1 (ldV (C.ti Qk) false s (.val a1))) fun v8 =>
 iT v5 fun w_2 =>
 gL w_2 Qk v8 fun v9 =>
 iT v5 fun w_3 =>
 gB w_3 Q1 .lss (gdV w (.val a0)) v9 fun v10 =>
 pk v5 v10 (bv false) fun v11 =>
 condS v11 (
 ld Qk s (.val a1) fun v12 =>
 ix Q4 v12 (.val a0) fun v14 =>
 ld Q4 s v14 fun v15 =>
 ca Q3w [v15] s fun v16 s_1 =>
 bx Q4 v16 fun c =>
 pZ Q4 c fun c3 =>
 gA Q4 c3 fun v => some (.ret v, s_1)) (
 bd Q4 [(0, Qs, (iv 1)), (1, Q1, (.val a0))] fun v18 =>
 bx Q4 v18 fun c_1 =>
 pZ Q4 c_1 fun c3_1 =>
 gA Q4 c3_1 fun v => some (.ret v, s)) := (Q5 _ _ _).trans (by kernel_rfl)
noncomputable def Q3Z : List Slot → List Slot → Slot → Slot → Slot → St → Res := fun x2 x3 x9 x10 x11 s => lpD Q3w [.seqR, .seqR, .seqR, .seqL, .seqR, .block] Try.f65 [(2, .var x2), (3, .var x3), (9, .s x9), (10, .s x10), (11, .s x11)] s
theorem Q8d : ∀ x2 x3 x9 x10 x11 s_1, Q3Z x2 x3 x9 x10 x11 s_1 =
 bn Q1 .lss x11 x10 fun v12 =>
 condS v12 (
 ix Q4 x9 x11 fun v13 =>
 ld Q4 s_1 v13 fun v14 =>
 bx Q4 v14 fun c_2 =>
 pZ Q4 c_2 fun c5 =>
 gC Qk 3 x3 fun v16 =>
 gA Q4 c5 fun v17 =>
 cn Q3w [v17] s_1 fun v18 s_2 =>
 bs Q4 [v18] fun v19 =>
 ap Q4 s_2 v16 v19 fun v20 s_3 =>
 bx Qk v20 fun c_3 =>
 pt x3 3 c_3 fun c3_2 =>
 nx x11 fun v22 =>
 Q3Z x2 c3_2 x9 x10 v22 s_3) (
 gA Q4 x3 fun v23 =>
 bx Q4 v23 fun c_4 =>
 pt x2 0 c_4 fun c2 =>
 gA Q4 c2 fun v => some (.ret v, s_1)) := by intros; unfold Q3Z; exact (Q9 _ _ _ _ _ _).trans (by kernel_rfl)
theorem Qgf (a0 : AV) (s : St) : cw (.f Q3w) [a0] s =
 bx Q4 (.val a0) fun c1 =>
 gA Q4 c1 fun v6 =>
 bx Q4 v6 fun c =>
 pZ Q4 c fun c3 =>
 bx Qk (.val (.nils)) fun c_1 =>
 pt c3 3 c_1 fun c3_1 =>
 gC Qk 3 c1 fun v9 =>
 ln Qk v9 fun v10 =>
 Q3Z ((List.map .val (C.ti Q4).zero)) c3_1 v9 v10 (iv 0) s := (Q5 _ _ _).trans (by kernel_rfl)
theorem Qas (a0 : AV) (s : St) : cw (.f Q3t) [a0] s =
 bx Qq (.val a0) fun c1 =>
 bindA (avs c1) fun l1 =>
 bind1 (fnS Z0 [(.val (.cp l1))]) fun v3 =>
 some (.ret v3, s) := (Q5 _ _ _).trans (by kernel_rfl)
theorem Q6O (a0 : AV) (a1 : AV) (s : St) : cw (.f Q1v) [a0, a1] s =
 bd Qt [(0, Qf, (.val a0))] fun v4 =>
 ca Zk [v4, (.val a1)] s fun v5 s_1 =>
 rt [] s_1 := (Q5 _ _ _).trans (by kernel_rfl)
noncomputable def ZF : Slot → List Slot → Slot → Slot → St → Res := fun x1 x2 x29 x30 s => lpD Zk [.seqR, .seqR, .seqL, .seqR, .block] Try.f68 [(1, .s x1), (2, .var x2), (29, .s x29), (30, .s x30)] s
theorem Q2m : ∀ x1 x2 x29 x30 s_3, ZF x1 x2 x29 x30 s_3 =
 bn Q1 .lss x30 x29 fun v31 =>
 condS v31 (
 gA Qt x2 fun v33 =>
 bind1 (nilCheckV x1) fun v35 =>
 fa 4 v35 fun v36 =>
 ld QD s_3 v36 fun v37 =>
 ix Qm v37 x30 fun v39 =>
 cn Zk [v33, v39] s_3 fun v40 s_4 =>
 nt v40 fun v41 =>
 condS v41 (
 some (.ret (bv false), s_4)) (
 nx x30 fun v42 =>
 ZF x1 x2 x29 v42 s_4)) (
 gA Qt x2 fun v43 =>
 bind1 (nilCheckV x1) fun v45 =>
 fa 5 v45 fun v46 =>
 ld Qj s_3 v46 fun v47 =>
 cn Zb [v43, v47] s_3 fun v48 s_5 =>
 some (.ret v48, s_5)) := by intros; unfold ZF; exact (Q9 _ _ _ _ _ _).trans (by kernel_rfl)
theorem Q7p (a0 : AV) (a1 : AV) (s : St) : cw (.f Zk) [a0, a1] s =
 bx Qt (.val a0) fun c2 =>
 gC Qf 0 c2 fun v7 =>
 bind1 (nilCheckV (.val a1)) fun v10 =>
 fa 1 v10 fun v11 =>
 ld Q1 s v11 fun v12 =>
 bd QI [(4, Q1p, (.val a1)), (7, Q1, v12)] fun v13 =>
 back (noPan (cal cw true (tgtV v7 [v13]) s)) fun v14 s_1 =>
 nt v14 fun v15 =>
 iF v15 fun w =>
 bind1 (gd w (ofSlots (C.ti Qt) (List.take (C.ti Qt).size c2))) fun v17 =>
 iF v15 fun w_1 =>
 iF v15 fun w_2 =>
 bind1 (gd w_2 (nilCheckV (gdV w_1 (.val a1)))) fun v19 =>
 iF v15 fun w_3 =>
 bind1 (gd w_3 (faV 6 v19)) fun v20 =>
 iF v15 fun w_4 =>
 bind1 (gd w_4 (ldV (C.ti Qp) false s_1 v20)) fun v21 =>
 iF v15 fun w_5 =>
 back (noPan (cal cw w_5 (tgtV (.val (.fn Z1 [])) [v17, v21, (bv true)]) s_1)) fun v22 s_2 =>
 iF v15 fun w_6 =>
 gN w_6 v22 fun v23 =>
 pk v15 (bv true) v23 fun v24 =>
 condS v24 (
 some (.ret (bv false), s_2)) (
 bind1 (nilCheckV (.val a1)) fun v26 =>
 fa 4 v26 fun v27 =>
 ld QD s_2 v27 fun v28 =>
 ln QD v28 fun v29 =>
 ZF (.val a1) c2 v29 (iv 0) s_2) := (Q5 _ _ _).trans (by kernel_rfl)
theorem Qa7 (a0 : AV) (s : St) : cw (.f Q0I) [a0] s =
 bx Ql (.val a0) fun c1 =>
 gC Qq 0 c1 fun v4 =>
 cn Q0k [v4] s fun v5 s_1 =>
 gC Qm 5 c1 fun v7 =>
 cn ZV [v7] s_1 fun v8 s_2 =>
 ap Qb s_2 v5 v8 fun v9 s_3 =>
 some (.ret v9, s_3) := (Q5 _ _ _).trans (by kernel_rfl)
noncomputable def Q1k : Slot → List Slot → Slot → Slot → St → Res := fun x1 x2 x5 x6 s => lpD Q0J [.seqR, .seqR, .seqL, .seqR, .block] Try.f70 [(1, .s x1), (2, .var x2), (5, .s x5), (6, .s x6)] s
theorem Q4S : ∀ x1 x2 x5 x6 s_1, Q1k x1 x2 x5 x6 s_1 =
 gC Qk 3 x2 fun v13 =>
 ln Qk v13 fun v14 =>
 bn Q1 .lss x6 v14 fun v15 =>
 condS v15 (
 gC Qk 3 x2 fun v20 =>
 ix Q4 v20 x6 fun v22 =>
 ld Q4 s_1 v22 fun v23 =>
 ca Q0J [v23, x1] s_1 fun v25 s_2 =>
 ap Qb s_2 x5 v25 fun v26 s_3 =>
 nx x6 fun v17 =>
 Q1k x1 x2 v26 v17 s_3) (
 some (.ret x5, s_1)) := by intros; unfold Q1k; exact (Q9 _ _ _ _ _ _).trans (by kernel_rfl)
theorem Qc5 (a0 : AV) (a1 : AV) (s : St) : cw (.f Q0J) [a0, a1] s =
 bx Q4 (.val a0) fun c2 =>
 gA Q4 c2 fun v7 =>
 bd Qb [(0, Q1, (iv 4)), (22, Q4, v7), (2, Q1, (.val a1))] fun v9 =>
 bs Qb [v9] fun v10 =>
 Q1k (.val a1) c2 v10 (iv 0) s := (Q5 _ _ _).trans (by kernel_rfl)
theorem Q86 (a0 : AV) (s : St) : cw (.f Q24) [a0] s =
 bx QI (.val a0) fun c1 =>
 gC Q0M 2 c1 fun v4 =>
 bn Q0M .eql v4 (.val (.nilp)) fun v5 =>
 iT v5 fun w =>
 iT v5 fun w_1 =>
 gG w_1 w Q0m 3 c1 fun v8 =>
 iT v5 fun w_2 =>
 gB w_2 Q0m .eql v8 (.val (.nilp)) fun v9 =>
 pk v5 v9 (bv false) fun v10 =>
 some (.ret v10, s) := (Q5 _ _ _).trans (by kernel_rfl)
noncomputable def QK : List Slot → Slot → Slot → Slot → Slot → St → Res := fun x1 x3 x5 x7 x8 s => pwD ZO [.seqR, .seqR, .seqR, .seqR, .seqR] Try.f72 [(1, .var x1), (3, .s x3), (5, .s x5), (7, .s x7), (8, .s x8)] s
theorem Q4v : ∀ x1 x3 x5 x7 x8 s_1, QK x1 x3 x5 x7 x8 s_1 =
 nt x8 fun v91 =>
 iF v91 fun w_9 =>
 iF v91 fun w_10 =>
 gG w_10 w_9 Qg 1 x1 fun v94 =>
 iF v91 fun w_11 =>
 bindB (Slot.isB (gdV w_11 v94) true) fun w_12 =>
 bindB (Slot.isB (gdV w_11 v94) true) fun w_13 =>
 bind1 (gd w_13 (nilCheckV (gdV w_12 x3))) fun v97 =>
 bindB (Slot.isB (gdV w_11 v94) true) fun w_14 =>
 bind1 (gd w_14 (faV 0 v97)) fun v98 =>
 bindB (Slot.isB (gdV w_11 v94) true) fun w_15 =>
 bind1 (gd w_15 (ldV (C.ti Qe) false s_1 v98)) fun v99 =>
 bindB (Slot.isB (gdV w_11 v94) true) fun w_16 =>
 gB w_16 Qe .neq v99 (iv 1) fun v100 =>
 iF v91 fun w_17 =>
 bind1 (gd w_17 (pickS (gdV w_11 v94) v100 (bv false))) fun v101 =>
 iF v91 fun w_18 =>
 bindB (Slot.isB (gdV w_18 v101) true) fun w_19 =>
 bindB (Slot.isB (gdV w_18 v101) true) fun w_20 =>
 bind1 (gd w_20 (nilCheckV (gdV w_19 x3))) fun v104 =>
 bindB (Slot.isB (gdV w_18 v101) true) fun w_21 =>
 bind1 (gd w_21 (faV 0 v104)) fun v105 =>
 bindB (Slot.isB (gdV w_18 v101) true) fun w_22 =>
 bind1 (gd w_22 (ldV (C.ti Qe) false s_1 v105)) fun v106 =>
 bindB (Slot.isB (gdV w_18 v101) true) fun w_23 =>
 gB w_23 Qe .neq v106 (iv 2) fun v107 =>
 iF v91 fun w_24 =>
 bind1 (gd w_24 (pickS (gdV w_18 v101) v107 (bv false))) fun v108 =>
 pk v91 (bv true) v108 fun v109 =>
 condS v109 (
 some (.ret (iv 29), s_1)) (
 bind1 (nilCheckV x3) fun v111 =>
 fa 0 v111 fun v112 =>
 ld Qe s_1 v112 fun v113 =>
 bn Qe .eql v113 (iv 1) fun v115 =>
 condS v115 (
 bind1 (nilCheckV x3) fun v117 =>
 fa 5 v117 fun v118 =>
 ld Qj s_1 v118 fun v119 =>
 ln Qj v119 fun v120 =>
 bn Q1 .eql v120 (iv 1) fun v121 =>
 nt v121 fun v165 =>
 condS v165 (
 some (.ret (iv 19), s_1)) (
 some (.ret (iv 0), s_1))) (
 bn Qe .eql v113 (iv 2) fun v123 =>
 condS v123 (
 nt x5 fun v165_1 =>
 condS v165_1 (
 some (.ret (iv 19), s_1)) (
 some (.ret (iv 0), s_1))) (
 bn Qe .eql v113 (iv 3) fun v126 =>
 condS v126 (
 bind1 (nilCheckV x3) fun v128 =>
 fa 2 v128 fun v129 =>
 ld Q2 s_1 v129 fun v130 =>
 ca Q19 [v130] s_1 fun v131 s_2 =>
 nt v131 fun v132 =>
 condS v132 (
 some (.ret (iv 8), s_2)) (
 bind1 (nilCheckV x3) fun v134 =>
 fa 3 v134 fun v135 =>
 ld Q1 s_2 v135 fun v136 =>
 bn Q1 .geq v136 (iv 0) fun v137 =>
 iT v137 fun w_25 =>
 iT v137 fun w_26 =>
 bind1 (gd w_26 (nilCheckV (gdV w_25 x3))) fun v140 =>
 iT v137 fun w_27 =>
 bind1 (gd w_27 (faV 3 v140)) fun v141 =>
 iT v137 fun w_28 =>
 bind1 (gd w_28 (ldV (C.ti Q1) false s_2 v141)) fun v142 =>
 iT v137 fun w_29 =>
 gB w_29 Q1 .leq v142 (iv 8) fun v143 =>
 pk v137 v143 (bv false) fun v144 =>
 iT v144 fun w_30 =>
 pk v144 (gdV w_30 x7) (bv false) fun v147 =>
 iT v147 fun w_31 =>
 iT v147 fun w_32 =>
 bind1 (gd w_32 (nilCheckV (gdV w_31 x3))) fun v150 =>
 iT v147 fun w_33 =>
 bind1 (gd w_33 (faV 4 v150)) fun v151 =>
 iT v147 fun w_34 =>
 bind1 (gd w_34 (ldV (C.ti QL) false s_2 v151)) fun v152 =>
 iT v147 fun w_35 =>
 gL w_35 QL v152 fun v153 =>
 iT v147 fun w_36 =>
 gB w_36 Q1 .leq v153 (iv 64) fun v154 =>
 pk v147 v154 (bv false) fun v155 =>
 nt v155 fun v165_2 =>
 condS v165_2 (
 some (.ret (iv 19), s_2)) (
 some (.ret (iv 0), s_2)))) (
 bn Qe .eql v113 (iv 4) fun v157 =>
 condS v157 (
 bind1 (nilCheckV x3) fun v159 =>
 fa 4 v159 fun v160 =>
 ld QL s_1 v160 fun v161 =>
 ln QL v161 fun v162 =>
 bn Q1 .eql v162 (iv 1) fun v163 =>
 nt v163 fun v165_3 =>
 condS v165_3 (
 some (.ret (iv 19), s_1)) (
 some (.ret (iv 0), s_1))) (
 bind1 (unS .not (bv true)) fun v165_4 =>
 condS v165_4 (
 some (.ret (iv 19), s_1)) (
 some (.ret (iv 0), s_1))))))) := by intros; unfold QK; exact (Q0F _).trans (by kernel_rfl)
theorem Q5W (a0 : AV) (s : St) : cw (.f ZO) [a0] s =
 bx QI (.val a0) fun c1 =>
 gC Q1o 0 c1 fun v11 =>
 bind1 (nilCheckV v11) fun v13 =>
 fa 5 v13 fun v14 =>
 ld Qj s v14 fun v15 =>
 ln Qj v15 fun v16 =>
 bn Q1 .gtr v16 (iv 0) fun v17 =>
 bind1 (nilCheckV v11) fun v19 =>
 fa 6 v19 fun v20 =>
 ld QM s v20 fun v21 =>
 ln QM v21 fun v22 =>
 bn Q1 .gtr v22 (iv 0) fun v23 =>
 bind1 (nilCheckV v11) fun v25 =>
 fa 2 v25 fun v26 =>
 ld Q2 s v26 fun v27 =>
 bn Q2 .neq v27 (sv []) fun v28 =>
 iF v28 fun w =>
 iF v28 fun w_1 =>
 bind1 (gd w_1 (nilCheckV (gdV w v11))) fun v31 =>
 iF v28 fun w_2 =>
 bind1 (gd w_2 (faV 3 v31)) fun v32 =>
 iF v28 fun w_3 =>
 bind1 (gd w_3 (ldV (C.ti Q1) false s v32)) fun v33 =>
 iF v28 fun w_4 =>
 gB w_4 Q1 .neq v33 (iv 0) fun v34 =>
 pk v28 (bv true) v34 fun v35 =>
 bind1 (nilCheckV v11) fun v37 =>
 fa 4 v37 fun v38 =>
 ld QL s v38 fun v39 =>
 ln QL v39 fun v40 =>
 bn Q1 .gtr v40 (iv 0) fun v41 =>
 bind1 (nilCheckV v11) fun v43 =>
 fa 0 v43 fun v44 =>
 ld Qe s v44 fun v45 =>
 bn Qe .eql v45 (iv 1) fun v47 =>
 condS v47 (
 nt v23 fun v49 =>
 iT v49 fun w_5 =>
 iT v49 fun w_6 =>
 bind1 (gd w_6 (unS .not (gdV w_5 v35))) fun v52 =>
 pk v49 v52 (bv false) fun v53 =>
 iT v53 fun w_7 =>
 iT v53 fun w_8 =>
 bind1 (gd w_8 (unS .not (gdV w_7 v41))) fun v56 =>
 pk v53 v56 (bv false) fun v57 =>
 QK c1 v11 v23 v41 v57 s) (
 bn Qe .eql v45 (iv 2) fun v59 =>
 condS v59 (
 nt v17 fun v61 =>
 iT v61 fun w_37 =>
 iT v61 fun w_38 =>
 bind1 (gd w_38 (unS .not (gdV w_37 v35))) fun v64 =>
 pk v61 v64 (bv false) fun v65 =>
 iT v65 fun w_39 =>
 iT v65 fun w_40 =>
 bind1 (gd w_40 (unS .not (gdV w_39 v41))) fun v68 =>
 pk v65 v68 (bv false) fun v69 =>
 QK c1 v11 v23 v41 v69 s) (
 bn Qe .eql v45 (iv 3) fun v71 =>
 condS v71 (
 nt v17 fun v73 =>
 iT v73 fun w_41 =>
 iT v73 fun w_42 =>
 bind1 (gd w_42 (unS .not (gdV w_41 v23))) fun v76 =>
 pk v73 v76 (bv false) fun v77 =>
 QK c1 v11 v23 v41 v77 s) (
 bn Qe .eql v45 (iv 4) fun v79 =>
 condS v79 (
 nt v17 fun v81 =>
 iT v81 fun w_43 =>
 iT v81 fun w_44 =>
 bind1 (gd w_44 (unS .not (gdV w_43 v23))) fun v84 =>
 pk v81 v84 (bv false) fun v85 =>
 iT v85 fun w_45 =>
 iT v85 fun w_46 =>
 bind1 (gd w_46 (unS .not (gdV w_45 v35))) fun v88 =>
 pk v85 v88 (bv false) fun v89 =>
 QK c1 v11 v23 v41 v89 s) (
 QK c1 v11 v23 v41 (bv false) s)))) := (Q5 _ _ _).trans (by kernel_rfl)
theorem Qe6 (a0 : AV) (s : St) : cw (.f Q19) [a0] s =
 bn Q2 .neq (.val a0) (sv []) fun v4 =>
 iT v4 fun w =>
 iT v4 fun w_1 =>
 bind1 (gd w_1 (indexS (C.ti Q2) (C.ti T_0) (gdV w (.val a0)) (iv 0))) fun v7 =>
 iT v4 fun w_2 =>
 cg w_2 Q2L [v7] s fun v8 s_1 =>
 pk v4 v8 (bv false) fun v9 =>
 iT v9 fun w_3 =>
 iT v9 fun w_4 =>
 cg w_4 Q2K [(gdV w_3 (.val a0))] s_1 fun v12 s_2 =>
 pk v9 v12 (bv false) fun v13 =>
 iT v13 fun w_5 =>
 iT v13 fun w_6 =>
 gB w_6 Q2 .add (sv [32]) (gdV w_5 (.val a0)) fun v16 =>
 iT v13 fun w_7 =>
 gB w_7 Q2 .add v16 (sv [32]) fun v17 =>
 iT v13 fun w_8 =>
 cg w_8 Q1C [(.val (.str Q9t)), v17] s_2 fun v18 s_3 =>
 iT v13 fun w_9 =>
 gN w_9 v18 fun v19 =>
 pk v13 v19 (bv false) fun v20 =>
 some (.ret v20, s_3) := (Q5 _ _ _).trans (by kernel_rfl)
theorem Q9o (a0 : AV) (s : St) : cw (.f Q2M) [a0] s =
 bx Zo (.val a0) fun c1 =>
 gC Q4 3 c1 fun v5 =>
 bx Q4 v5 fun c =>
 pZ Q4 c fun c3 =>
 gC Qg 2 c1 fun v8 =>
 nt v8 fun v9 =>
 iT v9 fun w =>
 iT v9 fun w_1 =>
 gG w_1 w Qs 0 c3 fun v12 =>
 iT v9 fun w_2 =>
 gB w_2 Qs .neq v12 (iv 0) fun v13 =>
 iT v9 fun w_3 =>
 bindB (Slot.isB (gdV w_3 v13) false) fun w_4 =>
 bindB (Slot.isB (gdV w_3 v13) false) fun w_5 =>
 gG w_5 w_4 Q1 1 c3 fun v16 =>
 bindB (Slot.isB (gdV w_3 v13) false) fun w_6 =>
 gB w_6 Q1 .neq v16 (iv 0) fun v17 =>
 iT v9 fun w_7 =>
 bind1 (gd w_7 (pickS (gdV w_3 v13) (bv true) v17)) fun v18 =>
 iT v9 fun w_8 =>
 bindB (Slot.isB (gdV w_8 v18) false) fun w_9 =>
 bindB (Slot.isB (gdV w_8 v18) false) fun w_10 =>
 gG w_10 w_9 Q2 2 c3 fun v21 =>
 bindB (Slot.isB (gdV w_8 v18) false) fun w_11 =>
 gB w_11 Q2 .neq v21 (sv []) fun v22 =>
 iT v9 fun w_12 =>
 bind1 (gd w_12 (pickS (gdV w_8 v18) (bv true) v22)) fun v23 =>
 iT v9 fun w_13 =>
 bindB (Slot.isB (gdV w_13 v23) false) fun w_14 =>
 bindB (Slot.isB (gdV w_13 v23) false) fun w_15 =>
 gG w_15 w_14 Qk 3 c3 fun v26 =>
 bindB (Slot.isB (gdV w_13 v23) false) fun w_16 =>
 gL w_16 Qk v26 fun v27 =>
 bindB (Slot.isB (gdV w_13 v23) false) fun w_17 =>
 gB w_17 Q1 .gtr v27 (iv 0) fun v28 =>
 iT v9 fun w_18 =>
 bind1 (gd w_18 (pickS (gdV w_13 v23) (bv true) v28)) fun v29 =>
 pk v9 v29 (bv false) fun v30 =>
 condS v30 (
 some (.ret (iv 29), s)) (
 gC Q2 0 c1 fun v33 =>
 ca Q1M [v33] s fun v34 s_1 =>
 nt v34 fun v35 =>
 condS v35 (
 some (.ret (iv 8), s_1)) (
 some (.ret (iv 0), s_1))) := (Q5 _ _ _).trans (by kernel_rfl)
theorem Q9p (a0 : AV) (s : St) : cw (.f Q2N) [a0] s =
 bindL (boxCells (C.ti Qm) (.val a0)) fun c1 =>
 bind1 (ofSlots (C.ti Q3) (List.take (C.ti Q3).size (List.drop 0 c1))) fun v7 =>
 back (cal cw true (tgtV (.val (.fn Q6V [])) [v7]) s) fun v8 s_1 =>
 bind1 (extractS v8 0) fun v9 =>
 bind1 (extractS v8 1) fun v10 =>
 bindL (boxCells (C.ti Q0) v9) fun c =>
 bindL (putAt (List.map .val (C.ti Q0).zero) 0 c) fun c3 =>
 bind1 (unS .not v10) fun v13 =>
 bindB (Slot.isB v13 false) fun w =>
 bindB (Slot.isB v13 false) fun w_1 =>
 bind1 (gd w_1 (bif w then (ofSlots (C.ti Qg) (List.take (C.ti Qg).size (List.drop 0 c3))) else none)) fun v16 =>
 bindB (Slot.isB v13 false) fun w_2 =>
 bind1 (gd w_2 (unS .not v16)) fun v17 =>
 bindB (Slot.isB v13 false) fun w_3 =>
 bindB (Slot.isB (gdV w_3 v17) true) fun w_4 =>
 bindB (Slot.isB (gdV w_3 v17) true) fun w_5 =>
 bind1 (gd w_5 (bif w_4 then (ofSlots (C.ti Q2) (List.take (C.ti Q2).size (List.drop 2 c1))) else none)) fun v20 =>
 bindB (Slot.isB (gdV w_3 v17) true) fun w_6 =>
 bind1 (gd w_6 (binS (C.ti Q2) .neq v20 (.val (.str [])))) fun v21 =>
 bindB (Slot.isB v13 false) fun w_7 =>
 bind1 (gd w_7 (pickS (gdV w_3 v17) v21 (.val (.bool false)))) fun v22 =>
 bind1 (pickS v13 (.val (.bool true)) v22) fun v23 =>
 bindB (Slot.isB v23 false) fun w_8 =>
 bindB (Slot.isB v23 false) fun w_9 =>
 bind1 (gd w_9 (bif w_8 then (ofSlots (C.ti Qg) (List.take (C.ti Qg).size (List.drop 1 c3))) else none)) fun v26 =>
 bindB (Slot.isB v23 false) fun w_10 =>
 bind1 (gd w_10 (unS .not v26)) fun v27 =>
 bindB (Slot.isB v23 false) fun w_11 =>
 bindB (Slot.isB (gdV w_11 v27) true) fun w_12 =>
 bindB (Slot.isB (gdV w_11 v27) true) fun w_13 =>
 bind1 (gd w_13 (bif w_12 then (ofSlots (C.ti Q1) (List.take (C.ti Q1).size (List.drop 3 c1))) else none)) fun v30 =>
 bindB (Slot.isB (gdV w_11 v27) true) fun w_14 =>
 bind1 (gd w_14 (binS (C.ti Q1) .neq v30 (.val (.int .i64 0)))) fun v31 =>
 bindB (Slot.isB v23 false) fun w_15 =>
 bind1 (gd w_15 (pickS (gdV w_11 v27) v31 (.val (.bool false)))) fun v32 =>
 bind1 (pickS v23 (.val (.bool true)) v32) fun v33 =>
 bindB (Slot.isB v33 false) fun w_16 =>
 bindB (Slot.isB v33 false) fun w_17 =>
 bind1 (gd w_17 (bif w_16 then (ofSlots (C.ti Qg) (List.take (C.ti Qg).size (List.drop 2 c3))) else none)) fun v36 =>
 bindB (Slot.isB v33 false) fun w_18 =>
 bind1 (gd w_18 (unS .not v36)) fun v37 =>
 bindB (Slot.isB v33 false) fun w_19 =>
 bindB (Slot.isB (gdV w_19 v37) true) fun w_20 =>
 bindB (Slot.isB (gdV w_19 v37) true) fun w_21 =>
 bind1 (gd w_21 (bif w_20 then (ofSlots (C.ti Qj) (List.take (C.ti Qj).size (List.drop 5 c1))) else none)) fun v40 =>
 bindB (Slot.isB (gdV w_19 v37) true) fun w_22 =>
 bind1 (gd w_22 (lenS (C.ti Qj) v40)) fun v41 =>
 bindB (Slot.isB (gdV w_19 v37) true) fun w_23 =>
 bind1 (gd w_23 (binS (C.ti Q1) .gtr v41 (.val (.int .i64 0)))) fun v42 =>
 bindB (Slot.isB v33 false) fun w_24 =>
 bind1 (gd w_24 (pickS (gdV w_19 v37) v42 (.val (.bool false)))) fun v43 =>
 bind1 (pickS v33 (.val (.bool true)) v43) fun v44 =>
 bindB (Slot.isB v44 false) fun w_25 =>
 bindB (Slot.isB v44 false) fun w_26 =>
 bind1 (gd w_26 (bif w_25 then (ofSlots (C.ti Qg) (List.take (C.ti Qg).size (List.drop 3 c3))) else none)) fun v47 =>
 bindB (Slot.isB v44 false) fun w_27 =>
 bind1 (gd w_27 (unS .not v47)) fun v48 =>
 bindB (Slot.isB v44 false) fun w_28 =>
 bindB (Slot.isB (gdV w_28 v48) true) fun w_29 =>
 bindB (Slot.isB (gdV w_28 v48) true) fun w_30 =>
 bind1 (gd w_30 (bif w_29 then (ofSlots (C.ti Qp) (List.take (C.ti Qp).size (List.drop 6 c1))) else none)) fun v51 =>
 bindB (Slot.isB (gdV w_28 v48) true) fun w_31 =>
 bind1 (gd w_31 (lenS (C.ti Qp) v51)) fun v52 =>
 bindB (Slot.isB (gdV w_28 v48) true) fun w_32 =>
 bind1 (gd w_32 (binS (C.ti Q1) .gtr v52 (.val (.int .i64 0)))) fun v53 =>
 bindB (Slot.isB v44 false) fun w_33 =>
 bind1 (gd w_33 (pickS (gdV w_28 v48) v53 (.val (.bool false)))) fun v54 =>
 bind1 (pickS v44 (.val (.bool true)) v54) fun v55 =>
 bindB (Slot.isB v55 false) fun w_34 =>
 bindB (Slot.isB v55 false) fun w_35 =>
 bind1 (gd w_35 (bif w_34 then (ofSlots (C.ti Q1) (List.take (C.ti Q1).size (List.drop 5 c3))) else none)) fun v58 =>
 bindB (Slot.isB v55 false) fun w_36 =>
 bind1 (gd w_36 (binS (C.ti Q1) .eql v58 (.val (.int .i64 0)))) fun v59 =>
 bindB (Slot.isB v55 false) fun w_37 =>
 bindB (Slot.isB (gdV w_37 v59) true) fun w_38 =>
 bindB (Slot.isB (gdV w_37 v59) true) fun w_39 =>
 bind1 (gd w_39 (bif w_38 then (ofSlots (C.ti QD) (List.take (C.ti QD).size (List.drop 4 c1))) else none)) fun v62 =>
 bindB (Slot.isB (gdV w_37 v59) true) fun w_40 =>
 bind1 (gd w_40 (lenS (C.ti QD) v62)) fun v63 =>
 bindB (Slot.isB (gdV w_37 v59) true) fun w_41 =>
 bind1 (gd w_41 (binS (C.ti Q1) .gtr v63 (.val (.int .i64 0)))) fun v64 =>
 bindB (Slot.isB v55 false) fun w_42 =>
 bind1 (gd w_42 (pickS (gdV w_37 v59) v64 (.val (.bool false)))) fun v65 =>
 bind1 (pickS v55 (.val (.bool true)) v65) fun v66 =>
 condS v66 (
 some (.ret (.val (.int .i64 29)), s_1)) (
 bind1 (ofSlots (C.ti Q3) (List.take (C.ti Q3).size (List.drop 0 c1))) fun v69 =>
 bind1 (binS (C.ti Q3) .eql v69 (.val (.int .i64 2))) fun v70 =>
 bindB (Slot.isB v70 true) fun w_43 =>
 bindB (Slot.isB v70 true) fun w_44 =>
 bind1 (gd w_44 (bif w_43 then (ofSlots (C.ti Q2) (List.take (C.ti Q2).size (List.drop 2 c1))) else none)) fun v73 =>
 bindB (Slot.isB v70 true) fun w_45 =>
 back (cal cw w_45 (tgtV (.val (.fn Q19 [])) [v73]) s_1) fun v74 s_2 =>
 bindB (Slot.isB v70 true) fun w_46 =>
 bind1 (gd w_46 (unS .not v74)) fun v75 =>
 bind1 (pickS v70 v75 (.val (.bool false))) fun v76 =>
 bindB (Slot.isB v76 false) fun w_47 =>
 bindB (Slot.isB v76 false) fun w_48 =>
 bind1 (gd w_48 (bif w_47 then (ofSlots (C.ti Q3) (List.take (C.ti Q3).size (List.drop 0 c1))) else none)) fun v79 =>
 bindB (Slot.isB v76 false) fun w_49 =>
 bind1 (gd w_49 (binS (C.ti Q3) .eql v79 (.val (.int .i64 3)))) fun v80 =>
 bindB (Slot.isB v76 false) fun w_50 =>
 bindB (Slot.isB (gdV w_50 v80) true) fun w_51 =>
 bindB (Slot.isB (gdV w_50 v80) true) fun w_52 =>
 bind1 (gd w_52 (bif w_51 then (ofSlots (C.ti Q2) (List.take (C.ti Q2).size (List.drop 2 c1))) else none)) fun v83 =>
 bindB (Slot.isB (gdV w_50 v80) true) fun w_53 =>
 back (cal cw w_53 (tgtV (.val (.fn Q0s [])) [v83]) s_2) fun v84 s_3 =>
 bindB (Slot.isB (gdV w_50 v80) true) fun w_54 =>
 bind1 (gd w_54 (unS .not v84)) fun v85 =>
 bindB (Slot.isB v76 false) fun w_55 =>
 bind1 (gd w_55 (pickS (gdV w_50 v80) v85 (.val (.bool false)))) fun v86 =>
 bind1 (pickS v76 (.val (.bool true)) v86) fun v87 =>
 condS v87 (
 some (.ret (.val (.int .i64 8)), s_3)) (
 bind1 (ofSlots (C.ti Q3) (List.take (C.ti Q3).size (List.drop 0 c1))) fun v90 =>
 bind1 (binS (C.ti Q3) .eql v90 (.val (.int .i64 1))) fun v91 =>
 bindB (Slot.isB v91 true) fun w_56 =>
 bindB (Slot.isB v91 true) fun w_57 =>
 bind1 (gd w_57 (bif w_56 then (ofSlots (C.ti Q1) (List.take (C.ti Q1).size (List.drop 3 c1))) else none)) fun v94 =>
 bindB (Slot.isB v91 true) fun w_58 =>
 back (cal cw w_58 (tgtV (.val (.fn Q2J [])) [v94]) s_3) fun v95 s_4 =>
 bindB (Slot.isB v91 true) fun w_59 =>
 bind1 (gd w_59 (unS .not v95)) fun v96 =>
 bind1 (pickS v91 v96 (.val (.bool false))) fun v97 =>
 bindB (Slot.isB v97 false) fun w_60 =>
 bindB (Slot.isB v97 false) fun w_61 =>
 bind1 (gd w_61 (bif w_60 then (ofSlots (C.ti Q3) (List.take (C.ti Q3).size (List.drop 0 c1))) else none)) fun v100 =>
 bindB (Slot.isB v97 false) fun w_62 =>
 bind1 (gd w_62 (binS (C.ti Q3) .eql v100 (.val (.int .i64 13)))) fun v101 =>
 bindB (Slot.isB v97 false) fun w_63 =>
 bindB (Slot.isB (gdV w_63 v101) true) fun w_64 =>
 bindB (Slot.isB (gdV w_63 v101) true) fun w_65 =>
 bind1 (gd w_65 (bif w_64 then (ofSlots (C.ti Q1) (List.take (C.ti Q1).size (List.drop 3 c1))) else none)) fun v104 =>
 bindB (Slot.isB (gdV w_63 v101) true) fun w_66 =>
 bind1 (gd w_66 (binS (C.ti Q1) .lss v104 (.val (.int .i64 1)))) fun v105 =>
 bindB (Slot.isB (gdV w_63 v101) true) fun w_67 =>
 bindB (Slot.isB (gdV w_67 v105) false) fun w_68 =>
 bindB (Slot.isB (gdV w_67 v105) false) fun w_69 =>
 bind1 (gd w_69 (bif w_68 then (ofSlots (C.ti Q1) (List.take (C.ti Q1).size (List.drop 3 c1))) else none)) fun v108 =>
 bindB (Slot.isB (gdV w_67 v105) false) fun w_70 =>
 bind1 (gd w_70 (binS (C.ti Q1) .gtr v108 (.val (.int .i64 9)))) fun v109 =>
 bindB (Slot.isB (gdV w_63 v101) true) fun w_71 =>
 bind1 (gd w_71 (pickS (gdV w_67 v105) (.val (.bool true)) v109)) fun v110 =>
 bindB (Slot.isB v97 false) fun w_72 =>
 bind1 (gd w_72 (pickS (gdV w_63 v101) v110 (.val (.bool false)))) fun v111 =>
 bind1 (pickS v97 (.val (.bool true)) v111) fun v112 =>
 condS v112 (
 some (.ret (.val (.int .i64 2)), s_4)) (
 bind1 (ofSlots (C.ti QD) (List.take (C.ti QD).size (List.drop 4 c1))) fun v115 =>
 bind1 (lenS (C.ti QD) v115) fun v116 =>
 bind1 (ofSlots (C.ti Q1) (List.take (C.ti Q1).size (List.drop 4 c3))) fun v118 =>
 bind1 (binS (C.ti Q1) .lss v116 v118) fun v119 =>
 bindB (Slot.isB v119 false) fun w_73 =>
 bindB (Slot.isB v119 false) fun w_74 =>
 bind1 (gd w_74 (bif w_73 then (ofSlots (C.ti QD) (List.take (C.ti QD).size (List.drop 4 c1))) else none)) fun v122 =>
 bindB (Slot.isB v119 false) fun w_75 =>
 bind1 (gd w_75 (lenS (C.ti QD) v122)) fun v123 =>
 bindB (Slot.isB v119 false) fun w_76 =>
 bindB (Slot.isB v119 false) fun w_77 =>
 bind1 (gd w_77 (bif w_76 then (ofSlots (C.ti Q1) (List.take (C.ti Q1).size (List.drop 5 c3))) else none)) fun v125 =>
 bindB (Slot.isB v119 false) fun w_78 =>
 bind1 (gd w_78 (binS (C.ti Q1) .gtr v123 v125)) fun v126 =>
 bind1 (pickS v119 (.val (.bool true)) v126) fun v127 =>
 bindB (Slot.isB v127 false) fun w_79 =>
 bindB (Slot.isB v127 false) fun w_80 =>
 bind1 (gd w_80 (bif w_79 then (ofSlots (C.ti Qg) (List.take (C.ti Qg).size (List.drop 2 c3))) else none)) fun v130 =>
 bindB (Slot.isB v127 false) fun w_81 =>
 bindB (Slot.isB (gdV w_81 v130) true) fun w_82 =>
 bindB (Slot.isB (gdV w_81 v130) true) fun w_83 =>
 bind1 (gd w_83 (bif w_82 then (ofSlots (C.ti Qj) (List.take (C.ti Qj).size (List.drop 5 c1))) else none)) fun v133 =>
 bindB (Slot.isB (gdV w_81 v130) true) fun w_84 =>
 bind1 (gd w_84 (lenS (C.ti Qj) v133)) fun v134 =>
 bindB (Slot.isB (gdV w_81 v130) true) fun w_85 =>
 bind1 (gd w_85 (binS (C.ti Q1) .eql v134 (.val (.int .i64 0)))) fun v135 =>
 bindB (Slot.isB v127 false) fun w_86 =>
 bind1 (gd w_86 (pickS (gdV w_81 v130) v135 (.val (.bool false)))) fun v136 =>
 bind1 (pickS v127 (.val (.bool true)) v136) fun v137 =>
 bindB (Slot.isB v137 false) fun w_87 =>
 bindB (Slot.isB v137 false) fun w_88 =>
 bind1 (gd w_88 (bif w_87 then (ofSlots (C.ti Qg) (List.take (C.ti Qg).size (List.drop 3 c3))) else none)) fun v140 =>
 bindB (Slot.isB v137 false) fun w_89 =>
 bindB (Slot.isB (gdV w_89 v140) true) fun w_90 =>
 bindB (Slot.isB (gdV w_89 v140) true) fun w_91 =>
 bind1 (gd w_91 (bif w_90 then (ofSlots (C.ti Qp) (List.take (C.ti Qp).size (List.drop 6 c1))) else none)) fun v143 =>
 bindB (Slot.isB (gdV w_89 v140) true) fun w_92 =>
 bind1 (gd w_92 (lenS (C.ti Qp) v143)) fun v144 =>
 bindB (Slot.isB (gdV w_89 v140) true) fun w_93 =>
 bind1 (gd w_93 (binS (C.ti Q1) .eql v144 (.val (.int .i64 0)))) fun v145 =>
 bindB (Slot.isB v137 false) fun w_94 =>
 bind1 (gd w_94 (pickS (gdV w_89 v140) v145 (.val (.bool false)))) fun v146 =>
 bind1 (pickS v137 (.val (.bool true)) v146) fun v147 =>
 condS v147 (
 some (.ret (.val (.int .i64 19)), s_4)) (
 some (.ret (.val (.int .i64 0)), s_4))))) := (Q5 _ _ _).trans (by kernel_rfl)
noncomputable def Z2 : List Slot → Slot → Slot → Slot → Slot → St → Res := fun x1 x3 x4 x5 x6 s => pwD Q1z [.seqR, .seqR, .seqR] Try.f76 [(1, .var x1), (3, .s x3), (4, .s x4), (5, .s x5), (6, .s x6)] s
theorem Q7q : ∀ x1 x3 x4 x5 x6 s_1, Z2 x1 x3 x4 x5 x6 s_1 =
 nt x3 fun v23 =>
 iT v23 fun w =>
 iT v23 fun w_1 =>
 gG w_1 w Q2 2 x1 fun v26 =>
 iT v23 fun w_2 =>
 gB w_2 Q2 .neq v26 (sv []) fun v27 =>
 pk v23 v27 (bv false) fun v28 =>
 iF v28 fun w_3 =>
 iF v28 fun w_4 =>
 bind1 (gd w_4 (unS .not (gdV w_3 x4))) fun v31 =>
 iF v28 fun w_5 =>
 bindB (Slot.isB (gdV w_5 v31) true) fun w_6 =>
 bindB (Slot.isB (gdV w_5 v31) true) fun w_7 =>
 gG w_7 w_6 Q1 3 x1 fun v34 =>
 bindB (Slot.isB (gdV w_5 v31) true) fun w_8 =>
 gB w_8 Q1 .neq v34 (iv 0) fun v35 =>
 iF v28 fun w_9 =>
 bind1 (gd w_9 (pickS (gdV w_5 v31) v35 (bv false))) fun v36 =>
 pk v28 (bv true) v36 fun v37 =>
 iF v37 fun w_10 =>
 iF v37 fun w_11 =>
 gB w_11 Q1 .eql (gdV w_10 x6) (iv 0) fun v40 =>
 iF v37 fun w_12 =>
 bindB (Slot.isB (gdV w_12 v40) true) fun w_13 =>
 bindB (Slot.isB (gdV w_12 v40) true) fun w_14 =>
 gG w_14 w_13 QN 4 x1 fun v43 =>
 bindB (Slot.isB (gdV w_12 v40) true) fun w_15 =>
 gL w_15 QN v43 fun v44 =>
 bindB (Slot.isB (gdV w_12 v40) true) fun w_16 =>
 gB w_16 Q1 .gtr v44 (iv 0) fun v45 =>
 iF v37 fun w_17 =>
 bind1 (gd w_17 (pickS (gdV w_12 v40) v45 (bv false))) fun v46 =>
 pk v37 (bv true) v46 fun v47 =>
 condS v47 (
 some (.ret (iv 29), s_1)) (
 gC Qr 0 x1 fun v50 =>
 bn Qr .eql v50 (iv 4) fun v51 =>
 iT v51 fun w_18 =>
 iT v51 fun w_19 =>
 gG w_19 w_18 Q2 2 x1 fun v54 =>
 iT v51 fun w_20 =>
 cg w_20 Q0s [v54] s_1 fun v55 s_2 =>
 iT v51 fun w_21 =>
 gN w_21 v55 fun v56 =>
 pk v51 v56 (bv false) fun v57 =>
 iF v57 fun w_22 =>
 iF v57 fun w_23 =>
 bindB (Slot.isB (gdV w_23 (gdV w_22 x3)) true) fun w_24 =>
 bindB (Slot.isB (gdV w_23 (gdV w_22 x3)) true) fun w_25 =>
 gG w_25 w_24 Qr 0 x1 fun v62 =>
 bindB (Slot.isB (gdV w_23 (gdV w_22 x3)) true) fun w_26 =>
 gB w_26 Qr .neq v62 (iv 4) fun v63 =>
 iF v57 fun w_27 =>
 bind1 (gd w_27 (pickS (gdV w_23 (gdV w_22 x3)) v63 (bv false))) fun v64 =>
 iF v57 fun w_28 =>
 bindB (Slot.isB (gdV w_28 v64) true) fun w_29 =>
 bindB (Slot.isB (gdV w_28 v64) true) fun w_30 =>
 gG w_30 w_29 Q2 2 x1 fun v67 =>
 bindB (Slot.isB (gdV w_28 v64) true) fun w_31 =>
 cg w_31 Q19 [v67] s_2 fun v68 s_3 =>
 bindB (Slot.isB (gdV w_28 v64) true) fun w_32 =>
 gN w_32 v68 fun v69 =>
 iF v57 fun w_33 =>
 bind1 (gd w_33 (pickS (gdV w_28 v64) v69 (bv false))) fun v70 =>
 pk v57 (bv true) v70 fun v71 =>
 condS v71 (
 some (.ret (iv 8), s_3)) (
 iT x4 fun w_34 =>
 iT x4 fun w_35 =>
 gG w_35 w_34 Q1 3 x1 fun v76 =>
 iT x4 fun w_36 =>
 cg w_36 Q2J [v76] s_3 fun v77 s_4 =>
 iT x4 fun w_37 =>
 gN w_37 v77 fun v78 =>
 pk x4 v78 (bv false) fun v79 =>
 condS v79 (
 some (.ret (iv 2), s_4)) (
 gC QN 4 x1 fun v82 =>
 ln QN v82 fun v83 =>
 bn Q1 .lss v83 x5 fun v85 =>
 iF v85 fun w_38 =>
 iF v85 fun w_39 =>
 gG w_39 w_38 QN 4 x1 fun v88 =>
 iF v85 fun w_40 =>
 gL w_40 QN v88 fun v89 =>
 iF v85 fun w_41 =>
 iF v85 fun w_42 =>
 gB w_42 Q1 .gtr v89 (gdV w_41 x6) fun v91 =>
 pk v85 (bv true) v91 fun v92 =>
 condS v92 (
 some (.ret (iv 19), s_4)) (
 some (.ret (iv 0), s_4))))) := by intros; unfold Z2; exact (Q0F _).trans (by kernel_rfl)
theorem Q9q (a0 : AV) (s : St) : cw (.f Q1z) [a0] s =
 bx Qq (.val a0) fun c1 =>
 gC Qr 0 c1 fun v8 =>
 bn Qr .eql v8 (iv 1) fun v10 =>
 condS v10 (
 Z2 c1 (bv false) (bv false) (iv 0) (iv 0) s) (
 bn Qr .eql v8 (iv 2) fun v12 =>
 condS v12 (
 Z2 c1 (bv true) (bv false) (iv 0) (iv 0) s) (
 bn Qr .eql v8 (iv 3) fun v14 =>
 condS v14 (
 Z2 c1 (bv false) (bv true) (iv 0) (iv 0) s) (
 bn Qr .eql v8 (iv 4) fun v16 =>
 condS v16 (
 Z2 c1 (bv true) (bv false) (iv 0) (iv 1) s) (
 bn Qr .eql v8 (iv 5) fun v18 =>
 condS v18 (
 Z2 c1 (bv false) (bv false) (iv 2) (iv 8) s) (
 bn Qr .eql v8 (iv 6) fun v20 =>
 condS v20 (
 Z2 c1 (bv true) (bv false) (iv 1) (iv 1) s) (
 some (.ret (iv 29), s))))))) := (Q5 _ _ _).trans (by kernel_rfl)
noncomputable def Zv : Slot → Slot → Slot → St → Res := fun x3_1 x4_1 x5_1 s => pwD Q0L [.seqR, .seqR, .seqR, .seqR, .seqR] Try.f77 [(3, .s x3_1), (4, .s x4_1), (5, .s x5_1)] s
noncomputable def ZT : List Slot → Slot → Slot → Slot → Slot → Slot → St → Res := fun x1 x3 x4 x5 x56 x61 s => pwD Q0L [.seqR, .seqR, .seqR, .seqR, .seqL, .seqR, .block, .seqR] Try.f77 [(1, .var x1), (3, .s x3), (4, .s x4), (5, .s x5), (56, .s x56), (61, .s x61)] s
theorem Q8c : ∀ x3_1 x4_1 x5_1 s_2, Zv x3_1 x4_1 x5_1 s_2 =
 bn Q1 .lss x3_1 x4_1 fun v74 =>
 iF v74 fun w_26 =>
 iF v74 fun w_27 =>
 iF v74 fun w_28 =>
 gB w_28 Q1 .gtr (gdV w_26 x3_1) (gdV w_27 x5_1) fun v78 =>
 pk v74 (bv true) v78 fun v79 =>
 condS v79 (
 some (.ret (iv 19), s_2)) (
 some (.ret (iv 0), s_2)) := by intros; unfold Zv; exact (Q0F _).trans (by kernel_rfl)
theorem Q8b : ∀ x1 x3 x4 x5 x56 x61 s_1, ZT x1 x3 x4 x5 x56 x61 s_1 =
 condS x61 (
 Zv x3 x4 x5 s_1) (
 bn Q2 .eql x56 (sv [114, 101, 102]) fun v67 =>
 condS v67 (
 Zv x3 (iv 1) (iv 1) s_1) (
 bn Q2 .eql x56 (sv [45, 62]) fun v69 =>
 condS v69 (
 Zv x3 (iv 2) (iv 2) s_1) (
 bn Q2 .eql x56 (sv [42]) fun v71 =>
 condS v71 (
 Zv x3 (iv 2) (iv 8) s_1) (
 gC Q2 2 x1 fun v58 =>
 ca Q19 [v58] s_1 fun v59 s_3 =>
 nt v59 fun v60 =>
 condS v60 (
 some (.ret (iv 8), s_3)) (
 Zv x3 x4 (iv 8) s_3))))) := by intros; unfold ZT; exact (Q0F _).trans (by kernel_rfl)
theorem Qau (a0 : AV) (s : St) : cw (.f Q0L) [a0] s =
 bx Q4 (.val a0) fun c1 =>
 gC Qk 3 c1 fun v7 =>
 ln Qk v7 fun v8 =>
 gC Qs 0 c1 fun v11 =>
 bn Qs .eql v11 (iv 1) fun v12 =>
 iT v12 fun w =>
 iT v12 fun w_1 =>
 gG w_1 w Q2 2 c1 fun v15 =>
 iT v12 fun w_2 =>
 gB w_2 Q2 .neq v15 (sv []) fun v16 =>
 iT v12 fun w_3 =>
 bindB (Slot.isB (gdV w_3 v16) false) fun w_4 =>
 bindB (Slot.isB (gdV w_3 v16) false) fun w_5 =>
 gB w_5 Q1 .gtr (gdV w_4 v8) (iv 0) fun v19 =>
 iT v12 fun w_6 =>
 bind1 (gd w_6 (pickS (gdV w_3 v16) (bv true) v19)) fun v20 =>
 pk v12 v20 (bv false) fun v21 =>
 iF v21 fun w_7 =>
 iF v21 fun w_8 =>
 gG w_8 w_7 Qs 0 c1 fun v24 =>
 iF v21 fun w_9 =>
 gB w_9 Qs .eql v24 (iv 2) fun v25 =>
 iF v21 fun w_10 =>
 bindB (Slot.isB (gdV w_10 v25) true) fun w_11 =>
 bindB (Slot.isB (gdV w_10 v25) true) fun w_12 =>
 gG w_12 w_11 Q1 1 c1 fun v28 =>
 bindB (Slot.isB (gdV w_10 v25) true) fun w_13 =>
 gB w_13 Q1 .neq v28 (iv 0) fun v29 =>
 iF v21 fun w_14 =>
 bind1 (gd w_14 (pickS (gdV w_10 v25) v29 (bv false))) fun v30 =>
 pk v21 (bv true) v30 fun v31 =>
 iF v31 fun w_15 =>
 iF v31 fun w_16 =>
 gG w_16 w_15 Qs 0 c1 fun v34 =>
 iF v31 fun w_17 =>
 gB w_17 Qs .neq v34 (iv 1) fun v35 =>
 iF v31 fun w_18 =>
 bindB (Slot.isB (gdV w_18 v35) true) fun w_19 =>
 bindB (Slot.isB (gdV w_18 v35) true) fun w_20 =>
 gG w_20 w_19 Qs 0 c1 fun v38 =>
 bindB (Slot.isB (gdV w_18 v35) true) fun w_21 =>
 gB w_21 Qs .neq v38 (iv 2) fun v39 =>
 iF v31 fun w_22 =>
 bind1 (gd w_22 (pickS (gdV w_18 v35) v39 (bv false))) fun v40 =>
 pk v31 (bv true) v40 fun v41 =>
 condS v41 (
 some (.ret (iv 29), s)) (
 gC Qs 0 c1 fun v44 =>
 bn Qs .eql v44 (iv 1) fun v45 =>
 iT v45 fun w_23 =>
 iT v45 fun w_24 =>
 gG w_24 w_23 Q1 1 c1 fun v48 =>
 iT v45 fun w_25 =>
 gB w_25 Q1 .lss v48 (iv 0) fun v49 =>
 pk v45 v49 (bv false) fun v50 =>
 condS v50 (
 some (.ret (iv 2), s)) (
 gC Qs 0 c1 fun v53 =>
 bn Qs .eql v53 (iv 1) fun v54 =>
 condS v54 (
 some (.ret (iv 0), s)) (
 gC Q2 2 c1 fun v56 =>
 bn Q2 .eql v56 (sv [105, 110, 116]) fun v62 =>
 condS v62 (
 ZT c1 v8 (iv 0) (iv 0) v56 v62 s) (
 bn Q2 .eql v56 (sv [98, 111, 111, 108]) fun v63 =>
 condS v63 (
 ZT c1 v8 (iv 0) (iv 0) v56 v63 s) (
 bn Q2 .eql v56 (sv [117, 110, 105, 116]) fun v64 =>
 condS v64 (
 ZT c1 v8 (iv 0) (iv 0) v56 v64 s) (
 bn Q2 .eql v56 (sv [101, 120, 110]) fun v65 =>
 ZT c1 v8 (iv 0) (iv 0) v56 v65 s)))))) := (Q5 _ _ _).trans (by kernel_rfl)
noncomputable def Zt : Slot → List Slot → Slot → Slot → St → Res := fun x1 x2 x7 x8 s => lpD Zb [.seqR, .seqL, .seqR, .block] Try.f78 [(1, .s x1), (2, .var x2), (7, .s x7), (8, .s x8)] s
theorem Q20 : ∀ x1 x2 x7 x8 s_1, Zt x1 x2 x7 x8 s_1 =
 bn Q1 .lss x8 x7 fun v9 =>
 condS v9 (
 gA Qt x2 fun v11 =>
 ix Ql x1 x8 fun v14 =>
 fa 0 v14 fun v15 =>
 cn QO [v11, v15] s_1 fun v16 s_2 =>
 nt v16 fun v17 =>
 iF v17 fun w =>
 bind1 (gd w (ofSlots (C.ti Qt) (List.take (C.ti Qt).size x2))) fun v19 =>
 iF v17 fun w_1 =>
 iF v17 fun w_2 =>
 iF v17 fun w_3 =>
 bind1 (gd w_3 (ixS (C.ti Ql).size (gdV w_1 x1) (gdV w_2 x8))) fun v22 =>
 iF v17 fun w_4 =>
 bind1 (gd w_4 (faV 5 v22)) fun v23 =>
 iF v17 fun w_5 =>
 back (noPan (cal cw w_5 (tgtV (.val (.fn Zk [])) [v19, v23]) s_2)) fun v24 s_3 =>
 iF v17 fun w_6 =>
 gN w_6 v24 fun v25 =>
 pk v17 (bv true) v25 fun v26 =>
 condS v26 (
 some (.ret (bv false), s_3)) (
 nx x8 fun v27 =>
 Zt x1 x2 x7 v27 s_3)) (
 some (.ret (bv true), s_1)) := by intros; unfold Zt; exact (Q9 _ _ _ _ _ _).trans (by kernel_rfl)
theorem Q3c (a0 : AV) (a1 : AV) (s : St) : cw (.f Zb) [a0, a1] s =
 bx Qt (.val a0) fun c2 =>
 ln Qj (.val a1) fun v7 =>
 Zt (.val a1) c2 v7 (iv 0) s := (Q5 _ _ _).trans (by kernel_rfl)
noncomputable def Zu : Slot → Slot → List Slot → Slot → Slot → St → Res := fun x1 x2 x3 x19 x20 s => lpD Zc [.seqR, .seqR, .seqL, .seqR, .block] Try.f79 [(1, .s x1), (2, .s x2), (3, .var x3), (19, .s x19), (20, .s x20)] s
theorem Q21 : ∀ x1 x2 x3 x19 x20 s_2, Zu x1 x2 x3 x19 x20 s_2 =
 bn Q1 .lss x20 x19 fun v21 =>
 condS v21 (
 gA Qt x3 fun v23 =>
 bind1 (nilCheckV x1) fun v25 =>
 fa 3 v25 fun v26 =>
 ld Qk s_2 v26 fun v27 =>
 ix Q4 v27 x20 fun v29 =>
 cn Zc [v23, v29, x2] s_2 fun v31 s_3 =>
 nt v31 fun v32 =>
 condS v32 (
 some (.ret (bv false), s_3)) (
 nx x20 fun v33 =>
 Zu x1 x2 x3 x19 v33 s_3)) (
 some (.ret (bv true), s_2)) := by intros; unfold Zu; exact (Q9 _ _ _ _ _ _).trans (by kernel_rfl)
theorem Q6R (a0 : AV) (a1 : AV) (a2 : AV) (s : St) : cw (.f Zc) [a0, a1, a2] s =
 bx Qt (.val a0) fun c3 =>
 gC Qf 0 c3 fun v9 =>
 bd QI [(6, Q3O, (.val a1)), (7, Q1, (.val a2))] fun v12 =>
 back (cal cw true (tgtV v9 [v12]) s) fun v13 s_1 =>
 nt v13 fun v14 =>
 condS v14 (
 some (.ret (bv false), s_1)) (
 bind1 (nilCheckV (.val a1)) fun v16 =>
 fa 3 v16 fun v17 =>
 ld Qk s_1 v17 fun v18 =>
 ln Qk v18 fun v19 =>
 Zu (.val a1) (.val a2) c3 v19 (iv 0) s_1) := (Q5 _ _ _).trans (by kernel_rfl)
noncomputable def Q0A : Slot → Slot → Slot → Slot → St → Res := fun x3 x7 x8 x9 s => lpD Q08 [.seqR, .seqR, .seqL, .seqR, .block] Try.f80 [(3, .s x3), (7, .s x7), (8, .s x8), (9, .s x9)] s
theorem Q3Y : ∀ x3 x7 x8 x9 s_1, Q0A x3 x7 x8 x9 s_1 =
 bn Q1 .lss x9 x8 fun v10 =>
 condS v10 (
 ix Qq x7 x9 fun v11 =>
 ld Qq s_1 v11 fun v12 =>
 bx Qq v12 fun c =>
 pZ Qq c fun c5 =>
 gA Qq c5 fun v14 =>
 ca Q08 [v14] s_1 fun v15 s_2 =>
 bind1 (max2 x3 v15) fun v16 =>
 nx x9 fun v17 =>
 Q0A v16 x7 x8 v17 s_2) (
 nx x3 fun v19 =>
 some (.ret v19, s_1)) := by intros; unfold Q0A; exact (Q9 _ _ _ _ _ _).trans (by kernel_rfl)
theorem Qar (a0 : AV) (s : St) : cw (.f Q08) [a0] s =
 bx Qq (.val a0) fun c1 =>
 gC QN 4 c1 fun v7 =>
 ln QN v7 fun v8 =>
 Q0A (iv 0) v7 v8 (iv 0) s := (Q5 _ _ _).trans (by kernel_rfl)
theorem Q8v (a0 : AV) (a1 : AV) (s : St) : cw (.f Z0) [a0, a1] s =
 bd Qt [(0, Qf, (.val a0))] fun v4 =>
 ca QO [v4, (.val a1)] s fun v5 s_1 =>
 rt [] s_1 := (Q5 _ _ _).trans (by kernel_rfl)
noncomputable def Zd : Slot → List Slot → Slot → Slot → St → Res := fun x1 x2 x20 x21 s => lpD QO [.seqR, .seqR, .seqL, .seqR, .block] Try.f82 [(1, .s x1), (2, .var x2), (20, .s x20), (21, .s x21)] s
theorem ZK : ∀ x1 x2 x20 x21 s_2, Zd x1 x2 x20 x21 s_2 =
 bn Q1 .lss x21 x20 fun v22 =>
 condS v22 (
 gA Qt x2 fun v24 =>
 bind1 (nilCheckV x1) fun v26 =>
 fa 4 v26 fun v27 =>
 ld QN s_2 v27 fun v28 =>
 ix Qq v28 x21 fun v30 =>
 cn QO [v24, v30] s_2 fun v31 s_3 =>
 nt v31 fun v32 =>
 condS v32 (
 some (.ret (bv false), s_3)) (
 nx x21 fun v33 =>
 Zd x1 x2 x20 v33 s_3)) (
 some (.ret (bv true), s_2)) := by intros; unfold Zd; exact (Q9 _ _ _ _ _ _).trans (by kernel_rfl)
theorem Q3q (a0 : AV) (a1 : AV) (s : St) : cw (.f QO) [a0, a1] s =
 bx Qt (.val a0) fun c2 =>
 gC Qf 0 c2 fun v7 =>
 bind1 (nilCheckV (.val a1)) fun v10 =>
 fa 1 v10 fun v11 =>
 ld Q1 s v11 fun v12 =>
 bd QI [(5, Q09, (.val a1)), (7, Q1, v12)] fun v13 =>
 back (noPan (cal cw true (tgtV v7 [v13]) s)) fun v14 s_1 =>
 nt v14 fun v15 =>
 condS v15 (
 some (.ret (bv false), s_1)) (
 bind1 (nilCheckV (.val a1)) fun v17 =>
 fa 4 v17 fun v18 =>
 ld QN s_1 v18 fun v19 =>
 ln QN v19 fun v20 =>
 Zd (.val a1) c2 v20 (iv 0) s_1) := (Q5 _ _ _).trans (by kernel_rfl)
noncomputable def Q0Y : List Slot → Slot → Slot → St → Res := fun x1 x3 x4 s => lpD Q0k [.seqR, .seqR, .seqL, .seqR, .block] Try.f83 [(1, .var x1), (3, .s x3), (4, .s x4)] s
theorem Q4b : ∀ x1 x3 x4 s_1, Q0Y x1 x3 x4 s_1 =
 gC QN 4 x1 fun v12 =>
 ln QN v12 fun v13 =>
 bn Q1 .lss x4 v13 fun v14 =>
 condS v14 (
 gC QN 4 x1 fun v19 =>
 ix Qq v19 x4 fun v21 =>
 ld Qq s_1 v21 fun v22 =>
 ca Q0k [v22] s_1 fun v23 s_2 =>
 ap Qb s_2 x3 v23 fun v24 s_3 =>
 nx x4 fun v16 =>
 Q0Y x1 v24 v16 s_3) (
 some (.ret x3, s_1)) := by intros; unfold Q0Y; exact (Q9 _ _ _ _ _ _).trans (by kernel_rfl)
theorem Qbb (a0 : AV) (s : St) : cw (.f Q0k) [a0] s =
 bx Qq (.val a0) fun c1 =>
 gA Qq c1 fun v5 =>
 gC Q1 1 c1 fun v7 =>
 bd Qb [(0, Q1, (iv 3)), (17, Qq, v5), (2, Q1, v7)] fun v8 =>
 bs Qb [v8] fun v9 =>
 Q0Y c1 v9 (iv 0) s := (Q5 _ _ _).trans (by kernel_rfl)
noncomputable def Q0X : List Slot → Slot → Slot → St → Res := fun x1_2 x3_2 x6 s => lpD ZV [.seqR, .seqR, .seqR, .seqR, .seqL, .seqR, .block] Try.f84 [(1, .var x1_2), (3, .s x3_2), (6, .s x6)] s
noncomputable def Q0W : List Slot → Slot → Slot → St → Res := fun x1_1 x3_1 x5 s => lpD ZV [.seqR, .seqR, .seqR, .seqL, .seqR, .block] Try.f84 [(1, .var x1_1), (3, .s x3_1), (5, .s x5)] s
noncomputable def Q0V : List Slot → Slot → Slot → St → Res := fun x1 x3 x4 s => lpD ZV [.seqR, .seqR, .seqL, .seqR, .block] Try.f84 [(1, .var x1), (3, .s x3), (4, .s x4)] s
theorem Q4a : ∀ x1_2 x3_2 x6 s_7, Q0X x1_2 x3_2 x6 s_7 =
 gC Qj 5 x1_2 fun v44 =>
 ln Qj v44 fun v45 =>
 bn Q1 .lss x6 v45 fun v46 =>
 condS v46 (
 gC Qj 5 x1_2 fun v51 =>
 ix Ql v51 x6 fun v53 =>
 ld Ql s_7 v53 fun v54 =>
 ca Q0I [v54] s_7 fun v55 s_8 =>
 ap Qb s_8 x3_2 v55 fun v56 s_9 =>
 nx x6 fun v48 =>
 Q0X x1_2 v56 v48 s_9) (
 some (.ret x3_2, s_7)) := by intros; unfold Q0X; exact (Q9 _ _ _ _ _ _).trans (by kernel_rfl)
theorem Q49 : ∀ x1_1 x3_1 x5 s_4, Q0W x1_1 x3_1 x5 s_4 =
 gC QD 4 x1_1 fun v29 =>
 ln QD v29 fun v30 =>
 bn Q1 .lss x5 v30 fun v31 =>
 condS v31 (
 gC QD 4 x1_1 fun v36 =>
 ix Qm v36 x5 fun v38 =>
 ld Qm s_4 v38 fun v39 =>
 ca ZV [v39] s_4 fun v40 s_5 =>
 ap Qb s_5 x3_1 v40 fun v41 s_6 =>
 nx x5 fun v33 =>
 Q0W x1_1 v41 v33 s_6) (
 Q0X x1_1 x3_1 (iv 0) s_4) := by intros; unfold Q0W; exact (Q9 _ _ _ _ _ _).trans (by kernel_rfl)
theorem Q48 : ∀ x1 x3 x4 s_1, Q0V x1 x3 x4 s_1 =
 gC Qp 6 x1 fun v14 =>
 ln Qp v14 fun v15 =>
 bn Q1 .lss x4 v15 fun v16 =>
 condS v16 (
 gC Qp 6 x1 fun v21 =>
 ix Qi v21 x4 fun v23 =>
 ld Qi s_1 v23 fun v24 =>
 ca ZU [v24, (bv true)] s_1 fun v25 s_2 =>
 ap Qb s_2 x3 v25 fun v26 s_3 =>
 nx x4 fun v18 =>
 Q0V x1 v26 v18 s_3) (
 Q0W x1 x3 (iv 0) s_1) := by intros; unfold Q0V; exact (Q9 _ _ _ _ _ _).trans (by kernel_rfl)
theorem Qba (a0 : AV) (s : St) : cw (.f ZV) [a0] s =
 bx Qm (.val a0) fun c1 =>
 gA Qm c1 fun v7 =>
 gC Q1 1 c1 fun v9 =>
 bd Qb [(0, Q1, (iv 2)), (10, Qm, v7), (2, Q1, v9)] fun v10 =>
 bs Qb [v10] fun v11 =>
 Q0V c1 v11 (iv 0) s := (Q5 _ _ _).trans (by kernel_rfl)
theorem Qci (a0 : AV) (s : St) : cw (.f Q2L) [a0] s =
 bn Q0b .geq (.val a0) (.val (.int .u8 97)) fun v4 =>
 iT v4 fun w =>
 iT v4 fun w_1 =>
 gB w_1 Q0b .leq (gdV w (.val a0)) (.val (.int .u8 122)) fun v7 =>
 pk v4 v7 (bv false) fun v8 =>
 iF v8 fun w_2 =>
 iF v8 fun w_3 =>
 gB w_3 Q0b .eql (gdV w_2 (.val a0)) (.val (.int .u8 95)) fun v11 =>
 pk v8 (bv true) v11 fun v12 =>
 some (.ret v12, s) := (Q5 _ _ _).trans (by kernel_rfl)
noncomputable def Q2i : Slot → Slot → St → Res := fun x0 x3 s => lpD Q2K [.seqR, .seqL, .seqR, .block] Try.f86 [(0, .s x0), (3, .s x3)] s
theorem Q6n : ∀ x0 x3 s_1, Q2i x0 x3 s_1 =
 ln Q2 x0 fun v7 =>
 bn Q1 .lss x3 v7 fun v8 =>
 condS v8 (
 bind1 (indexS (C.ti Q2) (C.ti T_0) x0 x3) fun v13 =>
 ca Q2L [v13] s_1 fun v15 s_2 =>
 nt v15 fun v16 =>
 iT v16 fun w =>
 iT v16 fun w_1 =>
 cg w_1 Q2I [(gdV w v13)] s_2 fun v19 s_3 =>
 iT v16 fun w_2 =>
 gN w_2 v19 fun v20 =>
 pk v16 v20 (bv false) fun v21 =>
 iT v21 fun w_3 =>
 iT v21 fun w_4 =>
 gB w_4 Q0b .lss (gdV w_3 v13) (.val (.int .u8 48)) fun v24 =>
 iT v21 fun w_5 =>
 bindB (Slot.isB (gdV w_5 v24) false) fun w_6 =>
 bindB (Slot.isB (gdV w_5 v24) false) fun w_7 =>
 gB w_7 Q0b .gtr (gdV w_6 v13) (.val (.int .u8 57)) fun v27 =>
 iT v21 fun w_8 =>
 bind1 (gd w_8 (pickS (gdV w_5 v24) (bv true) v27)) fun v28 =>
 pk v21 v28 (bv false) fun v29 =>
 iT v29 fun w_9 =>
 iT v29 fun w_10 =>
 gB w_10 Q0b .neq (gdV w_9 v13) (.val (.int .u8 39)) fun v32 =>
 pk v29 v32 (bv false) fun v33 =>
 condS v33 (
 some (.ret (bv false), s_3)) (
 nx x3 fun v10 =>
 Q2i x0 v10 s_3)) (
 ln Q2 x0 fun v35 =>
 bn Q1 .leq v35 (iv 32) fun v36 =>
 some (.ret v36, s_1)) := by intros; unfold Q2i; exact (Q9 _ _ _ _ _ _).trans (by kernel_rfl)
theorem Qe7 (a0 : AV) (s : St) : cw (.f Q2K) [a0] s =
 Q2i (.val a0) (iv 1) s := (Q5 _ _ _).trans (by kernel_rfl)
theorem Qao (a0 : AV) (s : St) : cw (.f Q1M) [a0] s =
 bn Q2 .neq (.val a0) (sv []) fun v4 =>
 iT v4 fun w =>
 iT v4 fun w_1 =>
 bind1 (gd w_1 (indexS (C.ti Q2) (C.ti T_0) (gdV w (.val a0)) (iv 0))) fun v7 =>
 iT v4 fun w_2 =>
 cg w_2 Q2I [v7] s fun v8 s_1 =>
 pk v4 v8 (bv false) fun v9 =>
 iT v9 fun w_3 =>
 iT v9 fun w_4 =>
 cg w_4 Q2K [(gdV w_3 (.val a0))] s_1 fun v12 s_2 =>
 pk v9 v12 (bv false) fun v13 =>
 some (.ret v13, s_2) := (Q5 _ _ _).trans (by kernel_rfl)
end Go.Proofs.Ytinphnakebeloaa