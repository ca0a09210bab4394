/- A part of the proof: G2. -/
import Derived.Test.YtobelgghegmhhaaGreatDoorM4
set_option linter.unusedVariables false
set_option linter.unusedSimpArgs false
namespace Go.Proofs.YtobelgghegmhhaaGreatDoor
open Go Go.Am
set_option linter.unusedVariables false
theorem Q7P (a0 : AV) (a1 : AV) (a2 : AV) (s : St) : cw (.f Q27) [a0, a1, a2] s =
 bx Q3 (.val a0) fun c3 =>
 bx Q7 (.val a2) fun c5 =>
 gA Q7 c5 fun v8 =>
 gA Q3 c3 fun v9 =>
 bs Q3 [v9] fun v10 =>
 ca Q37 [v8, v10] s fun v11 s_1 =>
 nt v11 fun v12 =>
 iF v12 fun w =>
 iF v12 fun w_1 =>
 gL w_1 QM (gdV w (.val a1)) fun v15 =>
 iF v12 fun w_2 =>
 gB w_2 Q1 .gtr v15 (iv 300) fun v16 =>
 pk v12 (bv true) v16 fun v17 =>
 condS v17 (
 ca Q1V [] s_1 fun v18 s_2 =>
 some (.ret v18, s_2)) (
 gA Q3 c3 fun v19 =>
 ca Q10 [v19, (.val a1)] s_1 fun v21 s_3 =>
 bx Q7 v21 fun c =>
 pZ Q7 c fun c7 =>
 gA Q7 c7 fun v22 =>
 gA Q3 c3 fun v23 =>
 cn Q2r [v23, (.val a1)] s_3 fun v25 s_4 =>
 cn Q3s [v22, v25] s_4 fun v26 s_5 =>
 iT v26 fun w_3 =>
 bind1 (gd w_3 (ofSlots (C.ti Q7) (List.take (C.ti Q7).size c5))) fun v28 =>
 iT v26 fun w_4 =>
 back (noPan (cal cw w_4 (tgtV (.val (.fn Z6 [])) [v28]) s_5)) fun v29 s_6 =>
 iT v26 fun w_5 =>
 bind1 (gd w_5 (ofSlots (C.ti Q7) (List.take (C.ti Q7).size c5))) fun v30 =>
 iT v26 fun w_6 =>
 back (noPan (cal cw w_6 (tgtV (.val (.fn Q20 [])) [v30]) s_6)) fun v31 s_7 =>
 iT v26 fun w_7 =>
 gB w_7 Qj .eql v29 v31 fun v32 =>
 pk v26 v32 (bv false) fun v33 =>
 iT v33 fun w_8 =>
 bind1 (gd w_8 (ofSlots (C.ti Q7) (List.take (C.ti Q7).size c5))) fun v35 =>
 iT v33 fun w_9 =>
 back (noPan (cal cw w_9 (tgtV (.val (.fn ZW [])) [v35]) s_7)) fun v36 s_8 =>
 iT v33 fun w_10 =>
 bind1 (gd w_10 (ofSlots (C.ti Q7) (List.take (C.ti Q7).size c5))) fun v37 =>
 iT v33 fun w_11 =>
 back (noPan (cal cw w_11 (tgtV (.val (.fn Q2s [])) [v37]) s_8)) fun v38 s_9 =>
 iT v33 fun w_12 =>
 gB w_12 Q2 .eql v36 v38 fun v39 =>
 pk v33 v39 (bv false) fun v40 =>
 iT v40 fun w_13 =>
 bind1 (gd w_13 (ofSlots (C.ti Q7) (List.take (C.ti Q7).size c7))) fun v42 =>
 iT v40 fun w_14 =>
 back (noPan (cal cw w_14 (tgtV (.val (.fn ZW [])) [v42]) s_9)) fun v43 s_10 =>
 iT v40 fun w_15 =>
 bind1 (gd w_15 (ofSlots (C.ti Q7) (List.take (C.ti Q7).size c7))) fun v44 =>
 iT v40 fun w_16 =>
 back (noPan (cal cw w_16 (tgtV (.val (.fn Q2s [])) [v44]) s_10)) fun v45 s_11 =>
 iT v40 fun w_17 =>
 gB w_17 Q2 .eql v43 v45 fun v46 =>
 pk v40 v46 (bv false) fun v47 =>
 iT v47 fun w_18 =>
 back (noPan (cal cw w_18 (tgtV (.val (.fn Q1V [])) []) s_11)) fun v49 s_12 =>
 pk v47 v49 (bv false) fun v50 =>
 some (.ret v50, s_12)) := (Q5 _ _ _).trans (by kernel_rfl)
noncomputable def Q1r : Slot → List Slot → Slot → Slot → St → Res := fun x1 x2 x7 x8 s => lpD Q37 [.seqR, .seqL, .seqR, .block] Tryz.f8 [(1, .s x1), (2, .var x2), (7, .s x7), (8, .s x8)] s
theorem Q4K : ∀ x1 x2 x7 x8 s_1, Q1r x1 x2 x7 x8 s_1 =
 bn Q1 .lss x8 x7 fun v9 =>
 condS v9 (
 ix Q3 x1 x8 fun v13 =>
 ld Q3 s_1 v13 fun v14 =>
 ca Q1X [v14, (iv 300)] s_1 fun v15 s_2 =>
 nt v15 fun v16 =>
 condS v16 (
 some (.ret (bv false), s_2)) (
 nx x8 fun v17 =>
 Q1r x1 x2 x7 v17 s_2)) (
 ln Q6 x1 fun v19 =>
 bn Q1 .lss v19 (iv 300) fun v20 =>
 iT v20 fun w =>
 iT v20 fun w_1 =>
 gG w_1 w Q3 1 x2 fun v23 =>
 iT v20 fun w_2 =>
 cg w_2 Q1X [v23, (iv 400)] s_1 fun v24 s_3 =>
 pk v20 v24 (bv false) fun v25 =>
 some (.ret v25, s_3)) := by intros; unfold Q1r; exact (Qd _ _ _ _ _ _).trans (by kernel_rfl)
theorem QdB (a0 : AV) (a1 : AV) (s : St) : cw (.f Q37) [a0, a1] s =
 bx Q7 (.val a0) fun c2 =>
 ln Q6 (.val a1) fun v7 =>
 Q1r (.val a1) c2 v7 (iv 0) s := (Q5 _ _ _).trans (by kernel_rfl)
theorem QaM (s : St) : cw (.f Q1V) [] s =
 ca Q02 [(iv 3)] s fun v6 s_1 =>
 ca Q02 [(iv 5)] s_1 fun v7 s_2 =>
 ca Q02 [(iv 3)] s_2 fun v8 s_3 =>
 ca Q0J [v7, v8] s_3 fun v9 s_4 =>
 ca Q0J [v6, v9] s_4 fun v10 s_5 =>
 bs Q1 [(iv 5)] fun v11 =>
 ca Q10 [v10, v11] s_5 fun v12 s_6 =>
 bx Q7 v12 fun c =>
 pZ Q7 c fun c1 =>
 ca Q02 [(iv 0)] s_6 fun v13 s_7 =>
 ca Q02 [(iv 1)] s_7 fun v14 s_8 =>
 ca Q0J [v13, v14] s_8 fun v15 s_9 =>
 bd Q7 [(0, Q1, (iv 2)), (1, Q3, v15)] fun v16 =>
 bx Q7 v16 fun c_1 =>
 pZ Q7 c_1 fun c2 =>
 ca Q02 [(iv 0)] s_9 fun v17 s_10 =>
 ca Q02 [(iv 0)] s_10 fun v18 s_11 =>
 ca Q0J [v17, v18] s_11 fun v19 s_12 =>
 bd Q7 [(0, Q1, (iv 1)), (1, Q3, v19)] fun v20 =>
 bx Q7 v20 fun c_2 =>
 pZ Q7 c_2 fun c3 =>
 gA Q7 c3 fun v22 =>
 bd Q3 [(0, Q8, (iv 2)), (2, Q2, (sv [105, 110, 116]))] fun v23 =>
 bs Q3 [v23] fun v24 =>
 ca Q3v [v22, v24] s_12 fun v25 s_13 =>
 ex v25 0 fun v26 =>
 ex v25 1 fun v27 =>
 bx Q3 v26 fun c_3 =>
 pZ Q3 c_3 fun c4 =>
 gA Q7 c1 fun v28 =>
 cn ZW [v28] s_13 fun v29 s_14 =>
 bn Q2 .eql v29 (sv [39, 97, 32, 45, 62, 32, 95, 97, 32, 45, 62, 32, 39, 97]) fun v30 =>
 iT v30 fun w =>
 bind1 (gd w (ofSlots (C.ti Q7) (List.take (C.ti Q7).size c2))) fun v32 =>
 iT v30 fun w_1 =>
 bind1 (gd w_1 (ofSlots (C.ti Q7) (List.take (C.ti Q7).size c3))) fun v33 =>
 iT v30 fun w_2 =>
 back (noPan (cal cw w_2 (tgtV (.val (.fn ZV [])) [v32, v33]) s_14)) fun v34 s_15 =>
 pk v30 v34 (bv false) fun v35 =>
 iT v35 fun w_3 =>
 bind1 (gd w_3 (ofSlots (C.ti Q7) (List.take (C.ti Q7).size c3))) fun v37 =>
 iT v35 fun w_4 =>
 bind1 (gd w_4 (ofSlots (C.ti Q7) (List.take (C.ti Q7).size c2))) fun v38 =>
 iT v35 fun w_5 =>
 back (noPan (cal cw w_5 (tgtV (.val (.fn ZV [])) [v37, v38]) s_15)) fun v39 s_16 =>
 iT v35 fun w_6 =>
 gN w_6 v39 fun v40 =>
 pk v35 v40 (bv false) fun v41 =>
 iT v41 fun w_7 =>
 iT v41 fun w_8 =>
 gB w_8 QD .eql (gdV w_7 v27) (iv 0) fun v44 =>
 pk v41 v44 (bv false) fun v45 =>
 iT v45 fun w_9 =>
 bind1 (gd w_9 (ofSlots (C.ti Q3) (List.take (C.ti Q3).size c4))) fun v47 =>
 iT v45 fun w_10 =>
 bind1 (gd w_10 (buildS (C.ti Q3).zero [(0, (C.ti Q8).size, (iv 2)), (2, (C.ti Q2).size, (sv [105, 110, 116]))])) fun v48 =>
 iT v45 fun w_11 =>
 bind1 (gd w_11 (buildS (C.ti Q3).zero [(0, (C.ti Q8).size, (iv 2)), (2, (C.ti Q2).size, (sv [105, 110, 116]))])) fun v49 =>
 iT v45 fun w_12 =>
 back (noPan (cal cw w_12 (tgtV (.val (.fn Q0J [])) [v48, v49]) s_16)) fun v50 s_17 =>
 iT v45 fun w_13 =>
 back (noPan (cal cw w_13 (tgtV (.val (.fn Q2p [])) [v47, v50]) s_17)) fun v51 s_18 =>
 pk v45 v51 (bv false) fun v52 =>
 some (.ret v52, s_18) := (Q5 _ _ _).trans (by kernel_rfl)
noncomputable def Q0E : Slot → List Slot → List Slot → Slot → Slot → Slot → Slot → Slot → Slot → Slot → Slot → Slot → St → Res := fun x1_1 x2_1 x4_1 x5_1 x6_1 x8 x16_1 x17_1 x18_1 x23 x24 x25 s => lpD Q10 [.seqR, .seqR, .seqR, .seqR, .seqL, .seqR, .block, .loop, .seqR, .seqR, .seqL, .block, .seqR, .seqL, .seqR, .block] Tryz.f10 [(1, .s x1_1), (2, .var x2_1), (4, .var x4_1), (5, .s x5_1), (6, .s x6_1), (8, .s x8), (16, .s x16_1), (17, .s x17_1), (18, .s x18_1), (23, .s x23), (24, .s x24), (25, .s x25)] s
noncomputable def Zc : Slot → List Slot → List Slot → Slot → Slot → Slot → Slot → Slot → St → Res := fun x1 x2 x4 x5 x6 x16 x17 x18 s => lpD Q10 [.seqR, .seqR, .seqR, .seqR, .seqL, .seqR, .block] Tryz.f10 [(1, .s x1), (2, .var x2), (4, .var x4), (5, .s x5), (6, .s x6), (16, .s x16), (17, .s x17), (18, .s x18)] s
theorem Q4V : ∀ x1_1 x2_1 x4_1 x5_1 x6_1 x8 x16_1 x17_1 x18_1 x23 x24 x25 s_5, Q0E x1_1 x2_1 x4_1 x5_1 x6_1 x8 x16_1 x17_1 x18_1 x23 x24 x25 s_5 =
 bn Q1 .lss x25 x24 fun v26 =>
 condS v26 (
 ix Q1 x23 x25 fun v27 =>
 ld Q1 s_5 v27 fun v28 =>
 ca ZA [x1_1, v28] s_5 fun v31 s_6 =>
 bn Qj .eql v31 x8 fun v33 =>
 condS v33 (
 ld Qk s_6 x5_1 fun v34 =>
 ld Qk s_6 x5_1 fun v36 =>
 bind1 (lenM s_6 v36) fun v37 =>
 upd2 Q1 Q1 s_6 v34 v28 v37 fun _ s_7 =>
 nx x25 fun v38 =>
 Q0E x1_1 x2_1 x4_1 x5_1 x6_1 x8 x16_1 x17_1 x18_1 x23 x24 v38 s_7) (
 nx x25 fun v38_1 =>
 Q0E x1_1 x2_1 x4_1 x5_1 x6_1 x8 x16_1 x17_1 x18_1 x23 x24 v38_1 s_6)) (
 nt x8 fun v40 =>
 condS v40 (
 ld Qk s_5 x5_1 fun v41 =>
 bind1 (lenM s_5 v41) fun v42 =>
 nx x18_1 fun v43 =>
 Zc x1_1 x2_1 x4_1 x5_1 v42 x16_1 x17_1 v43 s_5) (
 nx x18_1 fun v43_1 =>
 Zc x1_1 x2_1 x4_1 x5_1 x6_1 x16_1 x17_1 v43_1 s_5)) := by intros; unfold Q0E; exact (Qd _ _ _ _ _ _).trans (by kernel_rfl)
theorem Q2L : ∀ x1 x2 x4 x5 x6 x16 x17 x18 s_3, Zc x1 x2 x4 x5 x6 x16 x17 x18 s_3 =
 bn Q1 .lss x18 x17 fun v19 =>
 condS v19 (
 ix Qj x16 x18 fun v20 =>
 ld Qj s_3 v20 fun v21 =>
 gA Q3 x2 fun v22 =>
 ca Q6D [v22] s_3 fun v23 s_4 =>
 ln QM v23 fun v24 =>
 Q0E x1 x2 x4 x5 x6 v21 x16 x17 x18 v23 v24 (iv 0) s_4) (
 gA Q3 x2 fun v45 =>
 bind1 (fnS Q21 [x5]) fun v46 =>
 ca Q0L [v45, v46] s_3 fun v47 s_8 =>
 bd Q7 [(0, Q1, x6), (1, Q3, v47)] fun v48 =>
 bx Q7 v48 fun c_2 =>
 pt x4 0 c_2 fun c4_1 =>
 gA Q7 c4_1 fun v => some (.ret v, s_8)) := by intros; unfold Zc; exact (Qd _ _ _ _ _ _).trans (by kernel_rfl)
theorem Qef (a0 : AV) (a1 : AV) (s : St) : cw (.f Q10) [a0, a1] s =
 bx Q3 (.val a0) fun c2 =>
 gA Q3 c2 fun v11 =>
 ca Q2D [v11] s fun v12 s_1 =>
 nt v12 fun v13 =>
 condS v13 (
 bd Q7 [] fun v14 =>
 bx Q7 v14 fun c =>
 pZ Q7 c fun c4 =>
 gA Q7 c4 fun v => some (.ret v, s_1)) (
 bx Qk (.val (.mp s_1.locs.length)) fun c_1 =>
 sto (St.addLoc (St.addLoc s_1 (.map [] 0)) (.var (List.map .val (C.ti Qk).zero))) (.val (.vp (St.addLoc s_1 (.map [] 0)).locs.length 0)) c_1 fun s_2 =>
 bs Qj [(bv false), (bv true)] fun v16 =>
 ln Q2W v16 fun v17 =>
 Zc (.val a1) c2 ((List.map .val (C.ti Q7).zero)) ((.val (.vp (St.addLoc s_1 (.map [] 0)).locs.length 0))) (iv 0) v16 v17 (iv 0) s_2) := (Q5 _ _ _).trans (by kernel_rfl)
theorem QaK (a0 : AV) (a1 : AV) (s : St) : cw (.f Q3s) [a0, a1] s =
 bx Q7 (.val a0) fun c2 =>
 bx Q7 (.val a1) fun c3 =>
 gC Q1 0 c2 fun v6 =>
 gC Q1 0 c3 fun v8 =>
 bn Q1 .eql v6 v8 fun v9 =>
 iT v9 fun w =>
 iT v9 fun w_1 =>
 gG w_1 w Q3 1 c2 fun v12 =>
 iT v9 fun w_2 =>
 iT v9 fun w_3 =>
 gG w_3 w_2 Q3 1 c3 fun v14 =>
 iT v9 fun w_4 =>
 cg w_4 Q2p [v12, v14] s fun v15 s_1 =>
 pk v9 v15 (bv false) fun v16 =>
 some (.ret v16, s_1) := (Q5 _ _ _).trans (by kernel_rfl)
noncomputable def Q1b : Slot → List Slot → List Slot → Slot → Slot → Slot → Slot → Slot → St → Res := fun x1_1 x2_1 x4_1 x5_1 x6_1 x8 x39 x40 s => lpD Q2r [.seqR, .seqR, .seqR, .seqR, .seqR, .seqR, .seqL, .seqR, .block] Tryz.f12 [(1, .s x1_1), (2, .var x2_1), (4, .var x4_1), (5, .s x5_1), (6, .s x6_1), (8, .s x8), (39, .s x39), (40, .s x40)] s
noncomputable def Q1a : Slot → List Slot → List Slot → Slot → Slot → Slot → Slot → St → Res := fun x1 x2 x4 x5 x6 x17 x18 s => lpD Q2r [.seqR, .seqR, .seqR, .seqR, .seqL, .seqR, .block] Tryz.f12 [(1, .s x1), (2, .var x2), (4, .var x4), (5, .s x5), (6, .s x6), (17, .s x17), (18, .s x18)] s
theorem Q5w : ∀ x1_1 x2_1 x4_1 x5_1 x6_1 x8 x39 x40 s_6, Q1b x1_1 x2_1 x4_1 x5_1 x6_1 x8 x39 x40 s_6 =
 bn Q1 .lss x40 x39 fun v41 =>
 condS v41 (
 ix Q1 x5_1 x40 fun v46 =>
 ld Q1 s_6 v46 fun v47 =>
 ca Q1M [x1_1, v47] s_6 fun v48 s_7 =>
 condS v48 (
 ix Q1 x5_1 x40 fun v52 =>
 ld Q1 s_7 v52 fun v53 =>
 bs Q1 [v53] fun v54 =>
 ap Q1 s_7 x6_1 v54 fun v55 s_8 =>
 nx x40 fun v56 =>
 Q1b x1_1 x2_1 x4_1 x5_1 v55 x8 x39 v56 s_8) (
 nx x40 fun v56_1 =>
 Q1b x1_1 x2_1 x4_1 x5_1 x6_1 x8 x39 v56_1 s_7)) (
 gA Q3 x2_1 fun v58 =>
 ca Zl [v58, x6_1] s_6 fun v60 s_9 =>
 bd Q7 [(0, Q1, x8), (1, Q3, v60)] fun v61 =>
 bx Q7 v61 fun c_1 =>
 pt x4_1 0 c_1 fun c4_1 =>
 gA Q7 c4_1 fun v => some (.ret v, s_9)) := by intros; unfold Q1b; exact (Qd _ _ _ _ _ _).trans (by kernel_rfl)
theorem Q5v : ∀ x1 x2 x4 x5 x6 x17 x18 s_3, Q1a x1 x2 x4 x5 x6 x17 x18 s_3 =
 bn Q1 .lss x18 x17 fun v19 =>
 condS v19 (
 ix Q1 x5 x18 fun v24 =>
 ld Q1 s_3 v24 fun v25 =>
 ca Q1M [x1, v25] s_3 fun v26 s_4 =>
 nt v26 fun v27 =>
 condS v27 (
 ix Q1 x5 x18 fun v31 =>
 ld Q1 s_4 v31 fun v32 =>
 bs Q1 [v32] fun v33 =>
 ap Q1 s_4 x6 v33 fun v34 s_5 =>
 nx x18 fun v35 =>
 Q1a x1 x2 x4 x5 v34 x17 v35 s_5) (
 nx x18 fun v35_1 =>
 Q1a x1 x2 x4 x5 x6 x17 v35_1 s_4)) (
 ln QM x6 fun v37 =>
 ln QM x5 fun v39 =>
 Q1b x1 x2 x4 x5 x6 v37 v39 (iv 0) s_3) := by intros; unfold Q1a; exact (Qd _ _ _ _ _ _).trans (by kernel_rfl)
theorem Qf9 (a0 : AV) (a1 : AV) (s : St) : cw (.f Q2r) [a0, a1] s =
 bx Q3 (.val a0) fun c2 =>
 gA Q3 c2 fun v10 =>
 ca Q1Y [v10] s fun v11 s_1 =>
 nt v11 fun v12 =>
 condS v12 (
 bd Q7 [] fun v13 =>
 bx Q7 v13 fun c =>
 pZ Q7 c fun c4 =>
 gA Q7 c4 fun v => some (.ret v, s_1)) (
 gA Q3 c2 fun v14 =>
 ca Q2q [v14] s_1 fun v15 s_2 =>
 ln QM v15 fun v17 =>
 Q1a (.val a1) c2 ((List.map .val (C.ti Q7).zero)) v15 (.val (.nils)) v17 (iv 0) s_2) := (Q5 _ _ _).trans (by kernel_rfl)
theorem Qaa (a0 : AV) (s : St) : cw (.f Z6) [a0] s =
 bx Q7 (.val a0) fun c1 =>
 gC Q3 1 c1 fun v4 =>
 ca Q2D [v4] s fun v5 s_1 =>
 iT v5 fun w =>
 iT v5 fun w_1 =>
 gG w_1 w Q1 0 c1 fun v8 =>
 iT v5 fun w_2 =>
 gB w_2 Q1 .geq v8 (iv 0) fun v9 =>
 pk v5 v9 (bv false) fun v10 =>
 iT v10 fun w_3 =>
 iT v10 fun w_4 =>
 gG w_4 w_3 Q1 0 c1 fun v13 =>
 iT v10 fun w_5 =>
 gB w_5 Q1 .leq v13 (iv 256) fun v14 =>
 pk v10 v14 (bv false) fun v15 =>
 some (.ret v15, s_1) := (Q5 _ _ _).trans (by kernel_rfl)
theorem QaX (a0 : AV) (s : St) : cw (.f Q20) [a0] s =
 bx Q7 (.val a0) fun c1 =>
 gC Q1 0 c1 fun v4 =>
 bn Q1 .geq v4 (iv 0) fun v5 =>
 iT v5 fun w =>
 iT v5 fun w_1 =>
 gG w_1 w Q1 0 c1 fun v8 =>
 iT v5 fun w_2 =>
 gB w_2 Q1 .leq v8 (iv 256) fun v9 =>
 pk v5 v9 (bv false) fun v10 =>
 iT v10 fun w_3 =>
 iT v10 fun w_4 =>
 gG w_4 w_3 Q3 1 c1 fun v13 =>
 iT v10 fun w_5 =>
 cg w_5 Q1Y [v13] s fun v14 s_1 =>
 pk v10 v14 (bv false) fun v15 =>
 some (.ret v15, s_1) := (Q5 _ _ _).trans (by kernel_rfl)
theorem Q5A (a0 : AV) (s : St) : cw (.f ZW) [a0] s =
 bx Q7 (.val a0) fun c1 =>
 bindA (avs c1) fun l1 =>
 ld Q7 s (.val (.cp l1)) fun v3 =>
 ca Z6 [v3] s fun v4 s_1 =>
 nt v4 fun v5 =>
 condS v5 (
 some (.ret (sv []), s_1)) (
 fa 1 (.val (.cp l1)) fun v6 =>
 ld Q3 s_1 v6 fun v7 =>
 bind1 (fnS Q1h [(.val (.cp l1))]) fun v8 =>
 ca Q0L [v7, v8] s_1 fun v9 s_2 =>
 ca Q39 [v9] s_2 fun v10 s_3 =>
 some (.ret v10, s_3)) := (Q5 _ _ _).trans (by kernel_rfl)
theorem QcB (a0 : AV) (s : St) : cw (.f Q2s) [a0] s =
 bx Q7 (.val a0) fun c1 =>
 gA Q7 c1 fun v3 =>
 ca Q20 [v3] s fun v4 s_1 =>
 nt v4 fun v5 =>
 condS v5 (
 some (.ret (sv []), s_1)) (
 gC Q3 1 c1 fun v7 =>
 gC Q1 0 c1 fun v9 =>
 ca ZS [v7, v9] s_1 fun v10 s_2 =>
 some (.ret v10, s_2)) := (Q5 _ _ _).trans (by kernel_rfl)
theorem Qb0 (a0 : AV) (a1 : AV) (s : St) : cw (.f Q3v) [a0, a1] s =
 bx Q7 (.val a0) fun c2 =>
 gA Q7 c2 fun v7 =>
 ca Z6 [v7] s fun v8 s_1 =>
 nt v8 fun v9 =>
 iF v9 fun w =>
 iF v9 fun w_1 =>
 gL w_1 Q6 (gdV w (.val a1)) fun v12 =>
 iF v9 fun w_2 =>
 iF v9 fun w_3 =>
 gG w_3 w_2 Q1 0 c2 fun v14 =>
 iF v9 fun w_4 =>
 gB w_4 Q1 .neq v12 v14 fun v15 =>
 pk v9 (bv true) v15 fun v16 =>
 iF v16 fun w_5 =>
 iF v16 fun w_6 =>
 cg w_6 Qm [(gdV w_5 (.val a1)), (.val (.fn Zt []))] s_1 fun v19 s_2 =>
 pk v16 (bv true) v19 fun v20 =>
 condS v20 (
 bd Q3 [] fun v21 =>
 bx Q3 v21 fun c =>
 pZ Q3 c fun c4 =>
 rt [(ofSlots (C.ti Q3) (List.take (C.ti Q3).size c4)), (some (iv 1))] s_2) (
 gC Q3 1 c2 fun v23 =>
 ca Q8D [v23, (.val a1)] s_2 fun v25 s_3 =>
 bx Q3 v25 fun c_1 =>
 pZ Q3 c_1 fun c6 =>
 gA Q3 c6 fun v26 =>
 ca Q2g [v26] s_3 fun v27 s_4 =>
 bn Q1 .gtr v27 (iv 256) fun v28 =>
 condS v28 (
 bd Q3 [] fun v29 =>
 bx Q3 v29 fun c_2 =>
 pZ Q3 c_2 fun c4_1 =>
 rt [(ofSlots (C.ti Q3) (List.take (C.ti Q3).size c4_1)), (some (iv 4))] s_4) (
 gA Q3 c6 fun v30 =>
 bx Q3 v30 fun c_3 =>
 pZ Q3 c_3 fun c4_2 =>
 rt [(ofSlots (C.ti Q3) (List.take (C.ti Q3).size c4_2)), (some (iv 0))] s_4)) := (Q5 _ _ _).trans (by kernel_rfl)
theorem Qcw (a0 : AV) (a1 : AV) (s : St) : cw (.f Q2p) [a0, a1] s =
 bx Q3 (.val a0) fun c2 =>
 bx Q3 (.val a1) fun c3 =>
 gA Q3 c2 fun v5 =>
 gA Q3 c3 fun v6 =>
 ca Q0p [v5, v6] s fun v7 s_1 =>
 some (.ret v7, s_1) := (Q5 _ _ _).trans (by kernel_rfl)
noncomputable def Q0D : List Slot → List Slot → Slot → Slot → List Slot → Slot → Slot → St → Res := fun x2_1 x3_1 x5_1 x6_1 x7 x124 x125 s => lpD ZV [.seqR, .scope, .seqR, .seqR, .seqR, .seqR, .seqL, .block, .loop, .seqR, .block, .seqR, .seqR, .seqR, .seqR, .seqR, .block] Tryz.f20 [(2, .var x2_1), (3, .var x3_1), (5, .s x5_1), (6, .s x6_1), (7, .var x7), (124, .s x124), (125, .s x125)] s
noncomputable def QU : List Slot → List Slot → Slot → Slot → St → Res := fun x2 x3 x5 x6 s => lpD ZV [.seqR, .scope, .seqR, .seqR, .seqR, .seqR, .seqL, .block] Tryz.f20 [(2, .var x2), (3, .var x3), (5, .s x5), (6, .s x6)] s
theorem Q3K : ∀ x2_1 x3_1 x5_1 x6_1 x7 x124 x125 s_7, Q0D x2_1 x3_1 x5_1 x6_1 x7 x124 x125 s_7 =
 bn Q1 .lss x125 x124 fun v126 =>
 condS v126 (
 gC Q6 3 x7 fun v131 =>
 ix Q3 v131 x125 fun v133 =>
 ld Q3 s_7 v133 fun v134 =>
 gC Q6 7 x7 fun v137 =>
 ix Q3 v137 x125 fun v139 =>
 ld Q3 s_7 v139 fun v140 =>
 bd Qt [(0, Q3, v134), (4, Q3, v140)] fun v141 =>
 bs Qt [v141] fun v142 =>
 bind2 (appendV Qt (C.ti Qt) s_7 x6_1 v142) fun v143 s_8 =>
 nx x125 fun v144 =>
 Q0D x2_1 x3_1 x5_1 v143 x7 x124 v144 s_8) (
 QU x2_1 x3_1 x5_1 x6_1 s_7) := by intros; unfold Q0D; exact (Qd _ _ _ _ _ _).trans (by kernel_rfl)
theorem Q3J : ∀ x2 x3 x5 x6 s_4, QU x2 x3 x5 x6 s_4 =
 ln Q0k x6 fun v27 =>
 bn Q1 .gtr v27 (iv 0) fun v28 =>
 condS v28 (
 ln Q0k x6 fun v31 =>
 bn Q1 .sub v31 (iv 1) fun v32 =>
 ix Qt x6 v32 fun v33 =>
 ld Qt s_4 v33 fun v34 =>
 bx Qt v34 fun c =>
 pZ Qt c fun c7 =>
 ln Q0k x6 fun v37 =>
 bn Q1 .sub v37 (iv 1) fun v38 =>
 bind1 (sliceS (C.ti Q0k) (C.ti Qt).size x6 none (some v38) none) fun v39 =>
 gC Q8 0 c7 fun v42 =>
 bn Q8 .eql v42 (iv 1) fun v43 =>
 condS v43 (
 gC Q1 1 c7 fun v46 =>
 gC Q1 0 x2 fun v48 =>
 bn Q1 .lss v46 v48 fun v49 =>
 condS v49 (
 gC Q1 1 c7 fun v54 =>
 lk Q1 Q3 s_4 x5 v54 true fun v55 =>
 ex v55 0 fun v56 =>
 ex v55 1 fun v57 =>
 bx Q3 v56 fun c_1 =>
 pZ Q3 c_1 fun c8 =>
 condS v57 (
 gA Q3 c8 fun v59 =>
 gC Q3 4 c7 fun v61 =>
 ca Q2f [v59, v61] s_4 fun v62 s_5 =>
 nt v62 fun v63 =>
 condS v63 (
 some (.ret (bv false), s_5)) (
 QU x2 x3 x5 v39 s_5)) (
 gC Q1 1 c7 fun v67 =>
 gC Q3 4 c7 fun v69 =>
 upd2 Q1 Q3 s_4 x5 v67 v69 fun _ s_6 =>
 QU x2 x3 x5 v39 s_6)) (
 gC Q8 4 c7 fun v72 =>
 bn Q8 .neq v72 (iv 1) fun v73 =>
 iF v73 fun w_3 =>
 iF v73 fun w_4 =>
 chkP w_3 w_4 fun _ =>
 iF v73 fun w_5 =>
 bind1 (gd w_5 (bif (w_3 && w_4) then (ofSlots (C.ti Q1) (List.take (C.ti Q1).size (List.drop 5 c7))) else none)) fun v77 =>
 iF v73 fun w_6 =>
 iF v73 fun w_7 =>
 gG w_7 w_6 Q1 0 x3 fun v79 =>
 iF v73 fun w_8 =>
 gB w_8 Q1 .lss v77 v79 fun v80 =>
 pk v73 (bv true) v80 fun v81 =>
 iF v81 fun w_9 =>
 iF v81 fun w_10 =>
 chkP w_9 w_10 fun _ =>
 iF v81 fun w_11 =>
 bind1 (gd w_11 (bif (w_9 && w_10) then (ofSlots (C.ti Q1) (List.take (C.ti Q1).size (List.drop 5 c7))) else none)) fun v85 =>
 iF v81 fun w_12 =>
 iF v81 fun w_13 =>
 gG w_13 w_12 Q1 0 x3 fun v87 =>
 iF v81 fun w_14 =>
 gB w_14 Q1 .sub v85 v87 fun v88 =>
 iF v81 fun w_15 =>
 iF v81 fun w_16 =>
 chkP w_15 w_16 fun _ =>
 iF v81 fun w_17 =>
 bind1 (gd w_17 (bif (w_15 && w_16) then (ofSlots (C.ti Q1) (List.take (C.ti Q1).size (List.drop 1 c7))) else none)) fun v91 =>
 iF v81 fun w_18 =>
 iF v81 fun w_19 =>
 gG w_19 w_18 Q1 0 x2 fun v93 =>
 iF v81 fun w_20 =>
 gB w_20 Q1 .sub v91 v93 fun v94 =>
 iF v81 fun w_21 =>
 gB w_21 Q1 .neq v88 v94 fun v95 =>
 pk v81 (bv true) v95 fun v96 =>
 condS v96 (
 some (.ret (bv false), s_4)) (
 QU x2 x3 x5 v39 s_4))) (
 gC Q8 4 c7 fun v99 =>
 bn Q8 .neq v99 (iv 2) fun v100 =>
 iF v100 fun w_22 =>
 iF v100 fun w_23 =>
 chkP w_22 w_23 fun _ =>
 iF v100 fun w_24 =>
 bind1 (gd w_24 (bif (w_22 && w_23) then (ofSlots (C.ti Q2) (List.take (C.ti Q2).size (List.drop 2 c7))) else none)) fun v104 =>
 iF v100 fun w_25 =>
 iF v100 fun w_26 =>
 chkP w_25 w_26 fun _ =>
 iF v100 fun w_27 =>
 bind1 (gd w_27 (bif (w_25 && w_26) then (ofSlots (C.ti Q2) (List.take (C.ti Q2).size (List.drop 6 c7))) else none)) fun v107 =>
 iF v100 fun w_28 =>
 gB w_28 Q2 .neq v104 v107 fun v108 =>
 pk v100 (bv true) v108 fun v109 =>
 iF v109 fun w_29 =>
 iF v109 fun w_30 =>
 chkP w_29 w_30 fun _ =>
 iF v109 fun w_31 =>
 bind1 (gd w_31 (bif (w_29 && w_30) then (ofSlots (C.ti Q6) (List.take (C.ti Q6).size (List.drop 3 c7))) else none)) fun v113 =>
 iF v109 fun w_32 =>
 gL w_32 Q6 v113 fun v114 =>
 iF v109 fun w_33 =>
 iF v109 fun w_34 =>
 chkP w_33 w_34 fun _ =>
 iF v109 fun w_35 =>
 bind1 (gd w_35 (bif (w_33 && w_34) then (ofSlots (C.ti Q6) (List.take (C.ti Q6).size (List.drop 7 c7))) else none)) fun v117 =>
 iF v109 fun w_36 =>
 gL w_36 Q6 v117 fun v118 =>
 iF v109 fun w_37 =>
 gB w_37 Q1 .neq v114 v118 fun v119 =>
 pk v109 (bv true) v119 fun v120 =>
 condS v120 (
 some (.ret (bv false), s_4)) (
 gC Q6 3 c7 fun v123 =>
 ln Q6 v123 fun v124 =>
 Q0D x2 x3 x5 v39 c7 v124 (iv 0) s_4))) (
 some (.ret (bv true), s_4)) := by intros; unfold QU; exact (Qd _ _ _ _ _ _).trans (by kernel_rfl)
theorem Qb1 (a0 : AV) (a1 : AV) (s : St) : cw (.f ZV) [a0, a1] s =
 bx Q7 (.val a0) fun c2 =>
 bx Q7 (.val a1) fun c3 =>
 gA Q7 c2 fun v11 =>
 ca Z6 [v11] s fun v12 s_1 =>
 nt v12 fun v13 =>
 iF v13 fun w =>
 bind1 (gd w (ofSlots (C.ti Q7) (List.take (C.ti Q7).size c3))) fun v15 =>
 iF v13 fun w_1 =>
 cg w_1 Z6 [v15] s_1 fun v16 s_2 =>
 iF v13 fun w_2 =>
 gN w_2 v16 fun v17 =>
 pk v13 (bv true) v17 fun v18 =>
 condS v18 (
 some (.ret (bv false), s_2)) (
 gC Q3 1 c2 fun v21 =>
 gC Q3 1 c3 fun v23 =>
 bd Qt [(0, Q3, v21), (4, Q3, v23)] fun v24 =>
 bind2 (bslV Qt (C.ti Qt) (St.addLoc s_2 (.map [] 0)) [v24]) fun v25 s_3 =>
 QU c2 c3 (.val (.mp s_2.locs.length)) v25 s_3) := (Q5 _ _ _).trans (by kernel_rfl)
theorem Qgt (a0 : AV) (s : St) : cw (.f Q02) [a0] s =
 bd Q3 [(0, Q8, (iv 1)), (1, Q1, (.val a0))] fun v4 =>
 bx Q3 v4 fun c =>
 pZ Q3 c fun c2 =>
 gA Q3 c2 fun v => some (.ret v, s) := (Q5 _ _ _).trans (by kernel_rfl)
theorem QaT (a0 : AV) (a1 : AV) (s : St) : cw (.f Q1X) [a0, a1] s =
 bx Q3 (.val a0) fun c2 =>
 gA Q3 c2 fun v5 =>
 ca Q0U [v5, (.val a1), (iv 0)] s fun v7 s_1 =>
 bn Q1 .geq v7 (iv 0) fun v8 =>
 some (.ret v8, s_1) := (Q5 _ _ _).trans (by kernel_rfl)
theorem QeZ (a0 : AV) (a1 : AV) (s : St) : cw (.f Q0J) [a0, a1] s =
 bx Q3 (.val a0) fun c2 =>
 bx Q3 (.val a1) fun c3 =>
 gA Q3 c2 fun v5 =>
 gA Q3 c3 fun v6 =>
 bs Q3 [v5, v6] fun v7 =>
 bd Q3 [(0, Q8, (iv 2)), (2, Q2, (sv [45, 62])), (3, Q6, v7)] fun v8 =>
 bx Q3 v8 fun c =>
 pZ Q3 c fun c4 =>
 gA Q3 c4 fun v => some (.ret v, s) := (Q5 _ _ _).trans (by kernel_rfl)
theorem Qfk (a0 : AV) (s : St) : cw (.f Q2D) [a0] s =
 bx Q3 (.val a0) fun c1 =>
 bx Q1 (iv 256) fun c =>
 sto (St.addLoc s (.var (List.map .val (C.ti Q1).zero))) (.val (.vp s.locs.length 0)) c fun s_1 =>
 bind1 (fnS Q2E [(.val (.vp s.locs.length 0)), (.val (.vp s_1.locs.length 0))]) fun v5 =>
 bx Qn v5 fun c_1 =>
 sto (St.addLoc s_1 (.var (List.map .val (C.ti Qn).zero))) (.val (.vp s_1.locs.length 0)) c_1 fun s_2 =>
 ld Qn s_2 (.val (.vp s_1.locs.length 0)) fun v6 =>
 gA Q3 c1 fun v7 =>
 back (cal cw true (tgtV v6 [v7]) s_2) fun v8 s_3 =>
 some (.ret v8, s_3) := (Q5 _ _ _).trans (by kernel_rfl)
theorem QgN (a0 : AV) (s : St) : cw (.f Q6D) [a0] s =
 bx Q3 (.val a0) fun c1 =>
 gA Q3 c1 fun v6 =>
 ca Q5N [v6] s fun v7 s_1 =>
 ex v7 0 fun v8 =>
 ex v7 1 fun v9 =>
 bx Q3 v8 fun c =>
 pZ Q3 c fun c3 =>
 some (.ret v9, s_1) := (Q5 _ _ _).trans (by kernel_rfl)
theorem Q3p (a0 : AV) (a1 : AV) (s : St) : cw (.f ZA) [a0, a1] s =
 ca Zi [(.val a0), (.val a1)] s fun v7 s_1 =>
 bn Q1 .geq v7 (iv 0) fun v8 =>
 some (.ret v8, s_1) := (Q5 _ _ _).trans (by kernel_rfl)
theorem Q7U (a0 : AV) (a1 : AV) (s : St) : cw (.f Q0L) [a0, a1] s =
 bx Q3 (.val a0) fun c2 =>
 bx QN (.val a1) fun c3 =>
 bindA (avs c3) fun l3 =>
 bind1 (fnS Zn [(.val (.cp l3)), (.val (.vp s.locs.length 0))]) fun v6 =>
 bx Qi v6 fun c =>
 sto (St.addLoc s (.var (List.map .val (C.ti Qi).zero))) (.val (.vp s.locs.length 0)) c fun s_1 =>
 ld Qi s_1 (.val (.vp s.locs.length 0)) fun v7 =>
 gA Q3 c2 fun v8 =>
 back (cal cw true (tgtV v7 [v8]) s_1) fun v9 s_2 =>
 bx Q3 v9 fun c_1 =>
 pZ Q3 c_1 fun c4 =>
 gA Q3 c4 fun v => some (.ret v, s_2) := (Q5 _ _ _).trans (by kernel_rfl)
theorem Qb2 (a0 : AV) (a1 : AV) (s : St) : cw (.f Q21) [a0, a1] s =
 ld Qk s (.val a1) fun v4 =>
 lk Q1 Q1 s v4 (.val a0) false fun v6 =>
 ca ZE [v6] s fun v7 s_1 =>
 bx Q3 v7 fun c =>
 pZ Q3 c fun c3 =>
 gA Q3 c3 fun v => some (.ret v, s_1) := (Q5 _ _ _).trans (by kernel_rfl)
theorem Q7m (a0 : AV) (s : St) : cw (.f ZE) [a0] s =
 bd Q3 [(0, Q8, (iv 1)), (1, Q1, (.val a0))] fun v4 =>
 bx Q3 v4 fun c =>
 pZ Q3 c fun c2 =>
 gA Q3 c2 fun v => some (.ret v, s) := (Q5 _ _ _).trans (by kernel_rfl)
theorem QaV (a0 : AV) (s : St) : cw (.f Q1Y) [a0] s =
 bx Q3 (.val a0) fun c1 =>
 gA Q3 c1 fun v3 =>
 ca Q4a [v3] s fun v4 s_1 =>
 bn Q1 .leq v4 (iv 256) fun v5 =>
 iT v5 fun w =>
 bind1 (gd w (ofSlots (C.ti Q3) (List.take (C.ti Q3).size c1))) fun v7 =>
 iT v5 fun w_1 =>
 cg w_1 Q1z [v7] s_1 fun v8 s_2 =>
 pk v5 v8 (bv false) fun v9 =>
 some (.ret v9, s_2) := (Q5 _ _ _).trans (by kernel_rfl)
noncomputable def ZZ : Slot → Slot → Slot → St → Res := fun x3 x4 x5 s => lpD Q2q [.seqR, .seqR, .seqR, .seqL, .seqR, .block] Tryz.f35 [(3, .s x3), (4, .s x4), (5, .s x5)] s
theorem Q4o : ∀ x3 x4 x5 s_2, ZZ x3 x4 x5 s_2 =
 ln Z8 x4 fun v10 =>
 bn Q1 .lss x5 v10 fun v11 =>
 condS v11 (
 ix Ql x4 x5 fun v16 =>
 fa 22 v16 fun v17 =>
 fa 0 v17 fun v18 =>
 ld Q8 s_2 v18 fun v19 =>
 bn Q8 .eql v19 (iv 1) fun v20 =>
 iT v20 fun w =>
 iT v20 fun w_1 =>
 iT v20 fun w_2 =>
 iT v20 fun w_3 =>
 bind1 (gd w_3 (ixS (C.ti Ql).size (gdV w_1 x4) (gdV w_2 x5))) fun v25 =>
 iT v20 fun w_4 =>
 bind1 (gd w_4 (faV 22 v25)) fun v26 =>
 iT v20 fun w_5 =>
 bind1 (gd w_5 (faV 1 v26)) fun v27 =>
 iT v20 fun w_6 =>
 bind1 (gd w_6 (ldV (C.ti Q1) false s_2 v27)) fun v28 =>
 iT v20 fun w_7 =>
 cg w_7 Q1Z [(gdV w x3), v28] s_2 fun v29 s_3 =>
 iT v20 fun w_8 =>
 gB w_8 Q1 .lss v29 (iv 0) fun v30 =>
 pk v20 v30 (bv false) fun v31 =>
 condS v31 (
 ix Ql x4 x5 fun v35 =>
 fa 22 v35 fun v36 =>
 fa 1 v36 fun v37 =>
 ld Q1 s_3 v37 fun v38 =>
 bs Q1 [v38] fun v39 =>
 ap Q1 s_3 x3 v39 fun v40 s_4 =>
 nx x5 fun v13 =>
 ZZ v40 x4 v13 s_4) (
 nx x5 fun v13_1 =>
 ZZ x3 x4 v13_1 s_3)) (
 some (.ret x3, s_2)) := by intros; unfold ZZ; exact (Qd _ _ _ _ _ _).trans (by kernel_rfl)
theorem Qcy (a0 : AV) (s : St) : cw (.f Q2q) [a0] s =
 bx Q3 (.val a0) fun c1 =>
 gA Q3 c1 fun v6 =>
 ca Za [v6, (iv 0)] s fun v7 s_1 =>
 ZZ (.val (.nils)) v7 (iv 0) s_1 := (Q5 _ _ _).trans (by kernel_rfl)
noncomputable def Q1u : Slot → Slot → Slot → Slot → St → Res := fun x0 x1 x7 x8 s => lpD Q1M [.seqR, .seqL, .seqR, .block] Tryz.f36 [(0, .s x0), (1, .s x1), (7, .s x7), (8, .s x8)] s
theorem Q4T : ∀ x0 x1 x7 x8 s_1, Q1u x0 x1 x7 x8 s_1 =
 bn Q1 .lss x8 x7 fun v9 =>
 condS v9 (
 ix Q1 x0 x8 fun v13 =>
 ld Q1 s_1 v13 fun v14 =>
 bn Q1 .eql v14 x1 fun v16 =>
 condS v16 (
 some (.ret (bv true), s_1)) (
 nx x8 fun v17 =>
 Q1u x0 x1 x7 v17 s_1)) (
 some (.ret (bv false), s_1)) := by intros; unfold Q1u; exact (Qd _ _ _ _ _ _).trans (by kernel_rfl)
theorem Qec (a0 : AV) (a1 : AV) (s : St) : cw (.f Q1M) [a0, a1] s =
 ln QM (.val a0) fun v7 =>
 Q1u (.val a0) (.val a1) v7 (iv 0) s := (Q5 _ _ _).trans (by kernel_rfl)
noncomputable def Q0d : Slot → List Slot → List Slot → List Slot → Slot → Slot → St → Res := fun x1_2 x2_2 x4_2 x6 x30 x31 s => lpD Zl [.seqR, .seqR, .seqR, .seqR, .seqL, .seqR, .block] Tryz.f37 [(1, .s x1_2), (2, .var x2_2), (4, .var x4_2), (6, .var x6), (30, .s x30), (31, .s x31)] s
noncomputable def Q0b : Slot → List Slot → List Slot → St → Res := fun x1_1 x2_1 x4_1 s => pwD Zl [.seqR, .seqR] Tryz.f37 [(1, .s x1_1), (2, .var x2_1), (4, .var x4_1)] s
noncomputable def Q0c : Slot → List Slot → List Slot → Slot → Slot → St → Res := fun x1 x2 x4 x12 x13 s => lpD Zl [.seqR, .seqL, .seqR, .thn, .seqR, .block] Tryz.f37 [(1, .s x1), (2, .var x2), (4, .var x4), (12, .s x12), (13, .s x13)] s
theorem Q3m : ∀ x1_2 x2_2 x4_2 x6 x30 x31 s_3, Q0d x1_2 x2_2 x4_2 x6 x30 x31 s_3 =
 bn Q1 .lss x31 x30 fun v32 =>
 condS v32 (
 gC Q6 3 x6 fun v35 =>
 gC Q6 3 x2_2 fun v37 =>
 ix Q3 v37 x31 fun v39 =>
 ld Q3 s_3 v39 fun v40 =>
 cn Zl [v40, x1_2] s_3 fun v42 s_4 =>
 bs Q3 [v42] fun v43 =>
 ap Q3 s_4 v35 v43 fun v44 s_5 =>
 bx Q6 v44 fun c_3 =>
 pt x6 3 c_3 fun c6_2 =>
 nx x31 fun v46 =>
 Q0d x1_2 x2_2 x4_2 c6_2 x30 v46 s_5) (
 gA Q3 x6 fun v47 =>
 bx Q3 v47 fun c_4 =>
 pt x4_2 0 c_4 fun c4_1 =>
 gA Q3 c4_1 fun v => some (.ret v, s_3)) := by intros; unfold Q0d; exact (Qd _ _ _ _ _ _).trans (by kernel_rfl)
theorem Q7j : ∀ x1_1 x2_1 x4_1 s_2, Q0b x1_1 x2_1 x4_1 s_2 =
 gA Q3 x2_1 fun v26 =>
 bx Q3 v26 fun c_1 =>
 pZ Q3 c_1 fun c6 =>
 bx Q6 (.val (.nils)) fun c_2 =>
 pt c6 3 c_2 fun c6_1 =>
 gC Q6 3 x2_1 fun v29 =>
 ln Q6 v29 fun v30 =>
 Q0d x1_1 x2_1 x4_1 c6_1 v30 (iv 0) s_2 := by intros; unfold Q0b; exact (Q08 _).trans (by kernel_rfl)
theorem Q3l : ∀ x1 x2 x4 x12 x13 s_1, Q0c x1 x2 x4 x12 x13 s_1 =
 bn Q1 .lss x13 x12 fun v14 =>
 condS v14 (
 ix Q1 x1 x13 fun v18 =>
 ld Q1 s_1 v18 fun v19 =>
 gC Q1 1 x2 fun v21 =>
 bn Q1 .eql v19 v21 fun v22 =>
 condS v22 (
 bd Q3 [(0, Q8, (iv 1)), (1, Q1, x13)] fun v24 =>
 bx Q3 v24 fun c =>
 pt x4 0 c fun c4 =>
 gA Q3 c4 fun v => some (.ret v, s_1)) (
 nx x13 fun v25 =>
 Q0c x1 x2 x4 x12 v25 s_1)) (
 Q0b x1 x2 x4 s_1) := by intros; unfold Q0c; exact (Qd _ _ _ _ _ _).trans (by kernel_rfl)
theorem Qa7 (a0 : AV) (a1 : AV) (s : St) : cw (.f Zl) [a0, a1] s =
 bx Q3 (.val a0) fun c2 =>
 gC Q8 0 c2 fun v9 =>
 bn Q8 .eql v9 (iv 1) fun v10 =>
 condS v10 (
 ln QM (.val a1) fun v12 =>
 Q0c (.val a1) c2 ((List.map .val (C.ti Q3).zero)) v12 (iv 0) s) (
 Q0b (.val a1) c2 ((List.map .val (C.ti Q3).zero)) s) := (Q5 _ _ _).trans (by kernel_rfl)
theorem Qej (a0 : AV) (s : St) : cw (.f Q39) [a0] s =
 bx Q3 (.val a0) fun c1 =>
 bx Q1 (iv 256) fun c =>
 sto (St.addLoc s (.var (List.map .val (C.ti Q1).zero))) (.val (.vp s.locs.length 0)) c fun s_1 =>
 gA Q3 c1 fun v4 =>
 ca Q11 [v4, (.val (.vp s.locs.length 0))] s_1 fun v5 s_2 =>
 nt v5 fun v6 =>
 condS v6 (
 some (.ret (sv []), s_2)) (
 gA Q3 c1 fun v7 =>
 ca ZH [v7, (iv 0)] s_2 fun v8 s_3 =>
 ca Q3a [v8] s_3 fun v9 s_4 =>
 some (.ret v9, s_4)) := (Q5 _ _ _).trans (by kernel_rfl)
theorem Q92 (a0 : AV) (a1 : AV) (s : St) : cw (.f Q1h) [a0, a1] s =
 fa 0 (.val a1) fun v5 =>
 ld Q1 s v5 fun v6 =>
 bn Q1 .lss (.val a0) v6 fun v7 =>
 condS v7 (
 ca ZE [(.val a0)] s fun v9 s_1 =>
 bx Q3 v9 fun c =>
 pZ Q3 c fun c3 =>
 gA Q3 c3 fun v => some (.ret v, s_1)) (
 fa 0 (.val a1) fun v11 =>
 bind1 (ldV (C.ti Q1) true s v11) fun v12 =>
 bn Q1 .sub (.val a0) v12 fun v13 =>
 bn Q1 .rem v13 (iv 26) fun v14 =>
 cn ZE [v14] s fun v15 s_2 =>
 cn Q39 [v15] s_2 fun v16 s_3 =>
 cn Q0M [v16, (sv [39])] s_3 fun v17 s_4 =>
 bn Q2 .add (sv [95]) v17 fun v18 =>
 fa 0 (.val a1) fun v20 =>
 bind1 (ldV (C.ti Q1) true s_4 v20) fun v21 =>
 bn Q1 .sub (.val a0) v21 fun v22 =>
 bn Q1 .quo v22 (iv 26) fun v23 =>
 cn Q3w [v23] s_4 fun v24 s_5 =>
 bn Q2 .add v18 v24 fun v25 =>
 cn Q7G [v25, (.val (.nils))] s_5 fun v26 s_6 =>
 bx Q3 v26 fun c_1 =>
 pZ Q3 c_1 fun c3_1 =>
 gA Q3 c3_1 fun v => some (.ret v, s_6)) := (Q5 _ _ _).trans (by kernel_rfl)
noncomputable def Q4w : List Slot → List Slot → Slot → Slot → Slot → St → Res := fun x4 x5 x10 x11 x12 s => lpD Q7G [.seqR, .seqR, .seqL, .seqR, .block] Tryz.f40 [(4, .var x4), (5, .var x5), (10, .s x10), (11, .s x11), (12, .s x12)] s
theorem Q8x : ∀ x4 x5 x10 x11 x12 s_1, Q4w x4 x5 x10 x11 x12 s_1 =
 bn Q1 .lss x12 x11 fun v13 =>
 condS v13 (
 ix Q3 x10 x12 fun v14 =>
 ld Q3 s_1 v14 fun v15 =>
 bx Q3 v15 fun c_1 =>
 pZ Q3 c_1 fun c7 =>
 gC Q6 3 x5 fun v17 =>
 gA Q3 c7 fun v18 =>
 cn Q2U [v18] s_1 fun v19 s_2 =>
 bs Q3 [v19] fun v20 =>
 ap Q3 s_2 v17 v20 fun v21 s_3 =>
 bx Q6 v21 fun c_2 =>
 pt x5 3 c_2 fun c5_1 =>
 nx x12 fun v23 =>
 Q4w x4 c5_1 x10 x11 v23 s_3) (
 gA Q3 x5 fun v24 =>
 bx Q3 v24 fun c_3 =>
 pt x4 0 c_3 fun c4 =>
 gA Q3 c4 fun v => some (.ret v, s_1)) := by intros; unfold Q4w; exact (Qd _ _ _ _ _ _).trans (by kernel_rfl)
theorem QjD (a0 : AV) (a1 : AV) (s : St) : cw (.f Q7G) [a0, a1] s =
 bd Q3 [(0, Q8, (iv 2)), (2, Q2, (.val a0))] fun v9 =>
 bx Q3 v9 fun c =>
 pZ Q3 c fun c5 =>
 ln Q6 (.val a1) fun v11 =>
 Q4w ((List.map .val (C.ti Q3).zero)) c5 (.val a1) v11 (iv 0) s := (Q5 _ _ _).trans (by kernel_rfl)
theorem Q5G (a0 : AV) (a1 : AV) (s : St) : cw (.f Q0M) [a0, a1] s =
 ca QZ [(.val a0), (.val a1)] s fun v7 s_1 =>
 some (.ret v7, s_1) := (Q5 _ _ _).trans (by kernel_rfl)
theorem Qb3 (a0 : AV) (s : St) : cw (.f Q3w) [a0] s =
 bn Q1 .eql (.val a0) (iv 0) fun v4 =>
 condS v4 (
 some (.ret (sv []), s)) (
 ca Q3P [(.val a0)] s fun v6 s_1 =>
 some (.ret v6, s_1)) := (Q5 _ _ _).trans (by kernel_rfl)
noncomputable def Q25 : Slot → List Slot → Slot → Slot → Slot → Slot → St → Res := fun x1_1 x2_1 x6_1 x7 x73_1 x74_1 s => pwD ZS [.seqR, .seqR, .seqR, .seqR, .seqR, .seqR, .seqR, .seqR, .seqL, .seqR, .block, .loop, .seqR, .seqR, .seqL, .block, .seqR, .seqR, .thn, .seqR] Tryz.f43 [(1, .s x1_1), (2, .var x2_1), (6, .s x6_1), (7, .s x7), (73, .s x73_1), (74, .s x74_1)] s
noncomputable def Q26 : Slot → List Slot → Slot → Slot → Slot → Slot → St → Res := fun x1_2 x2_2 x6_2 x7_1 x73_2 x74_2 s => pwD ZS [.seqR, .seqR, .seqR, .seqR, .seqR, .seqR, .seqR, .seqR, .seqL, .seqR, .block, .loop, .seqR, .seqR, .seqL, .block, .seqR, .seqR, .els, .seqR] Tryz.f43 [(1, .s x1_2), (2, .var x2_2), (6, .s x6_2), (7, .s x7_1), (73, .s x73_2), (74, .s x74_2)] s
noncomputable def Q00 : Slot → List Slot → Slot → Slot → Slot → St → Res := fun x1 x2 x6 x73 x74 s => lpD ZS [.seqR, .seqR, .seqR, .seqR, .seqR, .seqR, .seqR, .seqR, .seqL, .seqR, .block] Tryz.f43 [(1, .s x1), (2, .var x2), (6, .s x6), (73, .s x73), (74, .s x74)] s
theorem Q4q : ∀ x1_1 x2_1 x6_1 x7 x73_1 x74_1 s_7, Q25 x1_1 x2_1 x6_1 x7 x73_1 x74_1 s_7 =
 gC Q6 3 x2_1 fun v86 =>
 ix Q3 v86 x7 fun v88 =>
 ld Q3 s_7 v88 fun v89 =>
 ca Q0K [v89, x1_1, (iv 2)] s_7 fun v91 s_8 =>
 bn Q2 .add x6_1 v91 fun v92 =>
 nx x74_1 fun v106 =>
 Q00 x1_1 x2_1 v92 x73_1 v106 s_8 := by intros; unfold Q25; exact (Q08 _).trans (by kernel_rfl)
theorem Q4r : ∀ x1_2 x2_2 x6_2 x7_1 x73_2 x74_2 s_9, Q26 x1_2 x2_2 x6_2 x7_1 x73_2 x74_2 s_9 =
 gC Q6 3 x2_2 fun v99 =>
 ix Q3 v99 x7_1 fun v101 =>
 ld Q3 s_9 v101 fun v102 =>
 ca Q0K [v102, x1_2, (iv 0)] s_9 fun v104 s_10 =>
 bn Q2 .add x6_2 v104 fun v105 =>
 nx x74_2 fun v106_1 =>
 Q00 x1_2 x2_2 v105 x73_2 v106_1 s_10 := by intros; unfold Q26; exact (Q08 _).trans (by kernel_rfl)
theorem Q4s : ∀ x1 x2 x6 x73 x74 s_6, Q00 x1 x2 x6 x73 x74 s_6 =
 bn Q1 .lss x74 x73 fun v75 =>
 condS v75 (
 gC Q2 2 x2 fun v78 =>
 bn Q2 .eql v78 (sv [42]) fun v79 =>
 condS v79 (
 bn Q1 .gtr x74 (iv 0) fun v81 =>
 condS v81 (
 bn Q2 .add x6 (sv [32, 42, 32]) fun v83 =>
 Q25 x1 x2 v83 x74 x73 x74 s_6) (
 Q25 x1 x2 x6 x74 x73 x74 s_6)) (
 bn Q1 .gtr x74 (iv 0) fun v94 =>
 condS v94 (
 bn Q2 .add x6 (sv [44, 32]) fun v96 =>
 Q26 x1 x2 v96 x74 x73 x74 s_6) (
 Q26 x1 x2 x6 x74 x73 x74 s_6))) (
 gC Q2 2 x2 fun v108 =>
 bn Q2 .eql v108 (sv [42]) fun v109 =>
 condS v109 (
 some (.ret x6, s_6)) (
 bn Q2 .add (sv [40]) x6 fun v112 =>
 bn Q2 .add v112 (sv [41, 32]) fun v113 =>
 gC Q2 2 x2 fun v115 =>
 bn Q2 .add v113 v115 fun v116 =>
 some (.ret v116, s_6))) := by intros; unfold Q00; exact (Qd _ _ _ _ _ _).trans (by kernel_rfl)
theorem QcC (a0 : AV) (a1 : AV) (s : St) : cw (.f ZS) [a0, a1] s =
 bx Q3 (.val a0) fun c2 =>
 gC Q8 0 c2 fun v9 =>
 bn Q8 .eql v9 (iv 1) fun v10 =>
 iT v10 fun w =>
 iT v10 fun w_1 =>
 gG w_1 w Q1 1 c2 fun v13 =>
 iT v10 fun w_2 =>
 iT v10 fun w_3 =>
 gB w_3 Q1 .lss v13 (gdV w_2 (.val a1)) fun v15 =>
 pk v10 v15 (bv false) fun v16 =>
 condS v16 (
 gC Q1 1 c2 fun v18 =>
 ca Q38 [v18] s fun v19 s_1 =>
 bn Q2 .add (sv [39]) v19 fun v20 =>
 some (.ret v20, s_1)) (
 gC Q8 0 c2 fun v22 =>
 bn Q8 .eql v22 (iv 1) fun v23 =>
 condS v23 (
 gC Q1 1 c2 fun v25 =>
 bn Q1 .sub v25 (.val a1) fun v27 =>
 ca Q38 [v27] s fun v28 s_2 =>
 bn Q2 .add (sv [95]) v28 fun v29 =>
 some (.ret v29, s_2)) (
 gC Q6 3 c2 fun v31 =>
 ln Q6 v31 fun v32 =>
 bn Q1 .eql v32 (iv 0) fun v34 =>
 condS v34 (
 gC Q2 2 c2 fun v36 =>
 some (.ret v36, s)) (
 gC Q2 2 c2 fun v38 =>
 bn Q2 .eql v38 (sv [45, 62]) fun v39 =>
 condS v39 (
 gC Q6 3 c2 fun v41 =>
 ix Q3 v41 (iv 0) fun v42 =>
 bind1 (ldV (C.ti Q3) true s v42) fun v43 =>
 cn Q0K [v43, (.val a1), (iv 1)] s fun v45 s_3 =>
 bn Q2 .add v45 (sv [32, 45, 62, 32]) fun v46 =>
 gC Q6 3 c2 fun v48 =>
 ix Q3 v48 (iv 1) fun v49 =>
 bind1 (ldV (C.ti Q3) true s_3 v49) fun v50 =>
 cn Q0K [v50, (.val a1), (iv 0)] s_3 fun v52 s_4 =>
 bn Q2 .add v46 v52 fun v53 =>
 some (.ret v53, s_4)) (
 gC Q2 2 c2 fun v55 =>
 bn Q2 .neq v55 (sv [42]) fun v56 =>
 iT v56 fun w_4 =>
 iT v56 fun w_5 =>
 gB w_5 Q1 .eql (gdV w_4 v32) (iv 1) fun v59 =>
 pk v56 v59 (bv false) fun v60 =>
 condS v60 (
 gC Q6 3 c2 fun v62 =>
 ix Q3 v62 (iv 0) fun v63 =>
 ld Q3 s v63 fun v64 =>
 cn Q0K [v64, (.val a1), (iv 2)] s fun v66 s_5 =>
 bn Q2 .add v66 (sv [32]) fun v67 =>
 gC Q2 2 c2 fun v69 =>
 bn Q2 .add v67 v69 fun v70 =>
 some (.ret v70, s_5)) (
 gC Q6 3 c2 fun v72 =>
 ln Q6 v72 fun v73 =>
 Q00 (.val a1) c2 (sv []) v73 (iv 0) s))))) := (Q5 _ _ _).trans (by kernel_rfl)
theorem Zh (a0 : AV) (a1 : AV) (s : St) : cw (.f Qm) [a0, a1] s =
 ca QI [(.val a0), (.val a1)] s fun v7 s_1 =>
 bn Q1 .geq v7 (iv 0) fun v8 =>
 some (.ret v8, s_1) := (Q5 _ _ _).trans (by kernel_rfl)
theorem Q8Z (a0 : AV) (s : St) : cw (.f Zt) [a0] s =
 bx Q3 (.val a0) fun c1 =>
 gA Q3 c1 fun v3 =>
 ca Q2D [v3] s fun v4 s_1 =>
 nt v4 fun v5 =>
 some (.ret v5, s_1) := (Q5 _ _ _).trans (by kernel_rfl)
theorem Qic (a0 : AV) (a1 : AV) (s : St) : cw (.f Q8D) [a0, a1] s =
 bx Q3 (.val a0) fun c2 =>
 bx Q6 (.val a1) fun c3 =>
 bindA (avs c3) fun l3 =>
 gA Q3 c2 fun v5 =>
 bind1 (fnS Q5O [(.val (.cp l3))]) fun v6 =>
 ca Q12 [v5, v6] s fun v7 s_1 =>
 bx Q3 v7 fun c =>
 pZ Q3 c fun c4 =>
 gA Q3 c4 fun v => some (.ret v, s_1) := (Q5 _ _ _).trans (by kernel_rfl)
noncomputable def Q2P : Slot → Slot → Slot → Slot → St → Res := fun x3 x7 x8 x9 s => lpD Q2g [.seqR, .seqR, .seqL, .seqR, .block] Tryz.f47 [(3, .s x3), (7, .s x7), (8, .s x8), (9, .s x9)] s
theorem Q6v : ∀ x3 x7 x8 x9 s_1, Q2P x3 x7 x8 x9 s_1 =
 bn Q1 .lss x9 x8 fun v10 =>
 condS v10 (
 ix Q3 x7 x9 fun v11 =>
 ld Q3 s_1 v11 fun v12 =>
 bx Q3 v12 fun c =>
 pZ Q3 c fun c5 =>
 gA Q3 c5 fun v14 =>
 ca Q2g [v14] s_1 fun v15 s_2 =>
 bn Q1 .add x3 v15 fun v16 =>
 nx x9 fun v17 =>
 Q2P v16 x7 x8 v17 s_2) (
 some (.ret x3, s_1)) := by intros; unfold Q2P; exact (Qd _ _ _ _ _ _).trans (by kernel_rfl)
theorem QgM (a0 : AV) (s : St) : cw (.f Q2g) [a0] s =
 bx Q3 (.val a0) fun c1 =>
 gC Q6 3 c1 fun v7 =>
 ln Q6 v7 fun v8 =>
 Q2P (iv 1) v7 v8 (iv 0) s := (Q5 _ _ _).trans (by kernel_rfl)
noncomputable def Q09 : List Slot → List Slot → Slot → St → Res := fun x2 x3 x5 s => lpD Q0p [.seqR, .seqR, .seqL, .seqR, .block] Tryz.f50 [(2, .var x2), (3, .var x3), (5, .s x5)] s
theorem Q3i : ∀ x2 x3 x5 s_1, Q09 x2 x3 x5 s_1 =
 gC Q6 3 x2 fun v36 =>
 ln Q6 v36 fun v37 =>
 bn Q1 .lss x5 v37 fun v38 =>
 condS v38 (
 gC Q6 3 x2 fun v42 =>
 ix Q3 v42 x5 fun v44 =>
 ld Q3 s_1 v44 fun v45 =>
 gC Q6 3 x3 fun v47 =>
 ix Q3 v47 x5 fun v49 =>
 ld Q3 s_1 v49 fun v50 =>
 cn Q0p [v45, v50] s_1 fun v51 s_2 =>
 nt v51 fun v52 =>
 condS v52 (
 some (.ret (bv false), s_2)) (
 nx x5 fun v40 =>
 Q09 x2 x3 v40 s_2)) (
 some (.ret (bv true), s_1)) := by intros; unfold Q09; exact (Qd _ _ _ _ _ _).trans (by kernel_rfl)
theorem Q9Z (a0 : AV) (a1 : AV) (s : St) : cw (.f Q0p) [a0, a1] s =
 bx Q3 (.val a0) fun c2 =>
 bx Q3 (.val a1) fun c3 =>
 gC Q8 0 c2 fun v7 =>
 gC Q8 0 c3 fun v9 =>
 bn Q8 .neq v7 v9 fun v10 =>
 iF v10 fun w =>
 iF v10 fun w_1 =>
 gG w_1 w Q1 1 c2 fun v13 =>
 iF v10 fun w_2 =>
 iF v10 fun w_3 =>
 gG w_3 w_2 Q1 1 c3 fun v15 =>
 iF v10 fun w_4 =>
 gB w_4 Q1 .neq v13 v15 fun v16 =>
 pk v10 (bv true) v16 fun v17 =>
 iF v17 fun w_5 =>
 iF v17 fun w_6 =>
 gG w_6 w_5 Q2 2 c2 fun v20 =>
 iF v17 fun w_7 =>
 iF v17 fun w_8 =>
 gG w_8 w_7 Q2 2 c3 fun v22 =>
 iF v17 fun w_9 =>
 gB w_9 Q2 .neq v20 v22 fun v23 =>
 pk v17 (bv true) v23 fun v24 =>
 iF v24 fun w_10 =>
 iF v24 fun w_11 =>
 gG w_11 w_10 Q6 3 c2 fun v27 =>
 iF v24 fun w_12 =>
 gL w_12 Q6 v27 fun v28 =>
 iF v24 fun w_13 =>
 iF v24 fun w_14 =>
 gG w_14 w_13 Q6 3 c3 fun v30 =>
 iF v24 fun w_15 =>
 gL w_15 Q6 v30 fun v31 =>
 iF v24 fun w_16 =>
 gB w_16 Q1 .neq v28 v31 fun v32 =>
 pk v24 (bv true) v32 fun v33 =>
 condS v33 (
 some (.ret (bv false), s)) (
 Q09 c2 c3 (iv 0) s) := (Q5 _ _ _).trans (by kernel_rfl)
theorem QgL (a0 : AV) (a1 : AV) (s : St) : cw (.f Q2f) [a0, a1] s =
 bx Q3 (.val a0) fun c2 =>
 bx Q3 (.val a1) fun c3 =>
 gC Q8 0 c2 fun v6 =>
 gC Q8 0 c3 fun v8 =>
 bn Q8 .eql v6 v8 fun v9 =>
 iT v9 fun w =>
 iT v9 fun w_1 =>
 gG w_1 w Q1 1 c2 fun v12 =>
 iT v9 fun w_2 =>
 iT v9 fun w_3 =>
 gG w_3 w_2 Q1 1 c3 fun v14 =>
 iT v9 fun w_4 =>
 gB w_4 Q1 .eql v12 v14 fun v15 =>
 pk v9 v15 (bv false) fun v16 =>
 iT v16 fun w_5 =>
 iT v16 fun w_6 =>
 gG w_6 w_5 Q2 2 c2 fun v19 =>
 iT v16 fun w_7 =>
 iT v16 fun w_8 =>
 gG w_8 w_7 Q2 2 c3 fun v21 =>
 iT v16 fun w_9 =>
 gB w_9 Q2 .eql v19 v21 fun v22 =>
 pk v16 v22 (bv false) fun v23 =>
 iT v23 fun w_10 =>
 iT v23 fun w_11 =>
 gG w_11 w_10 Q6 3 c2 fun v26 =>
 iT v23 fun w_12 =>
 iT v23 fun w_13 =>
 gG w_13 w_12 Q6 3 c3 fun v28 =>
 iT v23 fun w_14 =>
 cg w_14 QK [v26, v28, (.val (.fn Q2f []))] s fun v29 s_1 =>
 pk v23 v29 (bv false) fun v30 =>
 some (.ret v30, s_1) := (Q5 _ _ _).trans (by kernel_rfl)
noncomputable def Q0A : Slot → Slot → List Slot → Slot → Slot → St → Res := fun x1 x2 x3 x23 x24 s => lpD Q0U [.seqR, .seqR, .seqR, .seqL, .seqR, .block] Tryz.f53 [(1, .s x1), (2, .s x2), (3, .var x3), (23, .s x23), (24, .s x24)] s
theorem Q3G : ∀ x1 x2 x3 x23 x24 s_1, Q0A x1 x2 x3 x23 x24 s_1 =
 bn Q1 .lss x24 x23 fun v25 =>
 condS v25 (
 gC Q6 3 x3 fun v28 =>
 ix Q3 v28 x24 fun v30 =>
 ld Q3 s_1 v30 fun v31 =>
 nx x2 fun v34 =>
 ca Q0U [v31, x1, v34] s_1 fun v35 s_2 =>
 bn Q1 .lss v35 (iv 0) fun v37 =>
 condS v37 (
 some (.ret (iv (-1)), s_2)) (
 nx x24 fun v38 =>
 Q0A v35 x2 x3 x23 v38 s_2)) (
 some (.ret x1, s_1)) := by intros; unfold Q0A; exact (Qd _ _ _ _ _ _).trans (by kernel_rfl)
theorem QaU (a0 : AV) (a1 : AV) (a2 : AV) (s : St) : cw (.f Q0U) [a0, a1, a2] s =
 bx Q3 (.val a0) fun c3 =>
 bn Q1 .sub (.val a1) (iv 1) fun v9 =>
 gC Q2 2 c3 fun v11 =>
 ln Q2 v11 fun v12 =>
 bn Q1 .quo v12 (iv 100) fun v13 =>
 bn Q1 .sub v9 v13 fun v14 =>
 bn Q1 .lss v14 (iv 0) fun v16 =>
 iF v16 fun w =>
 iF v16 fun w_1 =>
 gB w_1 Q1 .gtr (gdV w (.val a2)) (iv 130) fun v19 =>
 pk v16 (bv true) v19 fun v20 =>
 condS v20 (
 some (.ret (iv (-1)), s)) (
 gC Q6 3 c3 fun v22 =>
 ln Q6 v22 fun v23 =>
 Q0A v14 (.val a2) c3 v23 (iv 0) s) := (Q5 _ _ _).trans (by kernel_rfl)
theorem QcS (a0 : AV) (a1 : AV) (a2 : AV) (s : St) : cw (.f Q2E) [a0, a1, a2] s =
 bx Q3 (.val a0) fun c3 =>
 ld Q1 s (.val a1) fun v5 =>
 bn Q1 .sub v5 (iv 1) fun v6 =>
 bx Q1 v6 fun c =>
 sto s (.val a1) c fun s_1 =>
 ld Q1 s_1 (.val a1) fun v7 =>
 bn Q1 .geq v7 (iv 0) fun v8 =>
 iT v8 fun w =>
 bind1 (gd w (ofSlots (C.ti Q3) (List.take (C.ti Q3).size c3))) fun v10 =>
 iT v8 fun w_1 =>
 cg w_1 Q6E [v10] s_1 fun v11 s_2 =>
 pk v8 v11 (bv false) fun v12 =>
 iT v12 fun w_2 =>
 iT v12 fun w_3 =>
 gG w_3 w_2 Q6 3 c3 fun v15 =>
 iT v12 fun w_4 =>
 bind1 (gd w_4 (fnS ZR [(.val a2)])) fun v16 =>
 iT v12 fun w_5 =>
 cg w_5 Qm [v15, v16] s_2 fun v17 s_3 =>
 iT v12 fun w_6 =>
 gN w_6 v17 fun v18 =>
 pk v12 v18 (bv false) fun v19 =>
 some (.ret v19, s_3) := (Q5 _ _ _).trans (by kernel_rfl)
theorem QgO (a0 : AV) (s : St) : cw (.f Q6E) [a0] s =
 bx Q3 (.val a0) fun c1 =>
 gC Q6 3 c1 fun v8 =>
 ln Q6 v8 fun v9 =>
 gC Q8 0 c1 fun v11 =>
 bn Q8 .eql v11 (iv 1) fun v13 =>
 condS v13 (
 gC Q1 1 c1 fun v15 =>
 bn Q1 .geq v15 (iv 0) fun v16 =>
 iT v16 fun w =>
 iT v16 fun w_1 =>
 gG w_1 w Q2 2 c1 fun v19 =>
 iT v16 fun w_2 =>
 gB w_2 Q2 .eql v19 (sv []) fun v20 =>
 pk v16 v20 (bv false) fun v21 =>
 iT v21 fun w_3 =>
 iT v21 fun w_4 =>
 gB w_4 Q1 .eql (gdV w_3 v9) (iv 0) fun v24 =>
 pk v21 v24 (bv false) fun v25 =>
 some (.ret v25, s)) (
 bn Q8 .eql v11 (iv 2) fun v27 =>
 condS v27 (
 gC Q2 2 c1 fun v30 =>
 ca Q3Q [v30] s fun v31 s_1 =>
 ex v31 0 fun v32 =>
 ex v31 1 fun v33 =>
 ex v31 2 fun v34 =>
 gC Q1 1 c1 fun v36 =>
 bn Q1 .eql v36 (iv 0) fun v37 =>
 iT v37 fun w_5 =>
 iT v37 fun w_6 =>
 iT v37 fun w_7 =>
 gB w_7 Q1 .geq (gdV w_5 v9) (gdV w_6 v32) fun v41 =>
 pk v37 v41 (bv false) fun v42 =>
 iT v42 fun w_8 =>
 iT v42 fun w_9 =>
 iT v42 fun w_10 =>
 gB w_10 Q1 .leq (gdV w_8 v9) (gdV w_9 v33) fun v46 =>
 pk v42 v46 (bv false) fun v47 =>
 iT v47 fun w_11 =>
 iT v47 fun w_12 =>
 bindB (Slot.isB (gdV w_12 (gdV w_11 v34)) false) fun w_13 =>
 bindB (Slot.isB (gdV w_12 (gdV w_11 v34)) false) fun w_14 =>
 gG w_14 w_13 Q2 2 c1 fun v52 =>
 bindB (Slot.isB (gdV w_12 (gdV w_11 v34)) false) fun w_15 =>
 cg w_15 Q8E [v52] s_1 fun v53 s_2 =>
 iT v47 fun w_16 =>
 bind1 (gd w_16 (pickS (gdV w_12 (gdV w_11 v34)) (bv true) v53)) fun v54 =>
 pk v47 v54 (bv false) fun v55 =>
 some (.ret v55, s_2)) (
 some (.ret (bv false), s))) := (Q5 _ _ _).trans (by kernel_rfl)
theorem Qao (a0 : AV) (a1 : AV) (s : St) : cw (.f ZR) [a0, a1] s =
 bx Q3 (.val a0) fun c2 =>
 ld Qn s (.val a1) fun v4 =>
 gA Q3 c2 fun v5 =>
 back (cal cw true (tgtV v4 [v5]) s) fun v6 s_1 =>
 nt v6 fun v7 =>
 some (.ret v7, s_1) := (Q5 _ _ _).trans (by kernel_rfl)
theorem Qfi (a0 : AV) (s : St) : cw (.f Q5N) [a0] s =
 bx Q3 (.val a0) fun c1 =>
 bx Qk (.val (.mp s.locs.length)) fun c =>
 sto (St.addLoc (St.addLoc s (.map [] 0)) (.var (List.map .val (C.ti Qk).zero))) (.val (.vp (St.addLoc s (.map [] 0)).locs.length 0)) c fun s_1 =>
 gA Q3 c1 fun v8 =>
 bind1 (fnS Q4c [(.val (.vp (St.addLoc s (.map [] 0)).locs.length 0)), (.val (.vp s_1.locs.length 0))]) fun v9 =>
 ca Q12 [v8, v9] (St.addLoc s_1 (.var (List.map .val (C.ti QM).zero))) fun v10 s_2 =>
 bx Q3 v10 fun c_1 =>
 pZ Q3 c_1 fun c6 =>
 gA Q3 c6 fun v11 =>
 ld QM s_2 (.val (.vp s_1.locs.length 0)) fun v12 =>
 bx Q3 v11 fun c_2 =>
 pZ Q3 c_2 fun c2 =>
 rt [(ofSlots (C.ti Q3) (List.take (C.ti Q3).size c2)), (some v12)] s_2 := (Q5 _ _ _).trans (by kernel_rfl)
noncomputable def QS : Slot → Slot → Slot → Slot → St → Res := fun x0 x1 x7 x8 s => lpD Zi [.seqR, .seqL, .seqR, .block] Tryz.f58 [(0, .s x0), (1, .s x1), (7, .s x7), (8, .s x8)] s
theorem Q0H : ∀ x0 x1 x7 x8 s_1, QS x0 x1 x7 x8 s_1 =
 bn Q1 .lss x8 x7 fun v9 =>
 condS v9 (
 ix Q1 x0 x8 fun v14 =>
 ld Q1 s_1 v14 fun v15 =>
 bn Q1 .eql x1 v15 fun v16 =>
 condS v16 (
 some (.ret x8, s_1)) (
 nx x8 fun v18 =>
 QS x0 x1 x7 v18 s_1)) (
 some (.ret (iv (-1)), s_1)) := by intros; unfold QS; exact (Qd _ _ _ _ _ _).trans (by kernel_rfl)
theorem Q4v (a0 : AV) (a1 : AV) (s : St) : cw (.f Zi) [a0, a1] s =
 ln QM (.val a0) fun v7 =>
 QS (.val a0) (.val a1) v7 (iv 0) s := (Q5 _ _ _).trans (by kernel_rfl)
noncomputable def Zj : Slot → List Slot → List Slot → Slot → Slot → Slot → St → Res := fun x2 x4 x5 x23 x24 x25 s => lpD Zn [.seqR, .seqR, .seqR, .seqL, .seqR, .block] Tryz.f59 [(2, .s x2), (4, .var x4), (5, .var x5), (23, .s x23), (24, .s x24), (25, .s x25)] s
theorem Q1P : ∀ x2 x4 x5 x23 x24 x25 s_2, Zj x2 x4 x5 x23 x24 x25 s_2 =
 bn Q1 .lss x25 x24 fun v26 =>
 condS v26 (
 ix Q3 x23 x25 fun v27 =>
 ld Q3 s_2 v27 fun v28 =>
 bx Q3 v28 fun c_2 =>
 pZ Q3 c_2 fun c7 =>
 gC Q6 3 x5 fun v30 =>
 ld Qi s_2 x2 fun v31 =>
 gA Q3 c7 fun v32 =>
 back (noPan (cal cw true (tgtV v31 [v32]) s_2)) fun v33 s_3 =>
 bs Q3 [v33] fun v34 =>
 ap Q3 s_3 v30 v34 fun v35 s_4 =>
 bx Q6 v35 fun c_3 =>
 pt x5 3 c_3 fun c5_1 =>
 nx x25 fun v37 =>
 Zj x2 x4 c5_1 x23 x24 v37 s_4) (
 gA Q3 x5 fun v38 =>
 bx Q3 v38 fun c_4 =>
 pt x4 0 c_4 fun c4_1 =>
 gA Q3 c4_1 fun v => some (.ret v, s_2)) := by intros; unfold Zj; exact (Qd _ _ _ _ _ _).trans (by kernel_rfl)
theorem Q6y (a0 : AV) (a1 : AV) (a2 : AV) (s : St) : cw (.f Zn) [a0, a1, a2] s =
 bx Q3 (.val a0) fun c3 =>
 gC Q8 0 c3 fun v9 =>
 bn Q8 .eql v9 (iv 1) fun v10 =>
 condS v10 (
 ld QN s (.val a1) fun v11 =>
 gC Q1 1 c3 fun v13 =>
 back (cal cw true (tgtV v11 [v13]) s) fun v14 s_1 =>
 bx Q3 v14 fun c =>
 pZ Q3 c fun c4 =>
 gA Q3 c4 fun v => some (.ret v, s_1)) (
 gC Q8 0 c3 fun v16 =>
 gC Q1 1 c3 fun v18 =>
 gC Q2 2 c3 fun v20 =>
 bd Q3 [(0, Q8, v16), (1, Q1, v18), (2, Q2, v20)] fun v21 =>
 bx Q3 v21 fun c_1 =>
 pZ Q3 c_1 fun c5 =>
 gC Q6 3 c3 fun v23 =>
 ln Q6 v23 fun v24 =>
 Zj (.val a2) ((List.map .val (C.ti Q3).zero)) c5 v23 v24 (iv 0) s) := (Q5 _ _ _).trans (by kernel_rfl)
theorem Qcx (a0 : AV) (s : St) : cw (.f Q4a) [a0] s =
 bx Q3 (.val a0) fun c1 =>
 gA Q3 c1 fun v3 =>
 ca Za [v3, (iv 0)] s fun v4 s_1 =>
 ln Z8 v4 fun v5 =>
 some (.ret v5, s_1) := (Q5 _ _ _).trans (by kernel_rfl)
noncomputable def Q0a : Slot → Slot → St → Res := fun x3 x4 s => lpD Q1z [.seqR, .seqR, .seqL, .seqR, .block] Tryz.f61 [(3, .s x3), (4, .s x4)] s
theorem Q3k : ∀ x3 x4 s_2, Q0a x3 x4 s_2 =
 ln Z8 x3 fun v9 =>
 bn Q1 .lss x4 v9 fun v10 =>
 condS v10 (
 ix Ql x3 x4 fun v15 =>
 fa 22 v15 fun v16 =>
 ld Q3 s_2 v16 fun v17 =>
 ca Q4b [v17] s_2 fun v18 s_3 =>
 nt v18 fun v19 =>
 condS v19 (
 some (.ret (bv false), s_3)) (
 nx x4 fun v12 =>
 Q0a x3 v12 s_3)) (
 some (.ret (bv true), s_2)) := by intros; unfold Q0a; exact (Qd _ _ _ _ _ _).trans (by kernel_rfl)
theorem Qa3 (a0 : AV) (s : St) : cw (.f Q1z) [a0] s =
 bx Q3 (.val a0) fun c1 =>
 gA Q3 c1 fun v5 =>
 ca Za [v5, (iv 0)] s fun v6 s_1 =>
 Q0a v6 (iv 0) s_1 := (Q5 _ _ _).trans (by kernel_rfl)
noncomputable def Q0Y : Slot → List Slot → Slot → Slot → St → Res := fun x1 x2 x5 x6 s => lpD Za [.seqR, .seqR, .seqL, .seqR, .block] Tryz.f62 [(1, .s x1), (2, .var x2), (5, .s x5), (6, .s x6)] s
theorem Q4m : ∀ x1 x2 x5 x6 s_1, Q0Y x1 x2 x5 x6 s_1 =
 gC Q6 3 x2 fun v13 =>
 ln Q6 v13 fun v14 =>
 bn Q1 .lss x6 v14 fun v15 =>
 condS v15 (
 gC Q6 3 x2 fun v20 =>
 ix Q3 v20 x6 fun v22 =>
 ld Q3 s_1 v22 fun v23 =>
 ca Za [v23, x1] s_1 fun v25 s_2 =>
 ap Ql s_2 x5 v25 fun v26 s_3 =>
 nx x6 fun v17 =>
 Q0Y x1 x2 v26 v17 s_3) (
 some (.ret x5, s_1)) := by intros; unfold Q0Y; exact (Qd _ _ _ _ _ _).trans (by kernel_rfl)
theorem Qcu (a0 : AV) (a1 : AV) (s : St) : cw (.f Za) [a0, a1] s =
 bx Q3 (.val a0) fun c2 =>
 gA Q3 c2 fun v7 =>
 bd Ql [(0, Q1, (iv 4)), (22, Q3, v7), (2, Q1, (.val a1))] fun v9 =>
 bs Ql [v9] fun v10 =>
 Q0Y (.val a1) c2 v10 (iv 0) s := (Q5 _ _ _).trans (by kernel_rfl)
noncomputable def Q0B : Slot → Slot → Slot → St → Res := fun x0 x1 x5 s => lpD Q1Z [.seqR, .seqL, .seqR, .block] Tryz.f63 [(0, .s x0), (1, .s x1), (5, .s x5)] s
theorem Q3H : ∀ x0 x1 x5 s_1, Q0B x0 x1 x5 s_1 =
 ln QM x0 fun v8 =>
 bn Q1 .lss x5 v8 fun v9 =>
 condS v9 (
 ix Q1 x0 x5 fun v14 =>
 ld Q1 s_1 v14 fun v15 =>
 bn Q1 .eql v15 x1 fun v17 =>
 condS v17 (
 some (.ret x5, s_1)) (
 nx x5 fun v11 =>
 Q0B x0 x1 v11 s_1)) (
 some (.ret (iv (-1)), s_1)) := by intros; unfold Q0B; exact (Qd _ _ _ _ _ _).trans (by kernel_rfl)
theorem QaW (a0 : AV) (a1 : AV) (s : St) : cw (.f Q1Z) [a0, a1] s =
 Q0B (.val a0) (.val a1) (iv 0) s := (Q5 _ _ _).trans (by kernel_rfl)
noncomputable def Z3 : List Slot → Slot → Slot → St → Res := fun x2_1 x3_1 x6 s => pwD Q11 [.seqR, .seqR, .seqR, .seqR, .seqR, .seqR] Tryz.f64 [(2, .var x2_1), (3, .s x3_1), (6, .s x6)] s
noncomputable def Zq : List Slot → Slot → Slot → Slot → Slot → St → Res := fun x2 x3 x5 x52 x87 s => pwD Q11 [.seqR, .seqR, .seqR, .seqR, .seqR, .seqL, .seqR, .block, .seqR] Tryz.f64 [(2, .var x2), (3, .s x3), (5, .s x5), (52, .s x52), (87, .s x87)] s
theorem Qae : ∀ x2_1 x3_1 x6 s_3, Z3 x2_1 x3_1 x6 s_3 =
 iT x6 fun w_11 =>
 iT x6 fun w_12 =>
 gG w_12 w_11 Q6 3 x2_1 fun v113 =>
 iT x6 fun w_13 =>
 bind1 (gd w_13 (fnS ZX [x3_1])) fun v114 =>
 iT x6 fun w_14 =>
 cg w_14 Qm [v113, v114] s_3 fun v115 s_4 =>
 iT x6 fun w_15 =>
 gN w_15 v115 fun v116 =>
 pk x6 v116 (bv false) fun v117 =>
 some (.ret v117, s_4) := by intros; unfold Z3; exact (Q08 _).trans (by kernel_rfl)
theorem Qad : ∀ x2 x3 x5 x52 x87 s_2, Zq x2 x3 x5 x52 x87 s_2 =
 condS x87 (
 bn Q1 .eql x5 (iv 0) fun v93 =>
 Z3 x2 x3 v93 s_2) (
 bn Q2 .eql x52 (sv [114, 101, 102]) fun v95 =>
 condS v95 (
 bn Q1 .eql x5 (iv 1) fun v97 =>
 Z3 x2 x3 v97 s_2) (
 bn Q2 .eql x52 (sv [45, 62]) fun v99 =>
 condS v99 (
 bn Q1 .eql x5 (iv 2) fun v101 =>
 Z3 x2 x3 v101 s_2) (
 bn Q2 .eql x52 (sv [42]) fun v103 =>
 condS v103 (
 bn Q1 .geq x5 (iv 2) fun v105 =>
 iT v105 fun w_16 =>
 iT v105 fun w_17 =>
 gB w_17 Q1 .leq (gdV w_16 x5) (iv 8) fun v108 =>
 pk v105 v108 (bv false) fun v109 =>
 Z3 x2 x3 v109 s_2) (
 gC Q2 2 x2 fun v55 =>
 ca Q2l [v55] s_2 fun v56 s_5 =>
 ex v56 0 fun v57 =>
 ex v56 1 fun v58 =>
 bx Qb v58 fun c_1 =>
 pZ Qb c_1 fun c8 =>
 gC QD 0 c8 fun v60 =>
 bn QD .eql v60 (iv 0) fun v61 =>
 iT v61 fun w_18 =>
 iT v61 fun w_19 =>
 gL w_19 Q1E (gdV w_18 v57) fun v64 =>
 iT v61 fun w_20 =>
 gB w_20 Q1 .eql v64 (iv 1) fun v65 =>
 pk v61 v65 (bv false) fun v66 =>
 iT v66 fun w_21 =>
 iT v66 fun w_22 =>
 bind1 (gd w_22 (ixS (C.ti Qg).size (gdV w_21 v57) (iv 0))) fun v69 =>
 iT v66 fun w_23 =>
 bind1 (gd w_23 (faV 0 v69)) fun v70 =>
 iT v66 fun w_24 =>
 bind1 (gd w_24 (ldV (C.ti Zp) false s_5 v70)) fun v71 =>
 iT v66 fun w_25 =>
 gB w_25 Zp .eql v71 (iv 2) fun v72 =>
 pk v66 v72 (bv false) fun v73 =>
 iT v73 fun w_26 =>
 iT v73 fun w_27 =>
 bind1 (gd w_27 (ixS (C.ti Qg).size (gdV w_26 v57) (iv 0))) fun v76 =>
 iT v73 fun w_28 =>
 bind1 (gd w_28 (faV 2 v76)) fun v77 =>
 iT v73 fun w_29 =>
 bind1 (gd w_29 (ldV (C.ti Q2) false s_5 v77)) fun v78 =>
 iT v73 fun w_30 =>
 iT v73 fun w_31 =>
 gG w_31 w_30 Q2 2 x2 fun v80 =>
 iT v73 fun w_32 =>
 gB w_32 Q2 .eql v78 v80 fun v81 =>
 pk v73 v81 (bv false) fun v82 =>
 iT v82 fun w_33 =>
 iT v82 fun w_34 =>
 gB w_34 Q1 .leq (gdV w_33 x5) (iv 8) fun v85 =>
 pk v82 v85 (bv false) fun v86 =>
 Z3 x2 x3 v86 s_5)))) := by intros; unfold Zq; exact (Q08 _).trans (by kernel_rfl)
theorem Qel (a0 : AV) (a1 : AV) (s : St) : cw (.f Q11) [a0, a1] s =
 bx Q3 (.val a0) fun c2 =>
 bx Q1D (.val a1) fun c3 =>
 bindA (avs c3) fun l3 =>
 ld Q1D s (.val (.cp l3)) fun v9 =>
 bind1 (nilCheckV v9) fun v10 =>
 ld Q1 s v10 fun v11 =>
 bn Q1 .sub v11 (iv 1) fun v12 =>
 bind1 (nilCheckV v9) fun v13 =>
 bx Q1 v12 fun c =>
 sto s v13 c fun s_1 =>
 ld Q1D s_1 (.val (.cp l3)) fun v14 =>
 bind1 (nilCheckV v14) fun v15 =>
 ld Q1 s_1 v15 fun v16 =>
 bn Q1 .lss v16 (iv 0) fun v17 =>
 condS v17 (
 some (.ret (bv false), s_1)) (
 gC Q6 3 c2 fun v19 =>
 ln Q6 v19 fun v20 =>
 gC Q8 0 c2 fun v23 =>
 bn Q8 .eql v23 (iv 1) fun v24 =>
 condS v24 (
 gC Q1 1 c2 fun v26 =>
 bn Q1 .geq v26 (iv 0) fun v27 =>
 iT v27 fun w =>
 iT v27 fun w_1 =>
 gG w_1 w Q1 1 c2 fun v30 =>
 iT v27 fun w_2 =>
 gB w_2 Q1 .leq v30 (iv 1000) fun v31 =>
 pk v27 v31 (bv false) fun v32 =>
 iT v32 fun w_3 =>
 iT v32 fun w_4 =>
 gG w_4 w_3 Q2 2 c2 fun v35 =>
 iT v32 fun w_5 =>
 gB w_5 Q2 .eql v35 (sv []) fun v36 =>
 pk v32 v36 (bv false) fun v37 =>
 iT v37 fun w_6 =>
 iT v37 fun w_7 =>
 gB w_7 Q1 .eql (gdV w_6 v20) (iv 0) fun v40 =>
 pk v37 v40 (bv false) fun v41 =>
 some (.ret v41, s_1)) (
 gC Q8 0 c2 fun v44 =>
 bn Q8 .neq v44 (iv 2) fun v45 =>
 iF v45 fun w_8 =>
 iF v45 fun w_9 =>
 gG w_9 w_8 Q1 1 c2 fun v48 =>
 iF v45 fun w_10 =>
 gB w_10 Q1 .neq v48 (iv 0) fun v49 =>
 pk v45 (bv true) v49 fun v50 =>
 condS v50 (
 some (.ret (bv false), s_1)) (
 gC Q2 2 c2 fun v52 =>
 bn Q2 .eql v52 (sv [105, 110, 116]) fun v88 =>
 condS v88 (
 Zq c2 (.val (.cp l3)) v20 v52 v88 s_1) (
 bn Q2 .eql v52 (sv [98, 111, 111, 108]) fun v89 =>
 condS v89 (
 Zq c2 (.val (.cp l3)) v20 v52 v89 s_1) (
 bn Q2 .eql v52 (sv [117, 110, 105, 116]) fun v90 =>
 condS v90 (
 Zq c2 (.val (.cp l3)) v20 v52 v90 s_1) (
 bn Q2 .eql v52 (sv [101, 120, 110]) fun v91 =>
 Zq c2 (.val (.cp l3)) v20 v52 v91 s_1)))))) := (Q5 _ _ _).trans (by kernel_rfl)
noncomputable def Z2 : Slot → Slot → Slot → Slot → Slot → St → Res := fun x0 x3 x6 x7 x8 s => lpD Q3a [.seqR, .seqR, .seqL, .seqR, .block] Tryz.f65 [(0, .s x0), (3, .s x3), (6, .s x6), (7, .s x7), (8, .s x8)] s
theorem Q4W : ∀ x0 x3 x6 x7 x8 s_1, Z2 x0 x3 x6 x7 x8 s_1 =
 bn Q1 .lss x8 x7 fun v9 =>
 condS v9 (
 ix Q2 x6 x8 fun v11 =>
 ld Q2 s_1 v11 fun v12 =>
 bn Q1 .gtr x8 (iv 0) fun v14 =>
 iT v14 fun w =>
 bind1 (gd w (bslF (C.ti Q2).size [(sv [40]), (sv [126]), (sv [33])])) fun v16 =>
 iT v14 fun w_1 =>
 back (noPan (cal cw w_1 (tgtV (.val (.fn Q0i [])) [v16]) s_1)) fun v17 s_2 =>
 iT v14 fun w_2 =>
 iT v14 fun w_3 =>
 iT v14 fun w_4 =>
 gB w_4 Q1 .sub (gdV w_3 x8) (iv 1) fun v20 =>
 iT v14 fun w_5 =>
 bind1 (gd w_5 (ixS (C.ti Q2).size (gdV w_2 x0) v20)) fun v21 =>
 iT v14 fun w_6 =>
 bind1 (gd w_6 (ldV (C.ti Q2) true s_2 v21)) fun v22 =>
 iT v14 fun w_7 =>
 back (noPan (cal cw w_7 (tgtV (.val (.fn Qe [])) [v17, v22]) s_2)) fun v23 s_3 =>
 iT v14 fun w_8 =>
 gN w_8 v23 fun v24 =>
 pk v14 v24 (bv false) fun v25 =>
 iT v25 fun w_9 =>
 bind1 (gd w_9 (bslF (C.ti Q2).size [(sv [41]), (sv [44]), (sv [59])])) fun v27 =>
 iT v25 fun w_10 =>
 back (noPan (cal cw w_10 (tgtV (.val (.fn Q0i [])) [v27]) s_3)) fun v28 s_4 =>
 iT v25 fun w_11 =>
 iT v25 fun w_12 =>
 back (noPan (cal cw w_12 (tgtV (.val (.fn Qe [])) [v28, (gdV w_11 v12)]) s_4)) fun v30 s_5 =>
 iT v25 fun w_13 =>
 gN w_13 v30 fun v31 =>
 pk v25 v31 (bv false) fun v32 =>
 condS v32 (
 ca Zo [x3, (.val (.int .u8 32))] s_5 fun v33 s_6 =>
 ca QR [x3, v12] s_6 fun v35 s_7 =>
 nx x8 fun v36 =>
 Z2 x0 x3 x6 x7 v36 s_7) (
 ca QR [x3, v12] s_5 fun v35_1 s_8 =>
 nx x8 fun v36_1 =>
 Z2 x0 x3 x6 x7 v36_1 s_8)) (
 ca ZT [x3] s_1 fun v37 s_9 =>
 some (.ret v37, s_9)) := by intros; unfold Z2; exact (Qd _ _ _ _ _ _).trans (by kernel_rfl)
theorem Qek (a0 : AV) (s : St) : cw (.f Q3a) [a0] s =
 ln Qs (.val a0) fun v7 =>
 Z2 (.val a0) (.val (.vp s.locs.length 0)) (.val a0) v7 (iv 0) (St.addLocT s (.var (List.map .val (C.ti QW).zero)) QW) := (Q5 _ _ _).trans (by kernel_rfl)
noncomputable def Q1Q : Slot → Slot → Slot → St → Res := fun x1 x5 x6 s => pwD ZH [.seqR, .seqR, .seqR, .seqR] Tryz.f66 [(1, .s x1), (5, .s x5), (6, .s x6)] s
theorem Qb7 : ∀ x1 x5 x6 s_7, Q1Q x1 x5 x6 s_7 =
 bn Q1 .lss x5 x1 fun v82 =>
 condS v82 (
 ca Q4B [x6] s_7 fun v84 s_8 =>
 some (.ret v84, s_8)) (
 some (.ret x6, s_7)) := by intros; unfold Q1Q; exact (Q08 _).trans (by kernel_rfl)
theorem Qfd (a0 : AV) (a1 : AV) (s : St) : cw (.f ZH) [a0, a1] s =
 bx Q3 (.val a0) fun c2 =>
 bindA (avs c2) fun l2 =>
 fa 0 (.val (.cp l2)) fun v20 =>
 ld Q8 s v20 fun v21 =>
 bn Q8 .eql v21 (iv 1) fun v22 =>
 condS v22 (
 fa 1 (.val (.cp l2)) fun v23 =>
 ld Q1 s v23 fun v24 =>
 ca Q2t [v24] s fun v25 s_1 =>
 bs Q2 [v25] fun v26 =>
 ca Q0i [v26] s_1 fun v27 s_2 =>
 some (.ret v27, s_2)) (
 fa 2 (.val (.cp l2)) fun v29 =>
 ld Q2 s v29 fun v30 =>
 bn Q2 .eql v30 (sv [45, 62]) fun v31 =>
 condS v31 (
 fa 3 (.val (.cp l2)) fun v32 =>
 bind1 (ldV (C.ti Q6) true s v32) fun v33 =>
 ix Q3 v33 (iv 0) fun v34 =>
 bind1 (ldV (C.ti Q3) true s v34) fun v35 =>
 cn ZH [v35, (iv 1)] s fun v36 s_3 =>
 bs Q2 [(sv [45, 62])] fun v37 =>
 cn Q0i [v37] s_3 fun v38 s_4 =>
 fa 3 (.val (.cp l2)) fun v39 =>
 bind1 (ldV (C.ti Q6) true s_4 v39) fun v40 =>
 ix Q3 v40 (iv 1) fun v41 =>
 bind1 (ldV (C.ti Q3) true s_4 v41) fun v42 =>
 cn ZH [v42, (iv 0)] s_4 fun v43 s_5 =>
 bs Qs [v36, v38, v43] fun v44 =>
 cn Q03 [v44] s_5 fun v45 s_6 =>
 Q1Q (.val a1) (iv 0) v45 s_6) (
 fa 2 (.val (.cp l2)) fun v47 =>
 ld Q2 s v47 fun v48 =>
 bn Q2 .eql v48 (sv [42]) fun v49 =>
 condS v49 (
 fa 3 (.val (.cp l2)) fun v50 =>
 ld Q6 s v50 fun v51 =>
 ln Q6 v51 fun v52 =>
 bind1 (fnS Q1k [(.val (.cp l2))]) fun v53 =>
 ca Q0q [(sv [42]), v52, v53] s fun v54 s_9 =>
 Q1Q (.val a1) (iv 1) v54 s_9) (
 fa 3 (.val (.cp l2)) fun v56 =>
 ld Q6 s v56 fun v57 =>
 ln Q6 v57 fun v58 =>
 bn Q1 .eql v58 (iv 0) fun v59 =>
 condS v59 (
 fa 2 (.val (.cp l2)) fun v60 =>
 ld Q2 s v60 fun v61 =>
 bs Q2 [v61] fun v62 =>
 ca Q0i [v62] s fun v63 s_10 =>
 some (.ret v63, s_10)) (
 fa 3 (.val (.cp l2)) fun v65 =>
 ld Q6 s v65 fun v66 =>
 ln Q6 v66 fun v67 =>
 bn Q1 .eql v67 (iv 1) fun v68 =>
 condS v68 (
 fa 3 (.val (.cp l2)) fun v69 =>
 bind1 (ldV (C.ti Q6) true s v69) fun v70 =>
 ix Q3 v70 (iv 0) fun v71 =>
 bind1 (ldV (C.ti Q3) true s v71) fun v72 =>
 cn ZH [v72, (iv 2)] s fun v73 s_11 =>
 fa 2 (.val (.cp l2)) fun v74 =>
 bind1 (ldV (C.ti Q2) true s_11 v74) fun v75 =>
 bs Q2 [v75] fun v76 =>
 cn Q0i [v76] s_11 fun v77 s_12 =>
 bs Qs [v73, v77] fun v78 =>
 cn Q03 [v78] s_12 fun v79 s_13 =>
 some (.ret v79, s_13)) (
 fa 3 (.val (.cp l2)) fun v7 =>
 bind1 (ldV (C.ti Q6) true s v7) fun v8 =>
 ln Q6 v8 fun v9 =>
 bind1 (fnS Q1l [(.val (.cp l2))]) fun v10 =>
 cn Q0q [(sv [44]), v9, v10] s fun v11 s_14 =>
 cn Q4B [v11] s_14 fun v12 s_15 =>
 fa 2 (.val (.cp l2)) fun v13 =>
 bind1 (ldV (C.ti Q2) true s_15 v13) fun v14 =>
 bs Q2 [v14] fun v15 =>
 cn Q0i [v15] s_15 fun v16 s_16 =>
 bs Qs [v12, v16] fun v17 =>
 cn Q03 [v17] s_16 fun v18 s_17 =>
 some (.ret v18, s_17)))))) := (Q5 _ _ _).trans (by kernel_rfl)
noncomputable def Q3r : List Slot → List Slot → Slot → Slot → Slot → St → Res := fun x2 x3 x9 x10 x11 s => lpD Q2U [.seqR, .seqR, .seqR, .seqL, .seqR, .block] Tryz.f67 [(2, .var x2), (3, .var x3), (9, .s x9), (10, .s x10), (11, .s x11)] s
theorem Q7C : ∀ x2 x3 x9 x10 x11 s_1, Q3r x2 x3 x9 x10 x11 s_1 =
 bn Q1 .lss x11 x10 fun v12 =>
 condS v12 (
 ix Q3 x9 x11 fun v13 =>
 ld Q3 s_1 v13 fun v14 =>
 bx Q3 v14 fun c_2 =>
 pZ Q3 c_2 fun c5 =>
 gC Q6 3 x3 fun v16 =>
 gA Q3 c5 fun v17 =>
 cn Q2U [v17] s_1 fun v18 s_2 =>
 bs Q3 [v18] fun v19 =>
 ap Q3 s_2 v16 v19 fun v20 s_3 =>
 bx Q6 v20 fun c_3 =>
 pt x3 3 c_3 fun c3_2 =>
 nx x11 fun v22 =>
 Q3r x2 c3_2 x9 x10 v22 s_3) (
 gA Q3 x3 fun v23 =>
 bx Q3 v23 fun c_4 =>
 pt x2 0 c_4 fun c2 =>
 gA Q3 c2 fun v => some (.ret v, s_1)) := by intros; unfold Q3r; exact (Qd _ _ _ _ _ _).trans (by kernel_rfl)
theorem Qie (a0 : AV) (s : St) : cw (.f Q2U) [a0] s =
 bx Q3 (.val a0) fun c1 =>
 gA Q3 c1 fun v6 =>
 bx Q3 v6 fun c =>
 pZ Q3 c fun c3 =>
 bx Q6 (.val (.nils)) fun c_1 =>
 pt c3 3 c_1 fun c3_1 =>
 gC Q6 3 c1 fun v9 =>
 ln Q6 v9 fun v10 =>
 Q3r ((List.map .val (C.ti Q3).zero)) c3_1 v9 v10 (iv 0) s := (Q5 _ _ _).trans (by kernel_rfl)
theorem Q1K (a0 : AV) (a1 : AV) (s : St) : cw (.f QZ) [a0, a1] s =
 ca Qw [(.val a0), (.val a1)] s fun v7 s_1 =>
 condS v7 (
 ln Q2 (.val a1) fun v10 =>
 bind1 (sliceS (C.ti Q2) 0 (.val a0) (some v10) none none) fun v11 =>
 some (.ret v11, s_1)) (
 some (.ret (.val a0), s_1)) := (Q5 _ _ _).trans (by kernel_rfl)
theorem Qf4 (a0 : AV) (s : St) : cw (.f Q3P) [a0] s =
 ca Q2S [(.val a0)] s fun v4 s_1 =>
 some (.ret v4, s_1) := (Q5 _ _ _).trans (by kernel_rfl)
theorem Qeb (a0 : AV) (s : St) : cw (.f Q38) [a0] s =
 bn Q1 .rem (.val a0) (iv 26) fun v5 =>
 bn Q1 .add (iv 97) v5 fun v6 =>
 bind1 (convS (C.ti Q1) (C.ti Q9) v6) fun v7 =>
 bs Q9 [v7] fun v8 =>
 bind1 (convS (C.ti Qz) (C.ti Q2) v8 (C.ti Q9).k) fun v9 =>
 bn Q1 .gtr (.val a0) (iv 25) fun v11 =>
 condS v11 (
 bn Q1 .quo (.val a0) (iv 26) fun v14 =>
 ca Q1j [v14] s fun v15 s_1 =>
 bn Q2 .add v9 v15 fun v16 =>
 some (.ret v16, s_1)) (
 some (.ret v9, s)) := (Q5 _ _ _).trans (by kernel_rfl)
theorem Qfa (a0 : AV) (a1 : AV) (a2 : AV) (s : St) : cw (.f Q0K) [a0, a1, a2] s =
 bx Q3 (.val a0) fun c3 =>
 gA Q3 c3 fun v8 =>
 ca ZS [v8, (.val a1)] s fun v10 s_1 =>
 gA Q3 c3 fun v11 =>
 ca Q3u [v11] s_1 fun v12 s_2 =>
 bn Q1 .lss v12 (.val a2) fun v14 =>
 condS v14 (
 bn Q2 .add (sv [40]) v10 fun v16 =>
 bn Q2 .add v16 (sv [41]) fun v17 =>
 some (.ret v17, s_2)) (
 some (.ret v10, s_2)) := (Q5 _ _ _).trans (by kernel_rfl)
noncomputable def Qq : Slot → Slot → Slot → Slot → St → Res := fun x0 x1 x7 x8 s => lpD QI [.seqR, .seqL, .seqR, .block] Tryz.f72 [(0, .s x0), (1, .s x1), (7, .s x7), (8, .s x8)] s
theorem Qr : ∀ x0 x1 x7 x8 s_1, Qq x0 x1 x7 x8 s_1 =
 bn Q1 .lss x8 x7 fun v9 =>
 condS v9 (
 ix Q3 x0 x8 fun v14 =>
 ld Q3 s_1 v14 fun v15 =>
 back (cal cw true (tgtV x1 [v15]) s_1) fun v16 s_2 =>
 condS v16 (
 some (.ret x8, s_2)) (
 nx x8 fun v18 =>
 Qq x0 x1 x7 v18 s_2)) (
 some (.ret (iv (-1)), s_1)) := by intros; unfold Qq; exact (Qd _ _ _ _ _ _).trans (by kernel_rfl)
theorem ZD (a0 : AV) (a1 : AV) (s : St) : cw (.f QI) [a0, a1] s =
 ln Q6 (.val a0) fun v7 =>
 Qq (.val a0) (.val a1) v7 (iv 0) s := (Q5 _ _ _).trans (by kernel_rfl)
noncomputable def Q1v : Slot → List Slot → List Slot → Slot → Slot → Slot → St → Res := fun x1 x4 x5 x23 x24 x25 s => lpD Q12 [.seqR, .seqR, .seqR, .seqL, .seqR, .block] Tryz.f73 [(1, .s x1), (4, .var x4), (5, .var x5), (23, .s x23), (24, .s x24), (25, .s x25)] s
theorem Q52 : ∀ x1 x4 x5 x23 x24 x25 s_2, Q1v x1 x4 x5 x23 x24 x25 s_2 =
 bn Q1 .lss x25 x24 fun v26 =>
 condS v26 (
 ix Q3 x23 x25 fun v27 =>
 ld Q3 s_2 v27 fun v28 =>
 bx Q3 v28 fun c_2 =>
 pZ Q3 c_2 fun c7 =>
 gC Q6 3 x5 fun v30 =>
 gA Q3 c7 fun v31 =>
 cn Q12 [v31, x1] s_2 fun v33 s_3 =>
 bs Q3 [v33] fun v34 =>
 ap Q3 s_3 v30 v34 fun v35 s_4 =>
 bx Q6 v35 fun c_3 =>
 pt x5 3 c_3 fun c5_1 =>
 nx x25 fun v37 =>
 Q1v x1 x4 c5_1 x23 x24 v37 s_4) (
 gA Q3 x5 fun v38 =>
 bx Q3 v38 fun c_4 =>
 pt x4 0 c_4 fun c4_1 =>
 gA Q3 c4_1 fun v => some (.ret v, s_2)) := by intros; unfold Q1v; exact (Qd _ _ _ _ _ _).trans (by kernel_rfl)
theorem Qew (a0 : AV) (a1 : AV) (s : St) : cw (.f Q12) [a0, a1] s =
 bx Q3 (.val a0) fun c2 =>
 gC Q8 0 c2 fun v9 =>
 bn Q8 .eql v9 (iv 1) fun v10 =>
 condS v10 (
 gC Q1 1 c2 fun v13 =>
 back (cal cw true (tgtV (.val a1) [v13]) s) fun v14 s_1 =>
 bx Q3 v14 fun c =>
 pZ Q3 c fun c4 =>
 gA Q3 c4 fun v => some (.ret v, s_1)) (
 gC Q8 0 c2 fun v16 =>
 gC Q1 1 c2 fun v18 =>
 gC Q2 2 c2 fun v20 =>
 bd Q3 [(0, Q8, v16), (1, Q1, v18), (2, Q2, v20)] fun v21 =>
 bx Q3 v21 fun c_1 =>
 pZ Q3 c_1 fun c5 =>
 gC Q6 3 c2 fun v23 =>
 ln Q6 v23 fun v24 =>
 Q1v (.val a1) ((List.map .val (C.ti Q3).zero)) c5 v23 v24 (iv 0) s) := (Q5 _ _ _).trans (by kernel_rfl)
theorem Q8y (a0 : AV) (a1 : AV) (s : St) : cw (.f Q5O) [a0, a1] s =
 bn Q1 .geq (.val a0) (iv 0) fun v5 =>
 iT v5 fun w =>
 iT v5 fun w_1 =>
 bind1 (gd w_1 (ldV (C.ti Q6) false s (.val a1))) fun v8 =>
 iT v5 fun w_2 =>
 gL w_2 Q6 v8 fun v9 =>
 iT v5 fun w_3 =>
 gB w_3 Q1 .lss (gdV w (.val a0)) v9 fun v10 =>
 pk v5 v10 (bv false) fun v11 =>
 condS v11 (
 ld Q6 s (.val a1) fun v12 =>
 ix Q3 v12 (.val a0) fun v14 =>
 ld Q3 s v14 fun v15 =>
 ca Q2U [v15] s fun v16 s_1 =>
 bx Q3 v16 fun c =>
 pZ Q3 c fun c3 =>
 gA Q3 c3 fun v => some (.ret v, s_1)) (
 bd Q3 [(0, Q8, (iv 1)), (1, Q1, (.val a0))] fun v18 =>
 bx Q3 v18 fun c_1 =>
 pZ Q3 c_1 fun c3_1 =>
 gA Q3 c3_1 fun v => some (.ret v, s)) := (Q5 _ _ _).trans (by kernel_rfl)
noncomputable def Qv : Slot → Slot → Slot → Slot → Slot → St → Res := fun x1 x2 x15 x16 x17 s => lpD QK [.seqR, .seqR, .seqL, .seqR, .block] Tryz.f75 [(1, .s x1), (2, .s x2), (15, .s x15), (16, .s x16), (17, .s x17)] s
theorem Zr : ∀ x1 x2 x15 x16 x17 s_1, Qv x1 x2 x15 x16 x17 s_1 =
 bn Q1 .lss x17 x16 fun v18 =>
 condS v18 (
 ix Q3 x15 x17 fun v20 =>
 ld Q3 s_1 v20 fun v21 =>
 bx Q3 v21 fun c =>
 pZ Q3 c fun c8 =>
 ix Q3 x1 x17 fun v24 =>
 ld Q3 s_1 v24 fun v25 =>
 bx Q3 v25 fun c_1 =>
 pZ Q3 c_1 fun c9 =>
 gA Q3 c8 fun v27 =>
 gA Q3 c9 fun v28 =>
 back (cal cw true (tgtV x2 [v27, v28]) s_1) fun v29 s_2 =>
 nt v29 fun v30 =>
 condS v30 (
 some (.ret (bv false), s_2)) (
 nx x17 fun v31 =>
 Qv x1 x2 x15 x16 v31 s_2)) (
 some (.ret (bv true), s_1)) := by intros; unfold Qv; exact (Qd _ _ _ _ _ _).trans (by kernel_rfl)
theorem Q1S (a0 : AV) (a1 : AV) (a2 : AV) (s : St) : cw (.f QK) [a0, a1, a2] s =
 ln Q6 (.val a0) fun v11 =>
 ln Q6 (.val a1) fun v13 =>
 bn Q1 .neq v11 v13 fun v14 =>
 condS v14 (
 some (.ret (bv false), s)) (
 ln Q6 (.val a0) fun v16 =>
 Qv (.val a1) (.val a2) (.val a0) v16 (iv 0) s) := (Q5 _ _ _).trans (by kernel_rfl)
noncomputable def Q1d : Slot → Slot → St → Res := fun x5 x6 s => pwD Q3Q [.seqR, .seqL, .seqR, .block, .seqR] Tryz.f76 [(5, .s x5), (6, .s x6)] s
theorem Qbb : ∀ x5 x6 s_1, Q1d x5 x6 s_1 =
 condS x6 (
 rt [(some (iv 0)), (some (iv 0)), (some (bv true))] s_1) (
 bn Q2 .eql x5 (sv [114, 101, 102]) fun v12 =>
 condS v12 (
 rt [(some (iv 1)), (some (iv 1)), (some (bv true))] s_1) (
 bn Q2 .eql x5 (sv [45, 62]) fun v14 =>
 condS v14 (
 rt [(some (iv 2)), (some (iv 2)), (some (bv true))] s_1) (
 bn Q2 .eql x5 (sv [42]) fun v16 =>
 condS v16 (
 rt [(some (iv 2)), (some (iv 8)), (some (bv true))] s_1) (
 rt [(some (iv 0)), (some (iv 8)), (some (bv false))] s_1)))) := by intros; unfold Q1d; exact (Q08 _).trans (by kernel_rfl)
theorem Qfl (a0 : AV) (s : St) : cw (.f Q3Q) [a0] s =
 bn Q2 .eql (.val a0) (sv [105, 110, 116]) fun v7 =>
 condS v7 (
 Q1d (.val a0) v7 s) (
 bn Q2 .eql (.val a0) (sv [98, 111, 111, 108]) fun v8 =>
 condS v8 (
 Q1d (.val a0) v8 s) (
 bn Q2 .eql (.val a0) (sv [117, 110, 105, 116]) fun v9 =>
 condS v9 (
 Q1d (.val a0) v9 s) (
 bn Q2 .eql (.val a0) (sv [101, 120, 110]) fun v10 =>
 Q1d (.val a0) v10 s))) := (Q5 _ _ _).trans (by kernel_rfl)
theorem Qid (a0 : AV) (s : St) : cw (.f Q8E) [a0] s =
 bd ZI [(0, QJ, (iv 2)), (2, Q2, (.val a0))] fun v4 =>
 ca Q2u [v4] s fun v5 s_1 =>
 bind1 (fieldS (C.ti Qb) (C.ti QD) 0 v5) fun v6 =>
 bn QD .eql v6 (iv 0) fun v7 =>
 some (.ret v7, s_1) := (Q5 _ _ _).trans (by kernel_rfl)
theorem QcQ (a0 : AV) (a1 : AV) (a2 : AV) (s : St) : cw (.f Q4c) [a0, a1, a2] s =
 ld Qk s (.val a1) fun v8 =>
 lk Q1 Q1 s v8 (.val a0) true fun v10 =>
 ex v10 0 fun v11 =>
 ex v10 1 fun v12 =>
 nt v12 fun v14 =>
 condS v14 (
 ld QM s (.val a2) fun v15 =>
 ln QM v15 fun v16 =>
 ld Qk s (.val a1) fun v17 =>
 upd2 Q1 Q1 s v17 (.val a0) v16 fun _ s_1 =>
 ld QM s_1 (.val a2) fun v20 =>
 bs Q1 [(.val a0)] fun v22 =>
 ap Q1 s_1 v20 v22 fun v23 s_2 =>
 bx QM v23 fun c =>
 sto s_2 (.val a2) c fun s_3 =>
 bd Q3 [(0, Q8, (iv 1)), (1, Q1, v16)] fun v25 =>
 bx Q3 v25 fun c_1 =>
 pZ Q3 c_1 fun c4 =>
 gA Q3 c4 fun v => some (.ret v, s_3)) (
 bd Q3 [(0, Q8, (iv 1)), (1, Q1, v11)] fun v25_1 =>
 bx Q3 v25_1 fun c_2 =>
 pZ Q3 c_2 fun c4_1 =>
 gA Q3 c4_1 fun v => some (.ret v, s)) := (Q5 _ _ _).trans (by kernel_rfl)
theorem Qcz (a0 : AV) (s : St) : cw (.f Q4b) [a0] s =
 bx Q3 (.val a0) fun c1 =>
 gC Q8 0 c1 fun v6 =>
 bn Q8 .eql v6 (iv 1) fun v7 =>
 condS v7 (
 gC Q1 1 c1 fun v9 =>
 bn Q1 .geq v9 (iv 0) fun v10 =>
 iT v10 fun w =>
 iT v10 fun w_1 =>
 gG w_1 w Q2 2 c1 fun v13 =>
 iT v10 fun w_2 =>
 gB w_2 Q2 .eql v13 (sv []) fun v14 =>
 pk v10 v14 (bv false) fun v15 =>
 iT v15 fun w_3 =>
 iT v15 fun w_4 =>
 gG w_4 w_3 Q6 3 c1 fun v18 =>
 iT v15 fun w_5 =>
 gL w_5 Q6 v18 fun v19 =>
 iT v15 fun w_6 =>
 gB w_6 Q1 .eql v19 (iv 0) fun v20 =>
 pk v15 v20 (bv false) fun v21 =>
 some (.ret v21, s)) (
 gC Q8 0 c1 fun v23 =>
 bn Q8 .neq v23 (iv 2) fun v24 =>
 iF v24 fun w_7 =>
 iF v24 fun w_8 =>
 gG w_8 w_7 Q1 1 c1 fun v27 =>
 iF v24 fun w_9 =>
 gB w_9 Q1 .neq v27 (iv 0) fun v28 =>
 pk v24 (bv true) v28 fun v29 =>
 condS v29 (
 some (.ret (bv false), s)) (
 gC Q2 2 c1 fun v31 =>
 bn Q2 .neq v31 (sv [114, 101, 102]) fun v32 =>
 iT v32 fun w_10 =>
 iT v32 fun w_11 =>
 gG w_11 w_10 Q2 2 c1 fun v35 =>
 iT v32 fun w_12 =>
 gB w_12 Q2 .neq v35 (sv [45, 62]) fun v36 =>
 pk v32 v36 (bv false) fun v37 =>
 iT v37 fun w_13 =>
 iT v37 fun w_14 =>
 gG w_14 w_13 Q2 2 c1 fun v40 =>
 iT v37 fun w_15 =>
 gB w_15 Q2 .neq v40 (sv [42]) fun v41 =>
 pk v37 v41 (bv false) fun v42 =>
 iT v42 fun w_16 =>
 iT v42 fun w_17 =>
 gG w_17 w_16 Q2 2 c1 fun v45 =>
 iT v42 fun w_18 =>
 cg w_18 Q55 [v45] s fun v46 s_1 =>
 iT v42 fun w_19 =>
 gN w_19 v46 fun v47 =>
 pk v42 v47 (bv false) fun v48 =>
 condS v48 (
 some (.ret (bv false), s_1)) (
 gC Q2 2 c1 fun v51 =>
 ca Q2o [v51] s_1 fun v52 s_2 =>
 ex v52 0 fun v53 =>
 ex v52 1 fun v54 =>
 gC Q6 3 c1 fun v56 =>
 ln Q6 v56 fun v57 =>
 bn Q1 .geq v57 v53 fun v59 =>
 iT v59 fun w_20 =>
 iT v59 fun w_21 =>
 gG w_21 w_20 Q6 3 c1 fun v62 =>
 iT v59 fun w_22 =>
 gL w_22 Q6 v62 fun v63 =>
 iT v59 fun w_23 =>
 iT v59 fun w_24 =>
 gB w_24 Q1 .leq v63 (gdV w_23 v54) fun v65 =>
 pk v59 v65 (bv false) fun v66 =>
 some (.ret v66, s_2)))) := (Q5 _ _ _).trans (by kernel_rfl)
noncomputable def Q0l : List Slot → Slot → List Slot → St → Res := fun x3_1 x4_1 x5_1 s => pwD Q2l [.seqR, .scope, .seqR, .seqR, .seqR, .seqR, .seqR] Tryz.f80 [(3, .var x3_1), (4, .s x4_1), (5, .var x5_1)] s
noncomputable def Q0m : Slot → List Slot → Slot → List Slot → Slot → St → Res := fun x0 x3 x4 x5 x6 s => lpD Q2l [.seqR, .scope, .seqR, .seqR, .seqR, .seqR, .seqL, .seqR, .block] Tryz.f80 [(0, .s x0), (3, .var x3), (4, .s x4), (5, .var x5), (6, .s x6)] s
theorem QaN : ∀ x3_1 x4_1 x5_1 s_5, Q0l x3_1 x4_1 x5_1 s_5 =
 gC QD 0 x5_1 fun v83 =>
 bn QD .neq v83 (iv 0) fun v84 =>
 condS v84 (
 gA Qb x5_1 fun v85 =>
 bx Qb v85 fun c_3 =>
 pt x3_1 0 c_3 fun c3_1 =>
 rt [(some (.val (.nils))), (ofSlots (C.ti Qb) (List.take (C.ti Qb).size c3_1))] s_5) (
 gA Qb x5_1 fun v87 =>
 bx Qb v87 fun c_4 =>
 pt x3_1 0 c_4 fun c3_2 =>
 rt [(some x4_1), (ofSlots (C.ti Qb) (List.take (C.ti Qb).size c3_2))] s_5) := by intros; unfold Q0l; exact (Q08 _).trans (by kernel_rfl)
theorem QaO : ∀ x0 x3 x4 x5 x6 s_1, Q0m x0 x3 x4 x5 x6 s_1 =
 ln Q2 x0 fun v17 =>
 bn Q1 .lss x6 v17 fun v18 =>
 condS v18 (
 bind1 (indexS (C.ti Q2) (C.ti T_0) x0 x6) fun v58 =>
 ca Q1f [(sv [32, 9, 10, 13]), v58] s_1 fun v59 s_2 =>
 bn Q1 .geq v59 (iv 0) fun v60 =>
 condS v60 (
 nx x6 fun v62 =>
 Q0m x0 x3 x4 x5 v62 s_2) (
 bind1 (sliceS (C.ti Q2) 0 x0 (some x6) none none) fun v66 =>
 ca Q1e [v66, (sv [40, 42])] s_2 fun v67 s_3 =>
 condS v67 (
 ca Q2n [x0, x6] s_3 fun v70 s_4 =>
 bn Q1 .lss v70 (iv 0) fun v72 =>
 condS v72 (
 bd Qb [(0, QD, (iv 12)), (1, Q1, x6)] fun v74 =>
 bx Qb v74 fun c_2 =>
 pt x5 0 c_2 fun c5_1 =>
 Q0l x3 x4 c5_1 s_4) (
 Q0m x0 x3 x4 x5 v70 s_4)) (
 ln Q1E x4 fun v78 =>
 bn Q1 .geq v78 (iv 16384) fun v79 =>
 condS v79 (
 bd Qb [(0, QD, (iv 4)), (1, Q1, x6)] fun v81 =>
 bx Qb v81 fun c_5 =>
 pt x5 0 c_5 fun c5_2 =>
 Q0l x3 x4 c5_2 s_3) (
 bind1 (sliceS (C.ti Q2) 0 x0 (some x6) none none) fun v22 =>
 ln Q1E x4 fun v24 =>
 bn Q1 .gtr v24 (iv 0) fun v25 =>
 iT v25 fun w =>
 iT v25 fun w_1 =>
 iT v25 fun w_2 =>
 gL w_2 Q1E (gdV w_1 x4) fun v29 =>
 iT v25 fun w_3 =>
 gB w_3 Q1 .sub v29 (iv 1) fun v30 =>
 iT v25 fun w_4 =>
 bind1 (gd w_4 (ixS (C.ti Qg).size (gdV w x4) v30)) fun v31 =>
 iT v25 fun w_5 =>
 bind1 (gd w_5 (faV 2 v31)) fun v32 =>
 iT v25 fun w_6 =>
 bind1 (gd w_6 (ldV (C.ti Q2) false s_3 v32)) fun v33 =>
 iT v25 fun w_7 =>
 gB w_7 Q2 .eql v33 (sv [126]) fun v34 =>
 pk v25 v34 (bv false) fun v35 =>
 cn Q4A [v22, v35] s_3 fun v36 s_6 =>
 ex v36 0 fun v37 =>
 ex v36 1 fun v38 =>
 bx Qg v37 fun c_6 =>
 pZ Qg c_6 fun c8 =>
 bn QD .neq v38 (iv 0) fun v40 =>
 condS v40 (
 bd Qb [(0, QD, v38), (1, Q1, x6)] fun v43 =>
 bx Qb v43 fun c_7 =>
 pt x5 0 c_7 fun c5_3 =>
 Q0l x3 x4 c5_3 s_6) (
 bx Q1 x6 fun c_8 =>
 pt c8 1 c_8 fun c8_1 =>
 gA Qg c8_1 fun v47 =>
 bs Qg [v47] fun v48 =>
 ap Qg s_6 x4 v48 fun v49 s_7 =>
 gC Q2 2 c8_1 fun v52 =>
 ln Q2 v52 fun v53 =>
 bn Q1 .add x6 v53 fun v54 =>
 Q0m x0 x3 v49 x5 v54 s_7))))) (
 Q0l x3 x4 x5 s_1) := by intros; unfold Q0m; exact (Qd _ _ _ _ _ _).trans (by kernel_rfl)
theorem Qf0 (a0 : AV) (s : St) : cw (.f Q2l) [a0] s =
 ln Q2 (.val a0) fun v11 =>
 bn Q1 .gtr v11 (iv 65536) fun v12 =>
 condS v12 (
 bd Qb [(0, QD, (iv 4))] fun v13 =>
 bx Qb v13 fun c =>
 pZ Qb c fun c3 =>
 rt [(some (.val (.nils))), (ofSlots (C.ti Qb) (List.take (C.ti Qb).size c3))] s) (
 bd Qb [] fun v14 =>
 bx Qb v14 fun c_1 =>
 pZ Qb c_1 fun c5 =>
 Q0m (.val a0) ((List.map .val (C.ti Qb).zero)) (.val (.nils)) c5 (iv 0) s) := (Q5 _ _ _).trans (by kernel_rfl)
theorem Qb6 (a0 : AV) (a1 : AV) (s : St) : cw (.f ZX) [a0, a1] s =
 bx Q3 (.val a0) fun c2 =>
 gA Q3 c2 fun v4 =>
 ld Q1D s (.val a1) fun v5 =>
 ca Q11 [v4, v5] s fun v6 s_1 =>
 nt v6 fun v7 =>
 some (.ret v7, s_1) := (Q5 _ _ _).trans (by kernel_rfl)
theorem Q1R (a0 : AV) (a1 : AV) (s : St) : cw (.f Qe) [a0, a1] s =
 ca QQ [(.val a0), (.val a1)] s fun v7 s_1 =>
 bn Q1 .geq v7 (iv 0) fun v8 =>
 some (.ret v8, s_1) := (Q5 _ _ _).trans (by kernel_rfl)
theorem ZO (a0 : AV) (s : St) : cw (.f Q0i) [a0] s =
 some (.ret (.val a0), s) := (Q5 _ _ _).trans (by kernel_rfl)
theorem Q34 (a0 : AV) (a1 : AV) (s : St) : cw (.f Zo) [a0, a1] s =
 ca QV [(.val a0)] s fun v6 s_1 =>
 bind1 (nilCheckV (.val a0)) fun v9 =>
 fa 1 v9 fun v10 =>
 ld Qz s_1 v10 fun v11 =>
 bs Q9 [(.val a1)] fun v13 =>
 ap Q9 s_1 v11 v13 fun v14 s_2 =>
 bind1 (nilCheckV (.val a0)) fun v15 =>
 fa 1 v15 fun v16 =>
 bx Qz v14 fun c =>
 sto s_2 v16 c fun s_3 =>
 some (.ret (.val (.nili)), s_3) := (Q5 _ _ _).trans (by kernel_rfl)
theorem Q2O (a0 : AV) (a1 : AV) (s : St) : cw (.f QR) [a0, a1] s =
 ca QV [(.val a0)] s fun v7 s_1 =>
 bind1 (nilCheckV (.val a0)) fun v10 =>
 fa 1 v10 fun v11 =>
 ld Qz s_1 v11 fun v12 =>
 bind2 (appendStr Q9 (C.ti Q9) s_1 v12 (.val a1)) fun v14 s_2 =>
 bind1 (nilCheckV (.val a0)) fun v15 =>
 fa 1 v15 fun v16 =>
 bx Qz v14 fun c =>
 sto s_2 v16 c fun s_3 =>
 ln Q2 (.val a1) fun v18 =>
 rt [(some v18), (some (.val (.nili)))] s_3 := (Q5 _ _ _).trans (by kernel_rfl)
theorem Q96 (a0 : AV) (s : St) : cw (.f Q2t) [a0] s =
 bn Q1 .rem (.val a0) (iv 26) fun v5 =>
 bn Q1 .add (iv 97) v5 fun v6 =>
 bind1 (convS (C.ti Q1) (C.ti Q0v) v6) fun v7 =>
 bind1 (convS (C.ti Q0v) (C.ti Q2) v7) fun v8 =>
 bn Q2 .add (sv [39]) v8 fun v9 =>
 bn Q1 .gtr (.val a0) (iv 25) fun v11 =>
 condS v11 (
 bn Q1 .quo (.val a0) (iv 26) fun v14 =>
 ca Q3P [v14] s fun v15 s_1 =>
 bn Q2 .add v9 v15 fun v16 =>
 some (.ret v16, s_1)) (
 some (.ret v9, s)) := (Q5 _ _ _).trans (by kernel_rfl)
theorem Qfc (a0 : AV) (s : St) : cw (.f Q03) [a0] s =
 ca QE [(.val a0)] s fun v4 s_1 =>
 some (.ret v4, s_1) := (Q5 _ _ _).trans (by kernel_rfl)
noncomputable def Zy : Slot → Slot → Slot → Slot → Slot → St → Res := fun x0 x2 x7 x9 x10 s => lpD Q0q [.seqR, .seqR, .seqL, .seqR, .block] Tryz.f89 [(0, .s x0), (2, .s x2), (7, .s x7), (9, .s x9), (10, .s x10)] s
theorem Q3n : ∀ x0 x2 x7 x9 x10 s_1, Zy x0 x2 x7 x9 x10 s_1 =
 bn Q1 .lss x10 x9 fun v11 =>
 condS v11 (
 bn Q1 .gtr x10 (iv 0) fun v14 =>
 condS v14 (
 bs Q2 [x0] fun v17 =>
 ap Q2 s_1 x7 v17 fun v18 s_2 =>
 back (cal cw true (tgtV x2 [x10]) s_2) fun v22 s_3 =>
 ap Q2 s_3 v18 v22 fun v23 s_4 =>
 nx x10 fun v24 =>
 Zy x0 x2 v23 x9 v24 s_4) (
 back (cal cw true (tgtV x2 [x10]) s_1) fun v22_1 s_5 =>
 ap Q2 s_5 x7 v22_1 fun v23_1 s_6 =>
 nx x10 fun v24_1 =>
 Zy x0 x2 v23_1 x9 v24_1 s_6)) (
 some (.ret x7, s_1)) := by intros; unfold Zy; exact (Qd _ _ _ _ _ _).trans (by kernel_rfl)
theorem Qac (a0 : AV) (a1 : AV) (a2 : AV) (s : St) : cw (.f Q0q) [a0, a1, a2] s =
 Zy (.val a0) (.val a2) (.val (.nils)) (.val a1) (iv 0) s := (Q5 _ _ _).trans (by kernel_rfl)
theorem QcF (a0 : AV) (a1 : AV) (s : St) : cw (.f Q1k) [a0, a1] s =
 fa 3 (.val a1) fun v4 =>
 ld Q6 s v4 fun v5 =>
 ix Q3 v5 (.val a0) fun v7 =>
 ld Q3 s v7 fun v8 =>
 ca ZH [v8, (iv 2)] s fun v9 s_1 =>
 some (.ret v9, s_1) := (Q5 _ _ _).trans (by kernel_rfl)
theorem QgC (a0 : AV) (s : St) : cw (.f Q4B) [a0] s =
 bs Q2 [(sv [40])] fun v3 =>
 ca Q0i [v3] s fun v4 s_1 =>
 bs Q2 [(sv [41])] fun v6 =>
 ca Q0i [v6] s_1 fun v7 s_2 =>
 bs Qs [v4, (.val a0), v7] fun v8 =>
 ca Q03 [v8] s_2 fun v9 s_3 =>
 some (.ret v9, s_3) := (Q5 _ _ _).trans (by kernel_rfl)
theorem QcG (a0 : AV) (a1 : AV) (s : St) : cw (.f Q1l) [a0, a1] s =
 fa 3 (.val a1) fun v4 =>
 ld Q6 s v4 fun v5 =>
 ix Q3 v5 (.val a0) fun v7 =>
 ld Q3 s v7 fun v8 =>
 ca ZH [v8, (iv 0)] s fun v9 s_1 =>
 some (.ret v9, s_1) := (Q5 _ _ _).trans (by kernel_rfl)
theorem ZN (a0 : AV) (a1 : AV) (s : St) : cw (.f Qw) [a0, a1] s =
 ln Q2 (.val a0) fun v6 =>
 ln Q2 (.val a1) fun v8 =>
 bn Q1 .geq v6 v8 fun v9 =>
 iT v9 fun w =>
 iT v9 fun w_1 =>
 iT v9 fun w_2 =>
 gL w_2 Q2 (gdV w_1 (.val a1)) fun v13 =>
 iT v9 fun w_3 =>
 bind1 (gd w_3 (sliceS (C.ti Q2) 0 (gdV w (.val a0)) none (some v13) none)) fun v14 =>
 iT v9 fun w_4 =>
 iT v9 fun w_5 =>
 gB w_5 Q2 .eql v14 (gdV w_4 (.val a1)) fun v16 =>
 pk v9 v16 (bv false) fun v17 =>
 some (.ret v17, s) := (Q5 _ _ _).trans (by kernel_rfl)
noncomputable def Q0X : Slot → Slot → Slot → St → Res := fun x0_1 x3_1 x4 s => lpD Q1j [.seqR, .seqR, .seqR, .seqR, .seqL, .seqR, .block] Tryz.f95 [(0, .s x0_1), (3, .s x3_1), (4, .s x4)] s
noncomputable def Q23 : Slot → Slot → St → Res := fun x0 x3 s => pwD Q1j [.seqR, .seqR, .seqR] Tryz.f95 [(0, .s x0), (3, .s x3)] s
theorem Q2c : ∀ x0_1 x3_1 x4 s_2, Q0X x0_1 x3_1 x4 s_2 =
 bn QL .gtr x3_1 (.val (.int .u64 0)) fun v20 =>
 condS v20 (
 bn QL .rem x3_1 (.val (.int .u64 10)) fun v24 =>
 bn QL .add (.val (.int .u64 48)) v24 fun v25 =>
 bind1 (convS (C.ti QL) (C.ti Q9) v25) fun v26 =>
 bs Q9 [v26] fun v27 =>
 bind1 (convS (C.ti Qz) (C.ti Q2) v27 (C.ti Q9).k) fun v28 =>
 bn Q2 .add v28 x4 fun v30 =>
 bn QL .quo x3_1 (.val (.int .u64 10)) fun v22 =>
 Q0X x0_1 v22 v30 s_2) (
 bn Q1 .lss x0_1 (iv 0) fun v32 =>
 condS v32 (
 bn Q2 .add (sv [45]) x4 fun v34 =>
 some (.ret v34, s_2)) (
 some (.ret x4, s_2))) := by intros; unfold Q0X; exact (Qd _ _ _ _ _ _).trans (by kernel_rfl)
theorem Q8S : ∀ x0 x3 s_1, Q23 x0 x3 s_1 =
 bn QL .rem x3 (.val (.int .u64 10)) fun v12 =>
 bn QL .add (.val (.int .u64 48)) v12 fun v13 =>
 bind1 (convS (C.ti QL) (C.ti Q9) v13) fun v14 =>
 bs Q9 [v14] fun v15 =>
 bind1 (convS (C.ti Qz) (C.ti Q2) v15 (C.ti Q9).k) fun v16 =>
 bn QL .quo x3 (.val (.int .u64 10)) fun v18 =>
 Q0X x0 v18 v16 s_1 := by intros; unfold Q23; exact (Q08 _).trans (by kernel_rfl)
theorem Qcs (a0 : AV) (s : St) : cw (.f Q1j) [a0] s =
 bind1 (convS (C.ti Q1) (C.ti QL) (.val a0)) fun v6 =>
 bn Q1 .lss (.val a0) (iv 0) fun v8 =>
 condS v8 (
 bind1 (unS .neg v6) fun v10 =>
 Q23 (.val a0) v10 s) (
 Q23 (.val a0) v6 s) := (Q5 _ _ _).trans (by kernel_rfl)
theorem QaY (a0 : AV) (s : St) : cw (.f Q3u) [a0] s =
 bx Q3 (.val a0) fun c1 =>
 gC Q8 0 c1 fun v4 =>
 bn Q8 .eql v4 (iv 2) fun v5 =>
 iT v5 fun w =>
 iT v5 fun w_1 =>
 gG w_1 w Q2 2 c1 fun v8 =>
 iT v5 fun w_2 =>
 gB w_2 Q2 .eql v8 (sv [45, 62]) fun v9 =>
 pk v5 v9 (bv false) fun v10 =>
 condS v10 (
 some (.ret (iv 0), s)) (
 gC Q8 0 c1 fun v12 =>
 bn Q8 .eql v12 (iv 2) fun v13 =>
 iT v13 fun w_3 =>
 iT v13 fun w_4 =>
 gG w_4 w_3 Q2 2 c1 fun v16 =>
 iT v13 fun w_5 =>
 gB w_5 Q2 .eql v16 (sv [42]) fun v17 =>
 pk v13 v17 (bv false) fun v18 =>
 condS v18 (
 some (.ret (iv 1), s)) (
 some (.ret (iv 2), s))) := (Q5 _ _ _).trans (by kernel_rfl)
theorem Q98 (a0 : AV) (s : St) : cw (.f Q2u) [a0] s =
 bx ZI (.val a0) fun c1 =>
 bindA (avs c1) fun l1 =>
 ld ZI s (.val (.cp l1)) fun v3 =>
 ca Q2T [v3] s fun v4 s_1 =>
 bind1 (fnS Q1I [(.val (.cp l1))]) fun v5 =>
 ca Q2y [v4, v5] s_1 fun v6 s_2 =>
 bx Qb v6 fun c =>
 pZ Qb c fun c2 =>
 gA Qb c2 fun v => some (.ret v, s_2) := (Q5 _ _ _).trans (by kernel_rfl)
theorem Qea (a0 : AV) (s : St) : cw (.f Q55) [a0] s =
 ca Q1y [(.val a0), (bv false)] s fun v4 s_1 =>
 iT v4 fun w =>
 iT v4 fun w_1 =>
 gB w_1 Q2 .neq (gdV w (.val a0)) (sv [95]) fun v7 =>
 pk v4 v7 (bv false) fun v8 =>
 iT v8 fun w_2 =>
 iT v8 fun w_3 =>
 gB w_3 Q2 .neq (gdV w_2 (.val a0)) (sv [116, 114, 117, 101]) fun v11 =>
 pk v8 v11 (bv false) fun v12 =>
 iT v12 fun w_4 =>
 iT v12 fun w_5 =>
 gB w_5 Q2 .neq (gdV w_4 (.val a0)) (sv [102, 97, 108, 115, 101]) fun v15 =>
 pk v12 v15 (bv false) fun v16 =>
 iT v16 fun w_6 =>
 iT v16 fun w_7 =>
 cg w_7 Q3t [] s_1 fun v19 s_2 =>
 iT v16 fun w_8 =>
 cg w_8 Q1W [(gdV w_6 (.val a0)), v19] s_2 fun v20 s_3 =>
 iT v16 fun w_9 =>
 gN w_9 v20 fun v21 =>
 pk v16 v21 (bv false) fun v22 =>
 some (.ret v22, s_3) := (Q5 _ _ _).trans (by kernel_rfl)
noncomputable def ZY : Slot → Slot → St → Res := fun x4 x5 s => pwD Q2o [.seqR, .seqL, .seqR, .block, .seqR] Tryz.f99 [(4, .s x4), (5, .s x5)] s
theorem Q8T : ∀ x4 x5 s_1, ZY x4 x5 s_1 =
 condS x5 (
 rt [(some (iv 0)), (some (iv 0))] s_1) (
 bn Q2 .eql x4 (sv [114, 101, 102]) fun v11 =>
 condS v11 (
 rt [(some (iv 1)), (some (iv 1))] s_1) (
 bn Q2 .eql x4 (sv [45, 62]) fun v13 =>
 condS v13 (
 rt [(some (iv 2)), (some (iv 2))] s_1) (
 bn Q2 .eql x4 (sv [42]) fun v15 =>
 condS v15 (
 rt [(some (iv 2)), (some (iv 8))] s_1) (
 rt [(some (iv 0)), (some (iv 8))] s_1)))) := by intros; unfold ZY; exact (Q08 _).trans (by kernel_rfl)
theorem Qct (a0 : AV) (s : St) : cw (.f Q2o) [a0] s =
 bn Q2 .eql (.val a0) (sv [105, 110, 116]) fun v6 =>
 condS v6 (
 ZY (.val a0) v6 s) (
 bn Q2 .eql (.val a0) (sv [98, 111, 111, 108]) fun v7 =>
 condS v7 (
 ZY (.val a0) v7 s) (
 bn Q2 .eql (.val a0) (sv [117, 110, 105, 116]) fun v8 =>
 condS v8 (
 ZY (.val a0) v8 s) (
 bn Q2 .eql (.val a0) (sv [101, 120, 110]) fun v9 =>
 ZY (.val a0) v9 s))) := (Q5 _ _ _).trans (by kernel_rfl)
theorem Q6d (a0 : AV) (a1 : AV) (s : St) : cw (.f Q1e) [a0, a1] s =
 ca Qw [(.val a0), (.val a1)] s fun v7 s_1 =>
 some (.ret v7, s_1) := (Q5 _ _ _).trans (by kernel_rfl)
noncomputable def ZC : Slot → Slot → Slot → St → Res := fun x0 x1 x5 s => lpD Q2n [.seqR, .seqL, .seqR, .block] Tryz.f102 [(0, .s x0), (1, .s x1), (5, .s x5)] s
theorem Q8M : ∀ x0 x1 x5 s_1, ZC x0 x1 x5 s_1 =
 nx x1 fun v7 =>
 ln Q2 x0 fun v9 =>
 bn Q1 .lss v7 v9 fun v10 =>
 condS v10 (
 bn Q1 .add x1 (iv 2) fun v14 =>
 bind1 (sliceS (C.ti Q2) 0 x0 (some x1) (some v14) none) fun v15 =>
 bn Q2 .eql v15 (sv [40, 42]) fun v19 =>
 condS v19 (
 nx x5 fun v21 =>
 bn Q1 .add x1 (iv 2) fun v23 =>
 ZC x0 v23 v21 s_1) (
 bn Q2 .eql v15 (sv [42, 41]) fun v25 =>
 condS v25 (
 bn Q1 .sub x5 (iv 1) fun v27 =>
 bn Q1 .add x1 (iv 2) fun v29 =>
 bn Q1 .eql v27 (iv 0) fun v31 =>
 condS v31 (
 some (.ret v29, s_1)) (
 ZC x0 v29 v27 s_1)) (
 nx x1 fun v17 =>
 ZC x0 v17 x5 s_1))) (
 some (.ret (iv (-1)), s_1)) := by intros; unfold ZC; exact (Qd _ _ _ _ _ _).trans (by kernel_rfl)
theorem Qco (a0 : AV) (a1 : AV) (s : St) : cw (.f Q2n) [a0, a1] s =
 ZC (.val a0) (.val a1) (iv 0) s := (Q5 _ _ _).trans (by kernel_rfl)
noncomputable def Q2H : Slot → List Slot → St → Res := fun x2 x4 s => pwD Q4A [.seqR, .seqR, .seqR] Tryz.f103 [(2, .s x2), (4, .var x4)] s
theorem Qcn : ∀ x2 x4 s_6, Q2H x2 x4 s_6 =
 ld Q2 s_6 x2 fun v71 =>
 ca Q3O [v71] s_6 fun v72 s_7 =>
 bn Q2 .neq v72 (sv []) fun v74 =>
 condS v74 (
 bd Qg [(0, Zp, (iv 6)), (2, Q2, v72)] fun v76 =>
 bx Qg v76 fun c_2 =>
 pt x4 0 c_2 fun c4_2 =>
 rt [(ofSlots (C.ti Qg) (List.take (C.ti Qg).size c4_2)), (some (iv 0))] s_7) (
 bd Qg [] fun v77 =>
 bx Qg v77 fun c_3 =>
 pt x4 0 c_3 fun c4_3 =>
 rt [(ofSlots (C.ti Qg) (List.take (C.ti Qg).size c4_3)), (some (iv 11))] s_7) := by intros; unfold Q2H; exact (Q08 _).trans (by kernel_rfl)
theorem Qgu (a0 : AV) (a1 : AV) (s : St) : cw (.f Q4A) [a0, a1] s =
 bx Q2 (.val a0) fun c2 =>
 bindA (avs c2) fun l2 =>
 bind1 (fnS Q0h [(.val (.cp l2))]) fun v14 =>
 ld Q2 s (.val (.cp l2)) fun v15 =>
 bind1 (indexS (C.ti Q2) (C.ti T_0) v15 (iv 0)) fun v16 =>
 ca Q0g [v16] s fun v19 s_1 =>
 condS v19 (
 back (cal cw true (tgtV v14 [(iv 0), (.val (.fn Q0g []))]) s_1) fun v21 s_2 =>
 ca Q2m [v21, (.val a1)] s_2 fun v25 s_3 =>
 ex v25 0 fun v26 =>
 ex v25 1 fun v27 =>
 nt v27 fun v29 =>
 condS v29 (
 bd Qg [] fun v30 =>
 bx Qg v30 fun c =>
 pZ Qg c fun c4 =>
 rt [(ofSlots (C.ti Qg) (List.take (C.ti Qg).size c4)), (some (iv 13))] s_3) (
 bd Qg [(0, Zp, (iv 1)), (2, Q2, v21), (3, Q1, v26)] fun v33 =>
 bx Qg v33 fun c_1 =>
 pZ Qg c_1 fun c4_1 =>
 rt [(ofSlots (C.ti Qg) (List.take (C.ti Qg).size c4_1)), (some (iv 0))] s_3)) (
 ca Q1L [v16] s_1 fun v36 s_4 =>
 condS v36 (
 back (cal cw true (tgtV v14 [(iv 0), (.val (.fn ZJ []))]) s_4) fun v38 s_5 =>
 bn Q2 .eql v38 (sv [95]) fun v40 =>
 condS v40 (
 Q2H (.val (.cp l2)) ((List.map .val (C.ti Qg).zero)) s_5) (
 ln Q2 v38 fun v42 =>
 bn Q1 .gtr v42 (iv 32) fun v43 =>
 condS v43 (
 bd Qg [] fun v44 =>
 bx Qg v44 fun c_4 =>
 pZ Qg c_4 fun c4_4 =>
 rt [(ofSlots (C.ti Qg) (List.take (C.ti Qg).size c4_4)), (some (iv 4))] s_5) (
 ca Q54 [v38] s_5 fun v46 s_8 =>
 bd Qg [(0, Zp, v46), (2, Q2, v38)] fun v48 =>
 bx Qg v48 fun c_5 =>
 pZ Qg c_5 fun c4_5 =>
 rt [(ofSlots (C.ti Qg) (List.take (C.ti Qg).size c4_5)), (some (iv 0))] s_8))) (
 bn Q9 .eql v16 (.val (.int .u8 39)) fun v51 =>
 iT v51 fun w =>
 bind1 (gd w (ldV (C.ti Q2) false s_4 (.val (.cp l2)))) fun v53 =>
 iT v51 fun w_1 =>
 gL w_1 Q2 v53 fun v54 =>
 iT v51 fun w_2 =>
 gB w_2 Q1 .gtr v54 (iv 1) fun v55 =>
 pk v51 v55 (bv false) fun v56 =>
 iT v56 fun w_3 =>
 bind1 (gd w_3 (ldV (C.ti Q2) false s_4 (.val (.cp l2)))) fun v58 =>
 iT v56 fun w_4 =>
 bind1 (gd w_4 (indexS (C.ti Q2) (C.ti T_0) v58 (iv 1))) fun v59 =>
 iT v56 fun w_5 =>
 cg w_5 Q1L [v59] s_4 fun v60 s_9 =>
 pk v56 v60 (bv false) fun v61 =>
 condS v61 (
 back (cal cw true (tgtV v14 [(iv 1), (.val (.fn ZJ []))]) s_9) fun v63 s_10 =>
 ln Q2 v63 fun v65 =>
 bn Q1 .sub v65 (iv 1) fun v66 =>
 bn Q1 .gtr v66 (iv 32) fun v67 =>
 condS v67 (
 bd Qg [] fun v68 =>
 bx Qg v68 fun c_6 =>
 pZ Qg c_6 fun c4_6 =>
 rt [(ofSlots (C.ti Qg) (List.take (C.ti Qg).size c4_6)), (some (iv 4))] s_10) (
 bd Qg [(0, Zp, (iv 4)), (2, Q2, v63)] fun v70 =>
 bx Qg v70 fun c_7 =>
 pZ Qg c_7 fun c4_7 =>
 rt [(ofSlots (C.ti Qg) (List.take (C.ti Qg).size c4_7)), (some (iv 0))] s_10)) (
 Q2H (.val (.cp l2)) ((List.map .val (C.ti Qg).zero)) s_9))) := (Q5 _ _ _).trans (by kernel_rfl)
noncomputable def QG : Slot → Slot → Slot → Slot → St → Res := fun x0 x1 x7 x8 s => lpD QQ [.seqR, .seqL, .seqR, .block] Tryz.f104 [(0, .s x0), (1, .s x1), (7, .s x7), (8, .s x8)] s
theorem ZP : ∀ x0 x1 x7 x8 s_1, QG x0 x1 x7 x8 s_1 =
 bn Q1 .lss x8 x7 fun v9 =>
 condS v9 (
 ix Q2 x0 x8 fun v14 =>
 ld Q2 s_1 v14 fun v15 =>
 bn Q2 .eql x1 v15 fun v16 =>
 condS v16 (
 some (.ret x8, s_1)) (
 nx x8 fun v18 =>
 QG x0 x1 x7 v18 s_1)) (
 some (.ret (iv (-1)), s_1)) := by intros; unfold QG; exact (Qd _ _ _ _ _ _).trans (by kernel_rfl)
theorem Q2N (a0 : AV) (a1 : AV) (s : St) : cw (.f QQ) [a0, a1] s =
 ln Qs (.val a0) fun v7 =>
 QG (.val a0) (.val a1) v7 (iv 0) s := (Q5 _ _ _).trans (by kernel_rfl)
noncomputable def QC : Slot → Slot → Slot → Slot → St → Res := fun x6 x25 x26 x27 s => lpD QE [.seqR, .seqR, .seqR, .seqR, .seqL, .seqR, .block] Tryz.f106 [(6, .s x6), (25, .s x25), (26, .s x26), (27, .s x27)] s
noncomputable def QB : Slot → Slot → Slot → Slot → Slot → St → Res := fun x0 x3 x9 x10 x11 s => lpD QE [.seqR, .seqR, .seqL, .seqR, .block] Tryz.f106 [(0, .s x0), (3, .s x3), (9, .s x9), (10, .s x10), (11, .s x11)] s
theorem ZG : ∀ x6 x25 x26 x27 s_3, QC x6 x25 x26 x27 s_3 =
 bn Q1 .lss x27 x26 fun v28 =>
 condS v28 (
 ix Qs x25 x27 fun v29 =>
 ld Qs s_3 v29 fun v30 =>
 ap Q2 s_3 x6 v30 fun v33 s_4 =>
 nx x27 fun v34 =>
 QC v33 x25 x26 v34 s_4) (
 some (.ret x6, s_3)) := by intros; unfold QC; exact (Qd _ _ _ _ _ _).trans (by kernel_rfl)
theorem ZF : ∀ x0 x3 x9 x10 x11 s_1, QB x0 x3 x9 x10 x11 s_1 =
 bn Q1 .lss x11 x10 fun v12 =>
 condS v12 (
 ix Qs x9 x11 fun v13 =>
 ld Qs s_1 v13 fun v14 =>
 ln Qs v14 fun v17 =>
 bn Q1 .add x3 v17 fun v18 =>
 bn Q1 .lss v18 (iv 0) fun v20 =>
 condS v20 (
 bind1 (ifcS Q2 (sv [108, 101, 110, 32, 111, 117, 116, 32, 111, 102, 32, 114, 97, 110, 103, 101])) fun v21 =>
 panK v21 s_1) (
 nx x11 fun v22 =>
 QB x0 v18 x9 x10 v22 s_1)) (
 ca Zm [(.val (.nils)), x3] s_1 fun v24 s_2 =>
 ln Q0j x0 fun v26 =>
 QC v24 x0 v26 (iv 0) s_2) := by intros; unfold QB; exact (Qd _ _ _ _ _ _).trans (by kernel_rfl)
theorem Q2k (a0 : AV) (s : St) : cw (.f QE) [a0] s =
 ln Q0j (.val a0) fun v10 =>
 QB (.val a0) (iv 0) (.val a0) v10 (iv 0) s := (Q5 _ _ _).trans (by kernel_rfl)
noncomputable def Q3B (x4 : Slot) : Am.Obj := .loop .ready none Q2y [(4, .s x4)] [16] (rngAsg (codeAt [.seqR, .seqR, .seqR, .seqL, .seqR, .block] (body Tryz.f108))) (rngBody (codeAt [.seqR, .seqR, .seqR, .seqL, .seqR, .block] (body Tryz.f108)))
theorem Q9a (x4 : Slot) (y16 : AV) (loc : Nat) (s_5 : St) : yldR C (Q3B x4) loc [y16] s_5 = noPan (
 bx QY (.val y16) fun c_2 =>
 pZ QY c_2 fun c5 =>
 bindS (beginL loc s_5) fun s_6 =>
 gA QY c5 fun v17 =>
 ca Q05 [v17] s_6 fun v18 s_7 =>
 bx Qb v18 fun c_3 =>
 pZ Qb c_3 fun c6 =>
 gC QD 0 c6 fun v20 =>
 bn QD .neq v20 (iv 0) fun v21 =>
 condS v21 (
 gA Qb c6 fun v22 =>
 bx Qb v22 fun c_4 =>
 sto s_7 x4 c_4 fun s_8 =>
 bindS (setLoop loc .done (some .ret) s_8) fun s_9 =>
 some (.ret (bv false), s_9)) (
 bindS (setLoop loc .ready none s_7) fun s_10 =>
 some (.ret (bv true), s_10))) := by kernel_rfl
theorem QcN (a0 : AV) (a1 : AV) (s : St) : cw (.f Q2y) [a0, a1] s =
 ca Q2v [(.val a0), (iv 8193)] (St.addLoc s (.var (List.map .val (C.ti Qb).zero))) fun v8 s_1 =>
 bn Q1 .gtr v8 (iv 8192) fun v9 =>
 condS v9 (
 bd Qb [(0, QD, (iv 4))] fun v10 =>
 bx Qb v10 fun c =>
 sto s_1 (.val (.vp s.locs.length 0)) c fun s_2 =>
 bind1 (ldV (C.ti Qb) false s_2 (.val (.vp s.locs.length 0))) fun v => some (.ret v, s_2)) (
 back (cal cw true (tgtV (.val a1) []) s_1) fun v12 s_3 =>
 bn Q1 .gtr v12 (iv 100) fun v13 =>
 condS v13 (
 bd Qb [(0, QD, (iv 7))] fun v14 =>
 bx Qb v14 fun c_1 =>
 sto s_3 (.val (.vp s.locs.length 0)) c_1 fun s_4 =>
 bind1 (ldV (C.ti Qb) false s_4 (.val (.vp s.locs.length 0))) fun v => some (.ret v, s_4)) (
 rangeC C cw (.val a0) s_3.locs.length (St.addLoc s_3 (Q3B (.val (.vp s.locs.length 0)))) fun s_11 =>
 endX s_3.locs.length s_11 (fun s_12 =>
 bd Qb [] fun v23 =>
 bx Qb v23 fun c_5 =>
 sto s_12 (.val (.vp s.locs.length 0)) c_5 fun s_15 =>
 bind1 (ldV (C.ti Qb) false s_15 (.val (.vp s.locs.length 0))) fun v => some (.ret v, s_15)) (fun s_13 =>
 bind1 (ldV (C.ti Qb) false s_13 (.val (.vp s.locs.length 0))) fun v => some (.ret v, s_13)) (fun j s_14 =>
 bif Nat.beq j 0 then (
 bd Qb [] fun v23_1 =>
 bx Qb v23_1 fun c_6 =>
 sto s_14 (.val (.vp s.locs.length 0)) c_6 fun s_16 =>
 bind1 (ldV (C.ti Qb) false s_16 (.val (.vp s.locs.length 0))) fun v => some (.ret v, s_16)) else (
(none : Res))))) := (Q5 _ _ _).trans (by kernel_rfl)
theorem Qak (a0 : AV) (s : St) : cw (.f Q2T) [a0] s =
 bx ZI (.val a0) fun c1 =>
 bindA (avs c1) fun l1 =>
 bind1 (fnS Q28 [(.val (.cp l1))]) fun v3 =>
 some (.ret v3, s) := (Q5 _ _ _).trans (by kernel_rfl)
theorem Q7o (a0 : AV) (s : St) : cw (.f Q1I) [a0] s =
 ld ZI s (.val a0) fun v2 =>
 ca ZQ [v2] s fun v3 s_1 =>
 some (.ret v3, s_1) := (Q5 _ _ _).trans (by kernel_rfl)
noncomputable def Q0f : Slot → Slot → Slot → Slot → St → Res := fun x3 x7 x8 x9 s => lpD ZQ [.seqR, .seqR, .seqL, .seqR, .block] Tryz.f111 [(3, .s x3), (7, .s x7), (8, .s x8), (9, .s x9)] s
theorem Q3q : ∀ x3 x7 x8 x9 s_1, Q0f x3 x7 x8 x9 s_1 =
 bn Q1 .lss x9 x8 fun v10 =>
 condS v10 (
 ix ZI x7 x9 fun v11 =>
 ld ZI s_1 v11 fun v12 =>
 bx ZI v12 fun c =>
 pZ ZI c fun c5 =>
 gA ZI c5 fun v14 =>
 ca ZQ [v14] s_1 fun v15 s_2 =>
 bind1 (max2 x3 v15) fun v16 =>
 nx x9 fun v17 =>
 Q0f v16 x7 x8 v17 s_2) (
 nx x3 fun v19 =>
 some (.ret v19, s_1)) := by intros; unfold Q0f; exact (Qd _ _ _ _ _ _).trans (by kernel_rfl)
theorem Qaj (a0 : AV) (s : St) : cw (.f ZQ) [a0] s =
 bx ZI (.val a0) fun c1 =>
 gC Ze 4 c1 fun v7 =>
 ln Ze v7 fun v8 =>
 Q0f (iv 0) v7 v8 (iv 0) s := (Q5 _ _ _).trans (by kernel_rfl)
noncomputable def Zx : Slot → Slot → St → Res := fun x0 x5 s => lpD Q1y [.seqR, .seqR, .seqL, .seqR, .block] Tryz.f112 [(0, .s x0), (5, .s x5)] s
theorem Q3j : ∀ x0 x5 s_2, Zx x0 x5 s_2 =
 ln Q2 x0 fun v23 =>
 bn Q1 .lss x5 v23 fun v24 =>
 condS v24 (
 bind1 (indexS (C.ti Q2) (C.ti T_0) x0 x5) fun v29 =>
 ca Q49 [v29] s_2 fun v30 s_3 =>
 nt v30 fun v31 =>
 condS v31 (
 some (.ret (bv false), s_3)) (
 nx x5 fun v26 =>
 Zx x0 v26 s_3)) (
 some (.ret (bv true), s_2)) := by intros; unfold Zx; exact (Qd _ _ _ _ _ _).trans (by kernel_rfl)
theorem Qa2 (a0 : AV) (a1 : AV) (s : St) : cw (.f Q1y) [a0, a1] s =
 ln Q2 (.val a0) fun v7 =>
 bn Q1 .lss v7 (iv 1) fun v8 =>
 iF v8 fun w =>
 iF v8 fun w_1 =>
 gL w_1 Q2 (gdV w (.val a0)) fun v11 =>
 iF v8 fun w_2 =>
 gB w_2 Q1 .gtr v11 (iv 32) fun v12 =>
 pk v8 (bv true) v12 fun v13 =>
 iF v13 fun w_3 =>
 iF v13 fun w_4 =>
 bind1 (gd w_4 (indexS (C.ti Q2) (C.ti T_0) (gdV w_3 (.val a0)) (iv 0))) fun v16 =>
 iF v13 fun w_5 =>
 iF v13 fun w_6 =>
 cg w_6 Q2R [v16, (gdV w_5 (.val a1))] s fun v18 s_1 =>
 iF v13 fun w_7 =>
 gN w_7 v18 fun v19 =>
 pk v13 (bv true) v19 fun v20 =>
 condS v20 (
 some (.ret (bv false), s_1)) (
 Zx (.val a0) (iv 1) s_1) := (Q5 _ _ _).trans (by kernel_rfl)
noncomputable def Q0z : Slot → Slot → Slot → St → Res := fun x0 x1 x5 s => lpD Q1W [.seqR, .seqL, .seqR, .block] Tryz.f113 [(0, .s x0), (1, .s x1), (5, .s x5)] s
theorem Q3F : ∀ x0 x1 x5 s_1, Q0z x0 x1 x5 s_1 =
 ln Qs x1 fun v8 =>
 bn Q1 .lss x5 v8 fun v9 =>
 condS v9 (
 ix Q2 x1 x5 fun v14 =>
 ld Q2 s_1 v14 fun v15 =>
 bn Q2 .eql v15 x0 fun v17 =>
 condS v17 (
 some (.ret (bv true), s_1)) (
 nx x5 fun v11 =>
 Q0z x0 x1 v11 s_1)) (
 some (.ret (bv false), s_1)) := by intros; unfold Q0z; exact (Qd _ _ _ _ _ _).trans (by kernel_rfl)
theorem QaS (a0 : AV) (a1 : AV) (s : St) : cw (.f Q1W) [a0, a1] s =
 Q0z (.val a0) (.val a1) (iv 0) s := (Q5 _ _ _).trans (by kernel_rfl)
theorem QaR (s : St) : cw (.f Q3t) [] s =
 bs Q2 [(sv [97, 110, 100]), (sv [97, 110, 100, 97, 108, 115, 111]), (sv [97, 115]), (sv [99, 97, 115, 101]), (sv [100, 97, 116, 97, 116, 121, 112, 101]), (sv [100, 105, 118]), (sv [101, 108, 115, 101]), (sv [101, 110, 100]), (sv [101, 120, 99, 101, 112, 116, 105, 111, 110]), (sv [102, 110]), (sv [102, 117, 110]), (sv [104, 97, 110, 100, 108, 101]), (sv [105, 102]), (sv [105, 110]), (sv [108, 101, 116]), (sv [109, 111, 100]), (sv [111, 102]), (sv [111, 114, 101, 108, 115, 101]), (sv [112, 114, 105, 110, 116]), (sv [114, 97, 105, 115, 101]), (sv [114, 101, 97, 100]), (sv [114, 101, 102]), (sv [116, 104, 101, 110]), (sv [118, 97, 108])] fun v1 =>
 some (.ret v1, s) := (Q5 _ _ _).trans (by kernel_rfl)
noncomputable def Q1s : Slot → Slot → Slot → St → Res := fun x1 x2 x6 s => lpD Q0h [.seqR, .seqR, .seqL, .block] Tryz.f116 [(1, .s x1), (2, .s x2), (6, .s x6)] s
theorem Q4L : ∀ x1 x2 x6 s_1, Q1s x1 x2 x6 s_1 =
 ld Q2 s_1 x2 fun v9 =>
 ln Q2 v9 fun v10 =>
 bn Q1 .lss x6 v10 fun v11 =>
 iT v11 fun w =>
 iT v11 fun w_1 =>
 bind1 (gd w_1 (ldV (C.ti Q2) false s_1 x2)) fun v14 =>
 iT v11 fun w_2 =>
 iT v11 fun w_3 =>
 bind1 (gd w_3 (indexS (C.ti Q2) (C.ti T_0) v14 (gdV w_2 x6))) fun v16 =>
 iT v11 fun w_4 =>
 back (cal cw w_4 (tgtV (gdV w x1) [v16]) s_1) fun v17 s_2 =>
 pk v11 v17 (bv false) fun v18 =>
 condS v18 (
 nx x6 fun v20 =>
 Q1s x1 x2 v20 s_2) (
 ld Q2 s_2 x2 fun v21 =>
 bind1 (sliceS (C.ti Q2) 0 v21 none (some x6) none) fun v23 =>
 some (.ret v23, s_2)) := by intros; unfold Q1s; exact (Qd _ _ _ _ _ _).trans (by kernel_rfl)
theorem QdI (a0 : AV) (a1 : AV) (a2 : AV) (s : St) : cw (.f Q0h) [a0, a1, a2] s =
 Q1s (.val a1) (.val a2) (.val a0) s := (Q5 _ _ _).trans (by kernel_rfl)
theorem QdF (a0 : AV) (s : St) : cw (.f Q0g) [a0] s =
 bn Q9 .geq (.val a0) (.val (.int .u8 48)) fun v4 =>
 iT v4 fun w =>
 iT v4 fun w_1 =>
 gB w_1 Q9 .leq (gdV w (.val a0)) (.val (.int .u8 57)) fun v7 =>
 pk v4 v7 (bv false) fun v8 =>
 some (.ret v8, s) := (Q5 _ _ _).trans (by kernel_rfl)
noncomputable def Q0W : Slot → Slot → Slot → Slot → Slot → St → Res := fun x0 x1 x6 x22 x23 s => lpD Q2m [.seqR, .seqR, .seqR, .seqL, .seqR, .block] Tryz.f118 [(0, .s x0), (1, .s x1), (6, .s x6), (22, .s x22), (23, .s x23)] s
theorem Q4i : ∀ x0 x1 x6 x22 x23 s_1, Q0W x0 x1 x6 x22 x23 s_1 =
 bn Q1 .lss x23 x22 fun v24 =>
 condS v24 (
 bn Q1 .mul (iv 10) x6 fun v27 =>
 bind1 (indexS (C.ti Q2) (C.ti T_0) x0 x23) fun v30 =>
 bn Q9 .sub v30 (.val (.int .u8 48)) fun v31 =>
 bind1 (convS (C.ti Q9) (C.ti Q1) v31) fun v32 =>
 bn Q1 .add v27 v32 fun v33 =>
 nx x23 fun v34 =>
 Q0W x0 x1 v33 x22 v34 s_1) (
 bn Q1 .lss x6 (iv 1073741824) fun v37 =>
 iF v37 fun w_6 =>
 iF v37 fun w_7 =>
 gB w_7 Q1 .eql (gdV w_6 x6) (iv 1073741824) fun v40 =>
 iF v37 fun w_8 =>
 bindB (Slot.isB (gdV w_8 v40) true) fun w_9 =>
 iF v37 fun w_10 =>
 bind1 (gd w_10 (pickS (gdV w_8 v40) (gdV w_9 x1) (bv false))) fun v43 =>
 pk v37 (bv true) v43 fun v44 =>
 rt [(some x6), (some v44)] s_1) := by intros; unfold Q0W; exact (Qd _ _ _ _ _ _).trans (by kernel_rfl)
theorem Qcm (a0 : AV) (a1 : AV) (s : St) : cw (.f Q2m) [a0, a1] s =
 ln Q2 (.val a0) fun v9 =>
 bn Q1 .gtr v9 (iv 1) fun v10 =>
 iT v10 fun w =>
 iT v10 fun w_1 =>
 bind1 (gd w_1 (indexS (C.ti Q2) (C.ti T_0) (gdV w (.val a0)) (iv 0))) fun v13 =>
 iT v10 fun w_2 =>
 gB w_2 Q9 .eql v13 (.val (.int .u8 48)) fun v14 =>
 pk v10 v14 (bv false) fun v15 =>
 iF v15 fun w_3 =>
 iF v15 fun w_4 =>
 gL w_4 Q2 (gdV w_3 (.val a0)) fun v18 =>
 iF v15 fun w_5 =>
 gB w_5 Q1 .gtr v18 (iv 10) fun v19 =>
 pk v15 (bv true) v19 fun v20 =>
 condS v20 (
 rt [(some (iv 0)), (some (bv false))] s) (
 ln Q2 (.val a0) fun v22 =>
 Q0W (.val a0) (.val a1) (iv 0) v22 (iv 0) s) := (Q5 _ _ _).trans (by kernel_rfl)
theorem QdG (a0 : AV) (s : St) : cw (.f Q1L) [a0] s =
 bn Q9 .geq (.val a0) (.val (.int .u8 97)) fun v4 =>
 iT v4 fun w =>
 iT v4 fun w_1 =>
 gB w_1 Q9 .leq (gdV w (.val a0)) (.val (.int .u8 122)) fun v7 =>
 pk v4 v7 (bv false) fun v8 =>
 iF v8 fun w_2 =>
 iF v8 fun w_3 =>
 gB w_3 Q9 .geq (gdV w_2 (.val a0)) (.val (.int .u8 65)) fun v11 =>
 iF v8 fun w_4 =>
 bindB (Slot.isB (gdV w_4 v11) true) fun w_5 =>
 bindB (Slot.isB (gdV w_4 v11) true) fun w_6 =>
 gB w_6 Q9 .leq (gdV w_5 (.val a0)) (.val (.int .u8 90)) fun v14 =>
 iF v8 fun w_7 =>
 bind1 (gd w_7 (pickS (gdV w_4 v11) v14 (bv false))) fun v15 =>
 pk v8 (bv true) v15 fun v16 =>
 iF v16 fun w_8 =>
 iF v16 fun w_9 =>
 gB w_9 Q9 .eql (gdV w_8 (.val a0)) (.val (.int .u8 95)) fun v19 =>
 pk v16 (bv true) v19 fun v20 =>
 some (.ret v20, s) := (Q5 _ _ _).trans (by kernel_rfl)
theorem QdE (a0 : AV) (s : St) : cw (.f ZJ) [a0] s =
 ca Q1L [(.val a0)] s fun v4 s_1 =>
 iF v4 fun w =>
 iF v4 fun w_1 =>
 cg w_1 Q0g [(gdV w (.val a0))] s_1 fun v7 s_2 =>
 pk v4 (bv true) v7 fun v8 =>
 iF v8 fun w_2 =>
 iF v8 fun w_3 =>
 gB w_3 Q9 .eql (gdV w_2 (.val a0)) (.val (.int .u8 39)) fun v11 =>
 pk v8 (bv true) v11 fun v12 =>
 some (.ret v12, s_2) := (Q5 _ _ _).trans (by kernel_rfl)
theorem QdH (a0 : AV) (s : St) : cw (.f Q54) [a0] s =
 bind1 (sliceA 24 (C.ti Q2) (.val (.cp glob0)) none none none) fun v4 =>
 ca Qe [v4, (.val a0)] s fun v6 s_1 =>
 condS v6 (
 some (.ret (iv 5), s_1)) (
 bn Q2 .eql (.val a0) (sv [116, 114, 117, 101]) fun v9 =>
 iF v9 fun w =>
 iF v9 fun w_1 =>
 gB w_1 Q2 .eql (gdV w (.val a0)) (sv [102, 97, 108, 115, 101]) fun v12 =>
 pk v9 (bv true) v12 fun v13 =>
 iF v13 fun w_2 =>
 iF v13 fun w_3 =>
 bind1 (gd w_3 (indexS (C.ti Q2) (C.ti T_0) (gdV w_2 (.val a0)) (iv 0))) fun v16 =>
 iF v13 fun w_4 =>
 gB w_4 Q9 .geq v16 (.val (.int .u8 65)) fun v17 =>
 iF v13 fun w_5 =>
 bindB (Slot.isB (gdV w_5 v17) true) fun w_6 =>
 bindB (Slot.isB (gdV w_5 v17) true) fun w_7 =>
 bind1 (gd w_7 (indexS (C.ti Q2) (C.ti T_0) (gdV w_6 (.val a0)) (iv 0))) fun v20 =>
 bindB (Slot.isB (gdV w_5 v17) true) fun w_8 =>
 gB w_8 Q9 .leq v20 (.val (.int .u8 90)) fun v21 =>
 iF v13 fun w_9 =>
 bind1 (gd w_9 (pickS (gdV w_5 v17) v21 (bv false))) fun v22 =>
 pk v13 (bv true) v22 fun v23 =>
 condS v23 (
 some (.ret (iv 3), s_1)) (
 some (.ret (iv 2), s_1))) := (Q5 _ _ _).trans (by kernel_rfl)
noncomputable def Q1N : Slot → Slot → St → Res := fun x0 x3 s => lpD Q3O [.seqR, .seqL, .seqR, .block] Tryz.f122 [(0, .s x0), (3, .s x3)] s
theorem Q5o : ∀ x0 x3 s_1, Q1N x0 x3 s_1 =
 bn Q1 .gtr x3 (iv 0) fun v8 =>
 condS v8 (
 bind1 (sliceA 19 (C.ti Q2) (.val (.cp glob1)) none none none) fun v11 =>
 bind1 (sliceS (C.ti Q2) 0 x0 none (some x3) none) fun v14 =>
 cn Qe [v11, v14] s_1 fun v15 s_2 =>
 condS v15 (
 bind1 (sliceS (C.ti Q2) 0 x0 none (some x3) none) fun v18 =>
 some (.ret v18, s_2)) (
 bn Q1 .sub x3 (iv 1) fun v10 =>
 Q1N x0 v10 s_2)) (
 some (.ret (sv []), s_1)) := by intros; unfold Q1N; exact (Qd _ _ _ _ _ _).trans (by kernel_rfl)
theorem Qf1 (a0 : AV) (s : St) : cw (.f Q3O) [a0] s =
 ln Q2 (.val a0) fun v5 =>
 bind1 (min2 (iv 2) v5) fun v6 =>
 Q1N (.val a0) v6 s := (Q5 _ _ _).trans (by kernel_rfl)
noncomputable def Q3A (x3 : Slot) (x5 : Slot) : Am.Obj := .loop .ready none Q2v [(3, .s x3), (5, .s x5)] [8] (rngAsg (codeAt [.seqR, .seqR, .seqL, .seqR, .block] (body Tryz.f126))) (rngBody (codeAt [.seqR, .seqR, .seqL, .seqR, .block] (body Tryz.f126)))
theorem Q99 (x3 : Slot) (x5 : Slot) (y8 : AV) (loc : Nat) (s_2 : St) : yldR C (Q3A x3 x5) loc [y8] s_2 = noPan (
 bx QY (.val y8) fun c_1 =>
 pZ QY c_1 fun c6 =>
 bindS (beginL loc s_2) fun s_3 =>
 gA QY c6 fun v9 =>
 ca Q1J [v9] s_3 fun v10 s_4 =>
 condS v10 (
 ld Q1 s_4 x5 fun v11 =>
 nx v11 fun v12 =>
 bx Q1 v12 fun c_2 =>
 sto s_4 x5 c_2 fun s_5 =>
 ld Q1 s_5 x5 fun v13 =>
 ld Q1 s_5 x3 fun v14 =>
 bn Q1 .geq v13 v14 fun v15 =>
 condS v15 (
 bindS (setLoop loc .done (some (.exit 0)) s_5) fun s_6 =>
 some (.ret (bv false), s_6)) (
 bindS (setLoop loc .ready none s_5) fun s_7 =>
 some (.ret (bv true), s_7))) (
 ld Q1 s_4 x5 fun v13_1 =>
 ld Q1 s_4 x3 fun v14_1 =>
 bn Q1 .geq v13_1 v14_1 fun v15_1 =>
 condS v15_1 (
 bindS (setLoop loc .done (some (.exit 0)) s_4) fun s_8 =>
 some (.ret (bv false), s_8)) (
 bindS (setLoop loc .ready none s_4) fun s_9 =>
 some (.ret (bv true), s_9)))) := by kernel_rfl
theorem QcK (a0 : AV) (a1 : AV) (s : St) : cw (.f Q2v) [a0, a1] s =
 bx Q1 (.val a1) fun c3 =>
 bindA (avs c3) fun l3 =>
 bx Q1 (iv 0) fun c =>
 sto (St.addLoc s (.var (List.map .val (C.ti Q1).zero))) (.val (.vp s.locs.length 0)) c fun s_1 =>
 rangeC C cw (.val a0) s_1.locs.length (St.addLoc s_1 (Q3A (.val (.cp l3)) (.val (.vp s.locs.length 0)))) fun s_10 =>
 endX s_1.locs.length s_10 (fun s_11 =>
 ld Q1 s_11 (.val (.vp s.locs.length 0)) fun v16 =>
 some (.ret v16, s_11)) (fun s_12 =>
 some (.ret (iv 0), s_12)) (fun j s_13 =>
 bif Nat.beq j 0 then (
 ld Q1 s_13 (.val (.vp s.locs.length 0)) fun v16_1 =>
 some (.ret v16_1, s_13)) else (
(none : Res))) := (Q5 _ _ _).trans (by kernel_rfl)
noncomputable def Qp : List Slot → List Slot → Slot → Slot → St → Res := fun x1 x2 x3 x4 s => pwD Q05 [.seqR, .seqR, .seqR, .seqR] Tryz.f127 [(1, .var x1), (2, .var x2), (3, .s x3), (4, .s x4)] s
theorem Q5g : ∀ x1 x2 x3 x4 s_2, Qp x1 x2 x3 x4 s_2 =
 bn QD .eql x3 (iv 0) fun v82 =>
 condS v82 (
 bd Qb [] fun v83 =>
 bx Qb v83 fun c =>
 pt x2 0 c fun c2 =>
 gA Qb c2 fun v => some (.ret v, s_2)) (
 bn QD .neq x3 (iv 8) fun v86 =>
 condS v86 (
 gC Q1 7 x1 fun v89 =>
 bd Qb [(0, QD, x3), (1, Q1, v89), (2, Q2, (sv []))] fun v91 =>
 bx Qb v91 fun c_1 =>
 pt x2 0 c_1 fun c2_1 =>
 gA Qb c2_1 fun v => some (.ret v, s_2)) (
 gC Q1 7 x1 fun v89_1 =>
 bd Qb [(0, QD, x3), (1, Q1, v89_1), (2, Q2, x4)] fun v91_1 =>
 bx Qb v91_1 fun c_2 =>
 pt x2 0 c_2 fun c2_2 =>
 gA Qb c2_2 fun v => some (.ret v, s_2))) := by intros; unfold Qp; exact (Q08 _).trans (by kernel_rfl)
theorem Q6A (a0 : AV) (s : St) : cw (.f Q05) [a0] s =
 bx QY (.val a0) fun c1 =>
 gC Q1B 0 c1 fun v17 =>
 bn Q1B .neq v17 (.val (.nilp)) fun v18 =>
 condS v18 (
 gA QY c1 fun v19 =>
 cn Zu [v19] s fun v20 s_1 =>
 gC Q1B 0 c1 fun v22 =>
 bind1 (nilCheckV v22) fun v23 =>
 fa 2 v23 fun v24 =>
 bind1 (ldV (C.ti Q2) true s_1 v24) fun v25 =>
 Qp c1 ((List.map .val (C.ti Qb).zero)) v20 v25 s_1) (
 gC Q13 2 c1 fun v28 =>
 bn Q13 .neq v28 (.val (.nilp)) fun v29 =>
 condS v29 (
 gC Q13 2 c1 fun v31 =>
 bind1 (nilCheckV v31) fun v32 =>
 fa 0 v32 fun v33 =>
 ld Q2 s v33 fun v34 =>
 ca Q0N [v34] s fun v36 s_3 =>
 nt v36 fun v37 =>
 condS v37 (
 Qp c1 ((List.map .val (C.ti Qb).zero)) (iv 8) v34 s_3) (
 Qp c1 ((List.map .val (C.ti Qb).zero)) (iv 0) v34 s_3)) (
 gC Q0s 3 c1 fun v40 =>
 bn Q0s .neq v40 (.val (.nilp)) fun v41 =>
 condS v41 (
 gC Q0s 3 c1 fun v43 =>
 bind1 (nilCheckV v43) fun v44 =>
 bind1 (ldV (C.ti Q5Q) true s v44) fun v45 =>
 cn Q2B [v45] s fun v46 s_4 =>
 gC Q0s 3 c1 fun v48 =>
 bind1 (nilCheckV v48) fun v49 =>
 fa 0 v49 fun v50 =>
 bind1 (ldV (C.ti Q2) true s_4 v50) fun v51 =>
 Qp c1 ((List.map .val (C.ti Qb).zero)) v46 v51 s_4) (
 gC Q1C 4 c1 fun v54 =>
 bn Q1C .neq v54 (.val (.nilp)) fun v55 =>
 condS v55 (
 gC Q1C 4 c1 fun v57 =>
 bind1 (nilCheckV v57) fun v58 =>
 bind1 (ldV (C.ti Q5R) true s v58) fun v59 =>
 cn Q2C [v59] s fun v60 s_5 =>
 gC Q1C 4 c1 fun v62 =>
 bind1 (nilCheckV v62) fun v63 =>
 fa 2 v63 fun v64 =>
 bind1 (ldV (C.ti Q2) true s_5 v64) fun v65 =>
 Qp c1 ((List.map .val (C.ti Qb).zero)) v60 v65 s_5) (
 gC Q14 5 c1 fun v68 =>
 bn Q14 .neq v68 (.val (.nilp)) fun v69 =>
 condS v69 (
 gC Q14 5 c1 fun v71 =>
 bind1 (nilCheckV v71) fun v72 =>
 bind1 (ldV (C.ti ZI) true s v72) fun v73 =>
 cn Q1i [v73] s fun v74 s_6 =>
 gC Q14 5 c1 fun v76 =>
 bind1 (nilCheckV v76) fun v77 =>
 fa 2 v77 fun v78 =>
 bind1 (ldV (C.ti Q2) true s_6 v78) fun v79 =>
 Qp c1 ((List.map .val (C.ti Qb).zero)) v74 v79 s_6) (
 gC Q4d 6 c1 fun v6 =>
 bind1 (nilCheckV v6) fun v7 =>
 bind1 (ldV (C.ti Q3) true s v7) fun v8 =>
 cn Q0r [v8] s fun v9 s_7 =>
 gC Q4d 6 c1 fun v11 =>
 bind1 (nilCheckV v11) fun v12 =>
 fa 2 v12 fun v13 =>
 bind1 (ldV (C.ti Q2) true s_7 v13) fun v14 =>
 Qp c1 ((List.map .val (C.ti Qb).zero)) v9 v14 s_7))))) := (Q5 _ _ _).trans (by kernel_rfl)
theorem Q7V (a0 : AV) (a1 : AV) (s : St) : cw (.f Q28) [a0, a1] s =
 bd Q1n [(0, Qx, (.val a0))] fun v4 =>
 ca Z7 [v4, (.val a1)] s fun v5 s_1 =>
 rt [] s_1 := (Q5 _ _ _).trans (by kernel_rfl)
noncomputable def Zk : Slot → List Slot → Slot → Slot → St → Res := fun x1 x2 x20 x21 s => lpD Z7 [.seqR, .seqR, .seqL, .seqR, .block] Tryz.f129 [(1, .s x1), (2, .var x2), (20, .s x20), (21, .s x21)] s
theorem Q1U : ∀ x1 x2 x20 x21 s_2, Zk x1 x2 x20 x21 s_2 =
 bn Q1 .lss x21 x20 fun v22 =>
 condS v22 (
 gA Q1n x2 fun v24 =>
 bind1 (nilCheckV x1) fun v26 =>
 fa 4 v26 fun v27 =>
 ld Ze s_2 v27 fun v28 =>
 ix ZI v28 x21 fun v30 =>
 cn Z7 [v24, v30] s_2 fun v31 s_3 =>
 nt v31 fun v32 =>
 condS v32 (
 some (.ret (bv false), s_3)) (
 nx x21 fun v33 =>
 Zk x1 x2 x20 v33 s_3)) (
 some (.ret (bv true), s_2)) := by intros; unfold Zk; exact (Qd _ _ _ _ _ _).trans (by kernel_rfl)
theorem Q6B (a0 : AV) (a1 : AV) (s : St) : cw (.f Z7) [a0, a1] s =
 bx Q1n (.val a0) fun c2 =>
 gC Qx 0 c2 fun v7 =>
 bind1 (nilCheckV (.val a1)) fun v10 =>
 fa 1 v10 fun v11 =>
 ld Q1 s v11 fun v12 =>
 bd QY [(5, Q14, (.val a1)), (7, Q1, v12)] fun v13 =>
 back (noPan (cal cw true (tgtV v7 [v13]) s)) fun v14 s_1 =>
 nt v14 fun v15 =>
 condS v15 (
 some (.ret (bv false), s_1)) (
 bind1 (nilCheckV (.val a1)) fun v17 =>
 fa 4 v17 fun v18 =>
 ld Ze s_1 v18 fun v19 =>
 ln Ze v19 fun v20 =>
 Zk (.val a1) c2 v20 (iv 0) s_1) := (Q5 _ _ _).trans (by kernel_rfl)
theorem Qa0 (a0 : AV) (a1 : AV) (s : St) : cw (.f Q2R) [a0, a1] s =
 condS (.val a1) (
 bn Q9 .geq (.val a0) (.val (.int .u8 65)) fun v7 =>
 iT v7 fun w =>
 iT v7 fun w_1 =>
 gB w_1 Q9 .leq (gdV w (.val a0)) (.val (.int .u8 90)) fun v10 =>
 pk v7 v10 (bv false) fun v11 =>
 some (.ret v11, s)) (
 bn Q9 .geq (.val a0) (.val (.int .u8 97)) fun v13 =>
 iT v13 fun w_2 =>
 iT v13 fun w_3 =>
 gB w_3 Q9 .leq (gdV w_2 (.val a0)) (.val (.int .u8 122)) fun v16 =>
 pk v13 v16 (bv false) fun v17 =>
 iF v17 fun w_4 =>
 iF v17 fun w_5 =>
 gB w_5 Q9 .eql (gdV w_4 (.val a0)) (.val (.int .u8 95)) fun v20 =>
 pk v17 (bv true) v20 fun v21 =>
 some (.ret v21, s)) := (Q5 _ _ _).trans (by kernel_rfl)
theorem Qcv (a0 : AV) (s : St) : cw (.f Q49) [a0] s =
 bn Q9 .geq (.val a0) (.val (.int .u8 97)) fun v4 =>
 iT v4 fun w =>
 iT v4 fun w_1 =>
 gB w_1 Q9 .leq (gdV w (.val a0)) (.val (.int .u8 122)) fun v7 =>
 pk v4 v7 (bv false) fun v8 =>
 iF v8 fun w_2 =>
 iF v8 fun w_3 =>
 gB w_3 Q9 .geq (gdV w_2 (.val a0)) (.val (.int .u8 65)) fun v11 =>
 iF v8 fun w_4 =>
 bindB (Slot.isB (gdV w_4 v11) true) fun w_5 =>
 bindB (Slot.isB (gdV w_4 v11) true) fun w_6 =>
 gB w_6 Q9 .leq (gdV w_5 (.val a0)) (.val (.int .u8 90)) fun v14 =>
 iF v8 fun w_7 =>
 bind1 (gd w_7 (pickS (gdV w_4 v11) v14 (bv false))) fun v15 =>
 pk v8 (bv true) v15 fun v16 =>
 iF v16 fun w_8 =>
 iF v16 fun w_9 =>
 gB w_9 Q9 .geq (gdV w_8 (.val a0)) (.val (.int .u8 48)) fun v19 =>
 iF v16 fun w_10 =>
 bindB (Slot.isB (gdV w_10 v19) true) fun w_11 =>
 bindB (Slot.isB (gdV w_10 v19) true) fun w_12 =>
 gB w_12 Q9 .leq (gdV w_11 (.val a0)) (.val (.int .u8 57)) fun v22 =>
 iF v16 fun w_13 =>
 bind1 (gd w_13 (pickS (gdV w_10 v19) v22 (bv false))) fun v23 =>
 pk v16 (bv true) v23 fun v24 =>
 iF v24 fun w_14 =>
 iF v24 fun w_15 =>
 gB w_15 Q9 .eql (gdV w_14 (.val a0)) (.val (.int .u8 95)) fun v27 =>
 pk v24 (bv true) v27 fun v28 =>
 iF v28 fun w_16 =>
 iF v28 fun w_17 =>
 gB w_17 Q9 .eql (gdV w_16 (.val a0)) (.val (.int .u8 39)) fun v31 =>
 pk v28 (bv true) v31 fun v32 =>
 some (.ret v32, s) := (Q5 _ _ _).trans (by kernel_rfl)
theorem Q7q (a0 : AV) (s : St) : cw (.f Q1J) [a0] s =
 bx QY (.val a0) fun c1 =>
 gC Q13 2 c1 fun v4 =>
 bn Q13 .eql v4 (.val (.nilp)) fun v5 =>
 iT v5 fun w =>
 iT v5 fun w_1 =>
 gG w_1 w Q0s 3 c1 fun v8 =>
 iT v5 fun w_2 =>
 gB w_2 Q0s .eql v8 (.val (.nilp)) fun v9 =>
 pk v5 v9 (bv false) fun v10 =>
 some (.ret v10, s) := (Q5 _ _ _).trans (by kernel_rfl)
noncomputable def QH : List Slot → Slot → Slot → Slot → Slot → St → Res := fun x1 x3 x5 x7 x8 s => pwD Zu [.seqR, .seqR, .seqR, .seqR, .seqR] Tryz.f138 [(1, .var x1), (3, .s x3), (5, .s x5), (7, .s x7), (8, .s x8)] s
theorem Q41 : ∀ x1 x3 x5 x7 x8 s_1, QH x1 x3 x5 x7 x8 s_1 =
 nt x8 fun v91 =>
 iF v91 fun w_9 =>
 iF v91 fun w_10 =>
 gG w_10 w_9 Qj 1 x1 fun v94 =>
 iF v91 fun w_11 =>
 bindB (Slot.isB (gdV w_11 v94) true) fun w_12 =>
 bindB (Slot.isB (gdV w_11 v94) true) fun w_13 =>
 bind1 (gd w_13 (nilCheckV (gdV w_12 x3))) fun v97 =>
 bindB (Slot.isB (gdV w_11 v94) true) fun w_14 =>
 bind1 (gd w_14 (faV 0 v97)) fun v98 =>
 bindB (Slot.isB (gdV w_11 v94) true) fun w_15 =>
 bind1 (gd w_15 (ldV (C.ti QF) false s_1 v98)) fun v99 =>
 bindB (Slot.isB (gdV w_11 v94) true) fun w_16 =>
 gB w_16 QF .neq v99 (iv 1) fun v100 =>
 iF v91 fun w_17 =>
 bind1 (gd w_17 (pickS (gdV w_11 v94) v100 (bv false))) fun v101 =>
 iF v91 fun w_18 =>
 bindB (Slot.isB (gdV w_18 v101) true) fun w_19 =>
 bindB (Slot.isB (gdV w_18 v101) true) fun w_20 =>
 bind1 (gd w_20 (nilCheckV (gdV w_19 x3))) fun v104 =>
 bindB (Slot.isB (gdV w_18 v101) true) fun w_21 =>
 bind1 (gd w_21 (faV 0 v104)) fun v105 =>
 bindB (Slot.isB (gdV w_18 v101) true) fun w_22 =>
 bind1 (gd w_22 (ldV (C.ti QF) false s_1 v105)) fun v106 =>
 bindB (Slot.isB (gdV w_18 v101) true) fun w_23 =>
 gB w_23 QF .neq v106 (iv 2) fun v107 =>
 iF v91 fun w_24 =>
 bind1 (gd w_24 (pickS (gdV w_18 v101) v107 (bv false))) fun v108 =>
 pk v91 (bv true) v108 fun v109 =>
 condS v109 (
 some (.ret (iv 29), s_1)) (
 bind1 (nilCheckV x3) fun v111 =>
 fa 0 v111 fun v112 =>
 ld QF s_1 v112 fun v113 =>
 bn QF .eql v113 (iv 1) fun v115 =>
 condS v115 (
 bind1 (nilCheckV x3) fun v117 =>
 fa 5 v117 fun v118 =>
 ld Z4 s_1 v118 fun v119 =>
 ln Z4 v119 fun v120 =>
 bn Q1 .eql v120 (iv 1) fun v121 =>
 nt v121 fun v165 =>
 condS v165 (
 some (.ret (iv 19), s_1)) (
 some (.ret (iv 0), s_1))) (
 bn QF .eql v113 (iv 2) fun v123 =>
 condS v123 (
 nt x5 fun v165_1 =>
 condS v165_1 (
 some (.ret (iv 19), s_1)) (
 some (.ret (iv 0), s_1))) (
 bn QF .eql v113 (iv 3) fun v126 =>
 condS v126 (
 bind1 (nilCheckV x3) fun v128 =>
 fa 2 v128 fun v129 =>
 ld Q2 s_1 v129 fun v130 =>
 ca Q0N [v130] s_1 fun v131 s_2 =>
 nt v131 fun v132 =>
 condS v132 (
 some (.ret (iv 8), s_2)) (
 bind1 (nilCheckV x3) fun v134 =>
 fa 3 v134 fun v135 =>
 ld Q1 s_2 v135 fun v136 =>
 bn Q1 .geq v136 (iv 0) fun v137 =>
 iT v137 fun w_25 =>
 iT v137 fun w_26 =>
 bind1 (gd w_26 (nilCheckV (gdV w_25 x3))) fun v140 =>
 iT v137 fun w_27 =>
 bind1 (gd w_27 (faV 3 v140)) fun v141 =>
 iT v137 fun w_28 =>
 bind1 (gd w_28 (ldV (C.ti Q1) false s_2 v141)) fun v142 =>
 iT v137 fun w_29 =>
 gB w_29 Q1 .leq v142 (iv 8) fun v143 =>
 pk v137 v143 (bv false) fun v144 =>
 iT v144 fun w_30 =>
 pk v144 (gdV w_30 x7) (bv false) fun v147 =>
 iT v147 fun w_31 =>
 iT v147 fun w_32 =>
 bind1 (gd w_32 (nilCheckV (gdV w_31 x3))) fun v150 =>
 iT v147 fun w_33 =>
 bind1 (gd w_33 (faV 4 v150)) fun v151 =>
 iT v147 fun w_34 =>
 bind1 (gd w_34 (ldV (C.ti Q0t) false s_2 v151)) fun v152 =>
 iT v147 fun w_35 =>
 gL w_35 Q0t v152 fun v153 =>
 iT v147 fun w_36 =>
 gB w_36 Q1 .leq v153 (iv 64) fun v154 =>
 pk v147 v154 (bv false) fun v155 =>
 nt v155 fun v165_2 =>
 condS v165_2 (
 some (.ret (iv 19), s_2)) (
 some (.ret (iv 0), s_2)))) (
 bn QF .eql v113 (iv 4) fun v157 =>
 condS v157 (
 bind1 (nilCheckV x3) fun v159 =>
 fa 4 v159 fun v160 =>
 ld Q0t s_1 v160 fun v161 =>
 ln Q0t v161 fun v162 =>
 bn Q1 .eql v162 (iv 1) fun v163 =>
 nt v163 fun v165_3 =>
 condS v165_3 (
 some (.ret (iv 19), s_1)) (
 some (.ret (iv 0), s_1))) (
 bind1 (unS .not (bv true)) fun v165_4 =>
 condS v165_4 (
 some (.ret (iv 19), s_1)) (
 some (.ret (iv 0), s_1))))))) := by intros; unfold QH; exact (Q08 _).trans (by kernel_rfl)
theorem Q5f (a0 : AV) (s : St) : cw (.f Zu) [a0] s =
 bx QY (.val a0) fun c1 =>
 gC Q1B 0 c1 fun v11 =>
 bind1 (nilCheckV v11) fun v13 =>
 fa 5 v13 fun v14 =>
 ld Z4 s v14 fun v15 =>
 ln Z4 v15 fun v16 =>
 bn Q1 .gtr v16 (iv 0) fun v17 =>
 bind1 (nilCheckV v11) fun v19 =>
 fa 6 v19 fun v20 =>
 ld Q2V s v20 fun v21 =>
 ln Q2V v21 fun v22 =>
 bn Q1 .gtr v22 (iv 0) fun v23 =>
 bind1 (nilCheckV v11) fun v25 =>
 fa 2 v25 fun v26 =>
 ld Q2 s v26 fun v27 =>
 bn Q2 .neq v27 (sv []) fun v28 =>
 iF v28 fun w =>
 iF v28 fun w_1 =>
 bind1 (gd w_1 (nilCheckV (gdV w v11))) fun v31 =>
 iF v28 fun w_2 =>
 bind1 (gd w_2 (faV 3 v31)) fun v32 =>
 iF v28 fun w_3 =>
 bind1 (gd w_3 (ldV (C.ti Q1) false s v32)) fun v33 =>
 iF v28 fun w_4 =>
 gB w_4 Q1 .neq v33 (iv 0) fun v34 =>
 pk v28 (bv true) v34 fun v35 =>
 bind1 (nilCheckV v11) fun v37 =>
 fa 4 v37 fun v38 =>
 ld Q0t s v38 fun v39 =>
 ln Q0t v39 fun v40 =>
 bn Q1 .gtr v40 (iv 0) fun v41 =>
 bind1 (nilCheckV v11) fun v43 =>
 fa 0 v43 fun v44 =>
 ld QF s v44 fun v45 =>
 bn QF .eql v45 (iv 1) fun v47 =>
 condS v47 (
 nt v23 fun v49 =>
 iT v49 fun w_5 =>
 iT v49 fun w_6 =>
 bind1 (gd w_6 (unS .not (gdV w_5 v35))) fun v52 =>
 pk v49 v52 (bv false) fun v53 =>
 iT v53 fun w_7 =>
 iT v53 fun w_8 =>
 bind1 (gd w_8 (unS .not (gdV w_7 v41))) fun v56 =>
 pk v53 v56 (bv false) fun v57 =>
 QH c1 v11 v23 v41 v57 s) (
 bn QF .eql v45 (iv 2) fun v59 =>
 condS v59 (
 nt v17 fun v61 =>
 iT v61 fun w_37 =>
 iT v61 fun w_38 =>
 bind1 (gd w_38 (unS .not (gdV w_37 v35))) fun v64 =>
 pk v61 v64 (bv false) fun v65 =>
 iT v65 fun w_39 =>
 iT v65 fun w_40 =>
 bind1 (gd w_40 (unS .not (gdV w_39 v41))) fun v68 =>
 pk v65 v68 (bv false) fun v69 =>
 QH c1 v11 v23 v41 v69 s) (
 bn QF .eql v45 (iv 3) fun v71 =>
 condS v71 (
 nt v17 fun v73 =>
 iT v73 fun w_41 =>
 iT v73 fun w_42 =>
 bind1 (gd w_42 (unS .not (gdV w_41 v23))) fun v76 =>
 pk v73 v76 (bv false) fun v77 =>
 QH c1 v11 v23 v41 v77 s) (
 bn QF .eql v45 (iv 4) fun v79 =>
 condS v79 (
 nt v17 fun v81 =>
 iT v81 fun w_43 =>
 iT v81 fun w_44 =>
 bind1 (gd w_44 (unS .not (gdV w_43 v23))) fun v84 =>
 pk v81 v84 (bv false) fun v85 =>
 iT v85 fun w_45 =>
 iT v85 fun w_46 =>
 bind1 (gd w_46 (unS .not (gdV w_45 v35))) fun v88 =>
 pk v85 v88 (bv false) fun v89 =>
 QH c1 v11 v23 v41 v89 s) (
 QH c1 v11 v23 v41 (bv false) s)))) := (Q5 _ _ _).trans (by kernel_rfl)
theorem Qfg (a0 : AV) (s : St) : cw (.f Q0N) [a0] s =
 bn Q2 .neq (.val a0) (sv []) fun v4 =>
 iT v4 fun w =>
 iT v4 fun w_1 =>
 bind1 (gd w_1 (indexS (C.ti Q2) (C.ti T_0) (gdV w (.val a0)) (iv 0))) fun v7 =>
 iT v4 fun w_2 =>
 cg w_2 Q2A [v7] s fun v8 s_1 =>
 pk v4 v8 (bv false) fun v9 =>
 iT v9 fun w_3 =>
 iT v9 fun w_4 =>
 cg w_4 Q2z [(gdV w_3 (.val a0))] s_1 fun v12 s_2 =>
 pk v9 v12 (bv false) fun v13 =>
 iT v13 fun w_5 =>
 iT v13 fun w_6 =>
 gB w_6 Q2 .add (sv [32]) (gdV w_5 (.val a0)) fun v16 =>
 iT v13 fun w_7 =>
 gB w_7 Q2 .add v16 (sv [32]) fun v17 =>
 iT v13 fun w_8 =>
 cg w_8 Q1m [(.val (.str Q9h)), v17] s_2 fun v18 s_3 =>
 iT v13 fun w_9 =>
 gN w_9 v18 fun v19 =>
 pk v13 v19 (bv false) fun v20 =>
 some (.ret v20, s_3) := (Q5 _ _ _).trans (by kernel_rfl)
theorem Q9b (a0 : AV) (s : St) : cw (.f Q2B) [a0] s =
 bx Q5Q (.val a0) fun c1 =>
 gC Q3 3 c1 fun v5 =>
 bx Q3 v5 fun c =>
 pZ Q3 c fun c3 =>
 gC Qj 2 c1 fun v8 =>
 nt v8 fun v9 =>
 iT v9 fun w =>
 iT v9 fun w_1 =>
 gG w_1 w Q8 0 c3 fun v12 =>
 iT v9 fun w_2 =>
 gB w_2 Q8 .neq v12 (iv 0) fun v13 =>
 iT v9 fun w_3 =>
 bindB (Slot.isB (gdV w_3 v13) false) fun w_4 =>
 bindB (Slot.isB (gdV w_3 v13) false) fun w_5 =>
 gG w_5 w_4 Q1 1 c3 fun v16 =>
 bindB (Slot.isB (gdV w_3 v13) false) fun w_6 =>
 gB w_6 Q1 .neq v16 (iv 0) fun v17 =>
 iT v9 fun w_7 =>
 bind1 (gd w_7 (pickS (gdV w_3 v13) (bv true) v17)) fun v18 =>
 iT v9 fun w_8 =>
 bindB (Slot.isB (gdV w_8 v18) false) fun w_9 =>
 bindB (Slot.isB (gdV w_8 v18) false) fun w_10 =>
 gG w_10 w_9 Q2 2 c3 fun v21 =>
 bindB (Slot.isB (gdV w_8 v18) false) fun w_11 =>
 gB w_11 Q2 .neq v21 (sv []) fun v22 =>
 iT v9 fun w_12 =>
 bind1 (gd w_12 (pickS (gdV w_8 v18) (bv true) v22)) fun v23 =>
 iT v9 fun w_13 =>
 bindB (Slot.isB (gdV w_13 v23) false) fun w_14 =>
 bindB (Slot.isB (gdV w_13 v23) false) fun w_15 =>
 gG w_15 w_14 Q6 3 c3 fun v26 =>
 bindB (Slot.isB (gdV w_13 v23) false) fun w_16 =>
 gL w_16 Q6 v26 fun v27 =>
 bindB (Slot.isB (gdV w_13 v23) false) fun w_17 =>
 gB w_17 Q1 .gtr v27 (iv 0) fun v28 =>
 iT v9 fun w_18 =>
 bind1 (gd w_18 (pickS (gdV w_13 v23) (bv true) v28)) fun v29 =>
 pk v9 v29 (bv false) fun v30 =>
 condS v30 (
 some (.ret (iv 29), s)) (
 gC Q2 0 c1 fun v33 =>
 ca Q1A [v33] s fun v34 s_1 =>
 nt v34 fun v35 =>
 condS v35 (
 some (.ret (iv 8), s_1)) (
 some (.ret (iv 0), s_1))) := (Q5 _ _ _).trans (by kernel_rfl)
theorem Q9c (a0 : AV) (s : St) : cw (.f Q2C) [a0] s =
 bindL (boxCells (C.ti Q5R) (.val a0)) fun c1 =>
 bind1 (ofSlots (C.ti Q4) (List.take (C.ti Q4).size (List.drop 0 c1))) fun v7 =>
 back (cal cw true (tgtV (.val (.fn Q6h [])) [v7]) s) fun v8 s_1 =>
 bind1 (extractS v8 0) fun v9 =>
 bind1 (extractS v8 1) fun v10 =>
 bindL (boxCells (C.ti Q0) v9) fun c =>
 bindL (putAt (List.map .val (C.ti Q0).zero) 0 c) fun c3 =>
 bind1 (unS .not v10) fun v13 =>
 bindB (Slot.isB v13 false) fun w =>
 bindB (Slot.isB v13 false) fun w_1 =>
 bind1 (gd w_1 (bif w then (ofSlots (C.ti Qj) (List.take (C.ti Qj).size (List.drop 0 c3))) else none)) fun v16 =>
 bindB (Slot.isB v13 false) fun w_2 =>
 bind1 (gd w_2 (unS .not v16)) fun v17 =>
 bindB (Slot.isB v13 false) fun w_3 =>
 bindB (Slot.isB (gdV w_3 v17) true) fun w_4 =>
 bindB (Slot.isB (gdV w_3 v17) true) fun w_5 =>
 bind1 (gd w_5 (bif w_4 then (ofSlots (C.ti Q2) (List.take (C.ti Q2).size (List.drop 2 c1))) else none)) fun v20 =>
 bindB (Slot.isB (gdV w_3 v17) true) fun w_6 =>
 bind1 (gd w_6 (binS (C.ti Q2) .neq v20 (.val (.str [])))) fun v21 =>
 bindB (Slot.isB v13 false) fun w_7 =>
 bind1 (gd w_7 (pickS (gdV w_3 v17) v21 (.val (.bool false)))) fun v22 =>
 bind1 (pickS v13 (.val (.bool true)) v22) fun v23 =>
 bindB (Slot.isB v23 false) fun w_8 =>
 bindB (Slot.isB v23 false) fun w_9 =>
 bind1 (gd w_9 (bif w_8 then (ofSlots (C.ti Qj) (List.take (C.ti Qj).size (List.drop 1 c3))) else none)) fun v26 =>
 bindB (Slot.isB v23 false) fun w_10 =>
 bind1 (gd w_10 (unS .not v26)) fun v27 =>
 bindB (Slot.isB v23 false) fun w_11 =>
 bindB (Slot.isB (gdV w_11 v27) true) fun w_12 =>
 bindB (Slot.isB (gdV w_11 v27) true) fun w_13 =>
 bind1 (gd w_13 (bif w_12 then (ofSlots (C.ti Q1) (List.take (C.ti Q1).size (List.drop 3 c1))) else none)) fun v30 =>
 bindB (Slot.isB (gdV w_11 v27) true) fun w_14 =>
 bind1 (gd w_14 (binS (C.ti Q1) .neq v30 (.val (.int .i64 0)))) fun v31 =>
 bindB (Slot.isB v23 false) fun w_15 =>
 bind1 (gd w_15 (pickS (gdV w_11 v27) v31 (.val (.bool false)))) fun v32 =>
 bind1 (pickS v23 (.val (.bool true)) v32) fun v33 =>
 bindB (Slot.isB v33 false) fun w_16 =>
 bindB (Slot.isB v33 false) fun w_17 =>
 bind1 (gd w_17 (bif w_16 then (ofSlots (C.ti Qj) (List.take (C.ti Qj).size (List.drop 2 c3))) else none)) fun v36 =>
 bindB (Slot.isB v33 false) fun w_18 =>
 bind1 (gd w_18 (unS .not v36)) fun v37 =>
 bindB (Slot.isB v33 false) fun w_19 =>
 bindB (Slot.isB (gdV w_19 v37) true) fun w_20 =>
 bindB (Slot.isB (gdV w_19 v37) true) fun w_21 =>
 bind1 (gd w_21 (bif w_20 then (ofSlots (C.ti Z4) (List.take (C.ti Z4).size (List.drop 5 c1))) else none)) fun v40 =>
 bindB (Slot.isB (gdV w_19 v37) true) fun w_22 =>
 bind1 (gd w_22 (lenS (C.ti Z4) v40)) fun v41 =>
 bindB (Slot.isB (gdV w_19 v37) true) fun w_23 =>
 bind1 (gd w_23 (binS (C.ti Q1) .gtr v41 (.val (.int .i64 0)))) fun v42 =>
 bindB (Slot.isB v33 false) fun w_24 =>
 bind1 (gd w_24 (pickS (gdV w_19 v37) v42 (.val (.bool false)))) fun v43 =>
 bind1 (pickS v33 (.val (.bool true)) v43) fun v44 =>
 bindB (Slot.isB v44 false) fun w_25 =>
 bindB (Slot.isB v44 false) fun w_26 =>
 bind1 (gd w_26 (bif w_25 then (ofSlots (C.ti Qj) (List.take (C.ti Qj).size (List.drop 3 c3))) else none)) fun v47 =>
 bindB (Slot.isB v44 false) fun w_27 =>
 bind1 (gd w_27 (unS .not v47)) fun v48 =>
 bindB (Slot.isB v44 false) fun w_28 =>
 bindB (Slot.isB (gdV w_28 v48) true) fun w_29 =>
 bindB (Slot.isB (gdV w_28 v48) true) fun w_30 =>
 bind1 (gd w_30 (bif w_29 then (ofSlots (C.ti Q0u) (List.take (C.ti Q0u).size (List.drop 6 c1))) else none)) fun v51 =>
 bindB (Slot.isB (gdV w_28 v48) true) fun w_31 =>
 bind1 (gd w_31 (lenS (C.ti Q0u) v51)) fun v52 =>
 bindB (Slot.isB (gdV w_28 v48) true) fun w_32 =>
 bind1 (gd w_32 (binS (C.ti Q1) .gtr v52 (.val (.int .i64 0)))) fun v53 =>
 bindB (Slot.isB v44 false) fun w_33 =>
 bind1 (gd w_33 (pickS (gdV w_28 v48) v53 (.val (.bool false)))) fun v54 =>
 bind1 (pickS v44 (.val (.bool true)) v54) fun v55 =>
 bindB (Slot.isB v55 false) fun w_34 =>
 bindB (Slot.isB v55 false) fun w_35 =>
 bind1 (gd w_35 (bif w_34 then (ofSlots (C.ti Q1) (List.take (C.ti Q1).size (List.drop 5 c3))) else none)) fun v58 =>
 bindB (Slot.isB v55 false) fun w_36 =>
 bind1 (gd w_36 (binS (C.ti Q1) .eql v58 (.val (.int .i64 0)))) fun v59 =>
 bindB (Slot.isB v55 false) fun w_37 =>
 bindB (Slot.isB (gdV w_37 v59) true) fun w_38 =>
 bindB (Slot.isB (gdV w_37 v59) true) fun w_39 =>
 bind1 (gd w_39 (bif w_38 then (ofSlots (C.ti Zv) (List.take (C.ti Zv).size (List.drop 4 c1))) else none)) fun v62 =>
 bindB (Slot.isB (gdV w_37 v59) true) fun w_40 =>
 bind1 (gd w_40 (lenS (C.ti Zv) v62)) fun v63 =>
 bindB (Slot.isB (gdV w_37 v59) true) fun w_41 =>
 bind1 (gd w_41 (binS (C.ti Q1) .gtr v63 (.val (.int .i64 0)))) fun v64 =>
 bindB (Slot.isB v55 false) fun w_42 =>
 bind1 (gd w_42 (pickS (gdV w_37 v59) v64 (.val (.bool false)))) fun v65 =>
 bind1 (pickS v55 (.val (.bool true)) v65) fun v66 =>
 condS v66 (
 some (.ret (.val (.int .i64 29)), s_1)) (
 bind1 (ofSlots (C.ti Q4) (List.take (C.ti Q4).size (List.drop 0 c1))) fun v69 =>
 bind1 (binS (C.ti Q4) .eql v69 (.val (.int .i64 2))) fun v70 =>
 bindB (Slot.isB v70 true) fun w_43 =>
 bindB (Slot.isB v70 true) fun w_44 =>
 bind1 (gd w_44 (bif w_43 then (ofSlots (C.ti Q2) (List.take (C.ti Q2).size (List.drop 2 c1))) else none)) fun v73 =>
 bindB (Slot.isB v70 true) fun w_45 =>
 back (cal cw w_45 (tgtV (.val (.fn Q0N [])) [v73]) s_1) fun v74 s_2 =>
 bindB (Slot.isB v70 true) fun w_46 =>
 bind1 (gd w_46 (unS .not v74)) fun v75 =>
 bind1 (pickS v70 v75 (.val (.bool false))) fun v76 =>
 bindB (Slot.isB v76 false) fun w_47 =>
 bindB (Slot.isB v76 false) fun w_48 =>
 bind1 (gd w_48 (bif w_47 then (ofSlots (C.ti Q4) (List.take (C.ti Q4).size (List.drop 0 c1))) else none)) fun v79 =>
 bindB (Slot.isB v76 false) fun w_49 =>
 bind1 (gd w_49 (binS (C.ti Q4) .eql v79 (.val (.int .i64 3)))) fun v80 =>
 bindB (Slot.isB v76 false) fun w_50 =>
 bindB (Slot.isB (gdV w_50 v80) true) fun w_51 =>
 bindB (Slot.isB (gdV w_50 v80) true) fun w_52 =>
 bind1 (gd w_52 (bif w_51 then (ofSlots (C.ti Q2) (List.take (C.ti Q2).size (List.drop 2 c1))) else none)) fun v83 =>
 bindB (Slot.isB (gdV w_50 v80) true) fun w_53 =>
 back (cal cw w_53 (tgtV (.val (.fn Q04 [])) [v83]) s_2) fun v84 s_3 =>
 bindB (Slot.isB (gdV w_50 v80) true) fun w_54 =>
 bind1 (gd w_54 (unS .not v84)) fun v85 =>
 bindB (Slot.isB v76 false) fun w_55 =>
 bind1 (gd w_55 (pickS (gdV w_50 v80) v85 (.val (.bool false)))) fun v86 =>
 bind1 (pickS v76 (.val (.bool true)) v86) fun v87 =>
 condS v87 (
 some (.ret (.val (.int .i64 8)), s_3)) (
 bind1 (ofSlots (C.ti Q4) (List.take (C.ti Q4).size (List.drop 0 c1))) fun v90 =>
 bind1 (binS (C.ti Q4) .eql v90 (.val (.int .i64 1))) fun v91 =>
 bindB (Slot.isB v91 true) fun w_56 =>
 bindB (Slot.isB v91 true) fun w_57 =>
 bind1 (gd w_57 (bif w_56 then (ofSlots (C.ti Q1) (List.take (C.ti Q1).size (List.drop 3 c1))) else none)) fun v94 =>
 bindB (Slot.isB v91 true) fun w_58 =>
 back (cal cw w_58 (tgtV (.val (.fn Q2x [])) [v94]) s_3) fun v95 s_4 =>
 bindB (Slot.isB v91 true) fun w_59 =>
 bind1 (gd w_59 (unS .not v95)) fun v96 =>
 bind1 (pickS v91 v96 (.val (.bool false))) fun v97 =>
 bindB (Slot.isB v97 false) fun w_60 =>
 bindB (Slot.isB v97 false) fun w_61 =>
 bind1 (gd w_61 (bif w_60 then (ofSlots (C.ti Q4) (List.take (C.ti Q4).size (List.drop 0 c1))) else none)) fun v100 =>
 bindB (Slot.isB v97 false) fun w_62 =>
 bind1 (gd w_62 (binS (C.ti Q4) .eql v100 (.val (.int .i64 13)))) fun v101 =>
 bindB (Slot.isB v97 false) fun w_63 =>
 bindB (Slot.isB (gdV w_63 v101) true) fun w_64 =>
 bindB (Slot.isB (gdV w_63 v101) true) fun w_65 =>
 bind1 (gd w_65 (bif w_64 then (ofSlots (C.ti Q1) (List.take (C.ti Q1).size (List.drop 3 c1))) else none)) fun v104 =>
 bindB (Slot.isB (gdV w_63 v101) true) fun w_66 =>
 bind1 (gd w_66 (binS (C.ti Q1) .lss v104 (.val (.int .i64 1)))) fun v105 =>
 bindB (Slot.isB (gdV w_63 v101) true) fun w_67 =>
 bindB (Slot.isB (gdV w_67 v105) false) fun w_68 =>
 bindB (Slot.isB (gdV w_67 v105) false) fun w_69 =>
 bind1 (gd w_69 (bif w_68 then (ofSlots (C.ti Q1) (List.take (C.ti Q1).size (List.drop 3 c1))) else none)) fun v108 =>
 bindB (Slot.isB (gdV w_67 v105) false) fun w_70 =>
 bind1 (gd w_70 (binS (C.ti Q1) .gtr v108 (.val (.int .i64 9)))) fun v109 =>
 bindB (Slot.isB (gdV w_63 v101) true) fun w_71 =>
 bind1 (gd w_71 (pickS (gdV w_67 v105) (.val (.bool true)) v109)) fun v110 =>
 bindB (Slot.isB v97 false) fun w_72 =>
 bind1 (gd w_72 (pickS (gdV w_63 v101) v110 (.val (.bool false)))) fun v111 =>
 bind1 (pickS v97 (.val (.bool true)) v111) fun v112 =>
 condS v112 (
 some (.ret (.val (.int .i64 2)), s_4)) (
 bind1 (ofSlots (C.ti Zv) (List.take (C.ti Zv).size (List.drop 4 c1))) fun v115 =>
 bind1 (lenS (C.ti Zv) v115) fun v116 =>
 bind1 (ofSlots (C.ti Q1) (List.take (C.ti Q1).size (List.drop 4 c3))) fun v118 =>
 bind1 (binS (C.ti Q1) .lss v116 v118) fun v119 =>
 bindB (Slot.isB v119 false) fun w_73 =>
 bindB (Slot.isB v119 false) fun w_74 =>
 bind1 (gd w_74 (bif w_73 then (ofSlots (C.ti Zv) (List.take (C.ti Zv).size (List.drop 4 c1))) else none)) fun v122 =>
 bindB (Slot.isB v119 false) fun w_75 =>
 bind1 (gd w_75 (lenS (C.ti Zv) v122)) fun v123 =>
 bindB (Slot.isB v119 false) fun w_76 =>
 bindB (Slot.isB v119 false) fun w_77 =>
 bind1 (gd w_77 (bif w_76 then (ofSlots (C.ti Q1) (List.take (C.ti Q1).size (List.drop 5 c3))) else none)) fun v125 =>
 bindB (Slot.isB v119 false) fun w_78 =>
 bind1 (gd w_78 (binS (C.ti Q1) .gtr v123 v125)) fun v126 =>
 bind1 (pickS v119 (.val (.bool true)) v126) fun v127 =>
 bindB (Slot.isB v127 false) fun w_79 =>
 bindB (Slot.isB v127 false) fun w_80 =>
 bind1 (gd w_80 (bif w_79 then (ofSlots (C.ti Qj) (List.take (C.ti Qj).size (List.drop 2 c3))) else none)) fun v130 =>
 bindB (Slot.isB v127 false) fun w_81 =>
 bindB (Slot.isB (gdV w_81 v130) true) fun w_82 =>
 bindB (Slot.isB (gdV w_81 v130) true) fun w_83 =>
 bind1 (gd w_83 (bif w_82 then (ofSlots (C.ti Z4) (List.take (C.ti Z4).size (List.drop 5 c1))) else none)) fun v133 =>
 bindB (Slot.isB (gdV w_81 v130) true) fun w_84 =>
 bind1 (gd w_84 (lenS (C.ti Z4) v133)) fun v134 =>
 bindB (Slot.isB (gdV w_81 v130) true) fun w_85 =>
 bind1 (gd w_85 (binS (C.ti Q1) .eql v134 (.val (.int .i64 0)))) fun v135 =>
 bindB (Slot.isB v127 false) fun w_86 =>
 bind1 (gd w_86 (pickS (gdV w_81 v130) v135 (.val (.bool false)))) fun v136 =>
 bind1 (pickS v127 (.val (.bool true)) v136) fun v137 =>
 bindB (Slot.isB v137 false) fun w_87 =>
 bindB (Slot.isB v137 false) fun w_88 =>
 bind1 (gd w_88 (bif w_87 then (ofSlots (C.ti Qj) (List.take (C.ti Qj).size (List.drop 3 c3))) else none)) fun v140 =>
 bindB (Slot.isB v137 false) fun w_89 =>
 bindB (Slot.isB (gdV w_89 v140) true) fun w_90 =>
 bindB (Slot.isB (gdV w_89 v140) true) fun w_91 =>
 bind1 (gd w_91 (bif w_90 then (ofSlots (C.ti Q0u) (List.take (C.ti Q0u).size (List.drop 6 c1))) else none)) fun v143 =>
 bindB (Slot.isB (gdV w_89 v140) true) fun w_92 =>
 bind1 (gd w_92 (lenS (C.ti Q0u) v143)) fun v144 =>
 bindB (Slot.isB (gdV w_89 v140) true) fun w_93 =>
 bind1 (gd w_93 (binS (C.ti Q1) .eql v144 (.val (.int .i64 0)))) fun v145 =>
 bindB (Slot.isB v137 false) fun w_94 =>
 bind1 (gd w_94 (pickS (gdV w_89 v140) v145 (.val (.bool false)))) fun v146 =>
 bind1 (pickS v137 (.val (.bool true)) v146) fun v147 =>
 condS v147 (
 some (.ret (.val (.int .i64 19)), s_4)) (
 some (.ret (.val (.int .i64 0)), s_4))))) := (Q5 _ _ _).trans (by kernel_rfl)
noncomputable def QT : List Slot → Slot → Slot → Slot → Slot → St → Res := fun x1 x3 x4 x5 x6 s => pwD Q1i [.seqR, .seqR, .seqR] Tryz.f142 [(1, .var x1), (3, .s x3), (4, .s x4), (5, .s x5), (6, .s x6)] s
theorem Q6C : ∀ x1 x3 x4 x5 x6 s_1, QT x1 x3 x4 x5 x6 s_1 =
 nt x3 fun v23 =>
 iT v23 fun w =>
 iT v23 fun w_1 =>
 gG w_1 w Q2 2 x1 fun v26 =>
 iT v23 fun w_2 =>
 gB w_2 Q2 .neq v26 (sv []) fun v27 =>
 pk v23 v27 (bv false) fun v28 =>
 iF v28 fun w_3 =>
 iF v28 fun w_4 =>
 bind1 (gd w_4 (unS .not (gdV w_3 x4))) fun v31 =>
 iF v28 fun w_5 =>
 bindB (Slot.isB (gdV w_5 v31) true) fun w_6 =>
 bindB (Slot.isB (gdV w_5 v31) true) fun w_7 =>
 gG w_7 w_6 Q1 3 x1 fun v34 =>
 bindB (Slot.isB (gdV w_5 v31) true) fun w_8 =>
 gB w_8 Q1 .neq v34 (iv 0) fun v35 =>
 iF v28 fun w_9 =>
 bind1 (gd w_9 (pickS (gdV w_5 v31) v35 (bv false))) fun v36 =>
 pk v28 (bv true) v36 fun v37 =>
 iF v37 fun w_10 =>
 iF v37 fun w_11 =>
 gB w_11 Q1 .eql (gdV w_10 x6) (iv 0) fun v40 =>
 iF v37 fun w_12 =>
 bindB (Slot.isB (gdV w_12 v40) true) fun w_13 =>
 bindB (Slot.isB (gdV w_12 v40) true) fun w_14 =>
 gG w_14 w_13 Ze 4 x1 fun v43 =>
 bindB (Slot.isB (gdV w_12 v40) true) fun w_15 =>
 gL w_15 Ze v43 fun v44 =>
 bindB (Slot.isB (gdV w_12 v40) true) fun w_16 =>
 gB w_16 Q1 .gtr v44 (iv 0) fun v45 =>
 iF v37 fun w_17 =>
 bind1 (gd w_17 (pickS (gdV w_12 v40) v45 (bv false))) fun v46 =>
 pk v37 (bv true) v46 fun v47 =>
 condS v47 (
 some (.ret (iv 29), s_1)) (
 gC QJ 0 x1 fun v50 =>
 bn QJ .eql v50 (iv 4) fun v51 =>
 iT v51 fun w_18 =>
 iT v51 fun w_19 =>
 gG w_19 w_18 Q2 2 x1 fun v54 =>
 iT v51 fun w_20 =>
 cg w_20 Q04 [v54] s_1 fun v55 s_2 =>
 iT v51 fun w_21 =>
 gN w_21 v55 fun v56 =>
 pk v51 v56 (bv false) fun v57 =>
 iF v57 fun w_22 =>
 iF v57 fun w_23 =>
 bindB (Slot.isB (gdV w_23 (gdV w_22 x3)) true) fun w_24 =>
 bindB (Slot.isB (gdV w_23 (gdV w_22 x3)) true) fun w_25 =>
 gG w_25 w_24 QJ 0 x1 fun v62 =>
 bindB (Slot.isB (gdV w_23 (gdV w_22 x3)) true) fun w_26 =>
 gB w_26 QJ .neq v62 (iv 4) fun v63 =>
 iF v57 fun w_27 =>
 bind1 (gd w_27 (pickS (gdV w_23 (gdV w_22 x3)) v63 (bv false))) fun v64 =>
 iF v57 fun w_28 =>
 bindB (Slot.isB (gdV w_28 v64) true) fun w_29 =>
 bindB (Slot.isB (gdV w_28 v64) true) fun w_30 =>
 gG w_30 w_29 Q2 2 x1 fun v67 =>
 bindB (Slot.isB (gdV w_28 v64) true) fun w_31 =>
 cg w_31 Q0N [v67] s_2 fun v68 s_3 =>
 bindB (Slot.isB (gdV w_28 v64) true) fun w_32 =>
 gN w_32 v68 fun v69 =>
 iF v57 fun w_33 =>
 bind1 (gd w_33 (pickS (gdV w_28 v64) v69 (bv false))) fun v70 =>
 pk v57 (bv true) v70 fun v71 =>
 condS v71 (
 some (.ret (iv 8), s_3)) (
 iT x4 fun w_34 =>
 iT x4 fun w_35 =>
 gG w_35 w_34 Q1 3 x1 fun v76 =>
 iT x4 fun w_36 =>
 cg w_36 Q2x [v76] s_3 fun v77 s_4 =>
 iT x4 fun w_37 =>
 gN w_37 v77 fun v78 =>
 pk x4 v78 (bv false) fun v79 =>
 condS v79 (
 some (.ret (iv 2), s_4)) (
 gC Ze 4 x1 fun v82 =>
 ln Ze v82 fun v83 =>
 bn Q1 .lss v83 x5 fun v85 =>
 iF v85 fun w_38 =>
 iF v85 fun w_39 =>
 gG w_39 w_38 Ze 4 x1 fun v88 =>
 iF v85 fun w_40 =>
 gL w_40 Ze v88 fun v89 =>
 iF v85 fun w_41 =>
 iF v85 fun w_42 =>
 gB w_42 Q1 .gtr v89 (gdV w_41 x6) fun v91 =>
 pk v85 (bv true) v91 fun v92 =>
 condS v92 (
 some (.ret (iv 19), s_4)) (
 some (.ret (iv 0), s_4))))) := by intros; unfold QT; exact (Q08 _).trans (by kernel_rfl)
theorem Q9d (a0 : AV) (s : St) : cw (.f Q1i) [a0] s =
 bx ZI (.val a0) fun c1 =>
 gC QJ 0 c1 fun v8 =>
 bn QJ .eql v8 (iv 1) fun v10 =>
 condS v10 (
 QT c1 (bv false) (bv false) (iv 0) (iv 0) s) (
 bn QJ .eql v8 (iv 2) fun v12 =>
 condS v12 (
 QT c1 (bv true) (bv false) (iv 0) (iv 0) s) (
 bn QJ .eql v8 (iv 3) fun v14 =>
 condS v14 (
 QT c1 (bv false) (bv true) (iv 0) (iv 0) s) (
 bn QJ .eql v8 (iv 4) fun v16 =>
 condS v16 (
 QT c1 (bv true) (bv false) (iv 0) (iv 1) s) (
 bn QJ .eql v8 (iv 5) fun v18 =>
 condS v18 (
 QT c1 (bv false) (bv false) (iv 2) (iv 8) s) (
 bn QJ .eql v8 (iv 6) fun v20 =>
 condS v20 (
 QT c1 (bv true) (bv false) (iv 1) (iv 1) s) (
 some (.ret (iv 29), s))))))) := (Q5 _ _ _).trans (by kernel_rfl)
noncomputable def Zd : Slot → Slot → Slot → St → Res := fun x3_1 x4_1 x5_1 s => pwD Q0r [.seqR, .seqR, .seqR, .seqR, .seqR] Tryz.f143 [(3, .s x3_1), (4, .s x4_1), (5, .s x5_1)] s
noncomputable def Zz : List Slot → Slot → Slot → Slot → Slot → Slot → St → Res := fun x1 x3 x4 x5 x56 x61 s => pwD Q0r [.seqR, .seqR, .seqR, .seqR, .seqL, .seqR, .block, .seqR] Tryz.f143 [(1, .var x1), (3, .s x3), (4, .s x4), (5, .s x5), (56, .s x56), (61, .s x61)] s
theorem Q7w : ∀ x3_1 x4_1 x5_1 s_2, Zd x3_1 x4_1 x5_1 s_2 =
 bn Q1 .lss x3_1 x4_1 fun v74 =>
 iF v74 fun w_26 =>
 iF v74 fun w_27 =>
 iF v74 fun w_28 =>
 gB w_28 Q1 .gtr (gdV w_26 x3_1) (gdV w_27 x5_1) fun v78 =>
 pk v74 (bv true) v78 fun v79 =>
 condS v79 (
 some (.ret (iv 19), s_2)) (
 some (.ret (iv 0), s_2)) := by intros; unfold Zd; exact (Q08 _).trans (by kernel_rfl)
theorem Q7v : ∀ x1 x3 x4 x5 x56 x61 s_1, Zz x1 x3 x4 x5 x56 x61 s_1 =
 condS x61 (
 Zd x3 x4 x5 s_1) (
 bn Q2 .eql x56 (sv [114, 101, 102]) fun v67 =>
 condS v67 (
 Zd x3 (iv 1) (iv 1) s_1) (
 bn Q2 .eql x56 (sv [45, 62]) fun v69 =>
 condS v69 (
 Zd x3 (iv 2) (iv 2) s_1) (
 bn Q2 .eql x56 (sv [42]) fun v71 =>
 condS v71 (
 Zd x3 (iv 2) (iv 8) s_1) (
 gC Q2 2 x1 fun v58 =>
 ca Q0N [v58] s_1 fun v59 s_3 =>
 nt v59 fun v60 =>
 condS v60 (
 some (.ret (iv 8), s_3)) (
 Zd x3 x4 (iv 8) s_3))))) := by intros; unfold Zz; exact (Q08 _).trans (by kernel_rfl)
theorem Qam (a0 : AV) (s : St) : cw (.f Q0r) [a0] s =
 bx Q3 (.val a0) fun c1 =>
 gC Q6 3 c1 fun v7 =>
 ln Q6 v7 fun v8 =>
 gC Q8 0 c1 fun v11 =>
 bn Q8 .eql v11 (iv 1) fun v12 =>
 iT v12 fun w =>
 iT v12 fun w_1 =>
 gG w_1 w Q2 2 c1 fun v15 =>
 iT v12 fun w_2 =>
 gB w_2 Q2 .neq v15 (sv []) fun v16 =>
 iT v12 fun w_3 =>
 bindB (Slot.isB (gdV w_3 v16) false) fun w_4 =>
 bindB (Slot.isB (gdV w_3 v16) false) fun w_5 =>
 gB w_5 Q1 .gtr (gdV w_4 v8) (iv 0) fun v19 =>
 iT v12 fun w_6 =>
 bind1 (gd w_6 (pickS (gdV w_3 v16) (bv true) v19)) fun v20 =>
 pk v12 v20 (bv false) fun v21 =>
 iF v21 fun w_7 =>
 iF v21 fun w_8 =>
 gG w_8 w_7 Q8 0 c1 fun v24 =>
 iF v21 fun w_9 =>
 gB w_9 Q8 .eql v24 (iv 2) fun v25 =>
 iF v21 fun w_10 =>
 bindB (Slot.isB (gdV w_10 v25) true) fun w_11 =>
 bindB (Slot.isB (gdV w_10 v25) true) fun w_12 =>
 gG w_12 w_11 Q1 1 c1 fun v28 =>
 bindB (Slot.isB (gdV w_10 v25) true) fun w_13 =>
 gB w_13 Q1 .neq v28 (iv 0) fun v29 =>
 iF v21 fun w_14 =>
 bind1 (gd w_14 (pickS (gdV w_10 v25) v29 (bv false))) fun v30 =>
 pk v21 (bv true) v30 fun v31 =>
 iF v31 fun w_15 =>
 iF v31 fun w_16 =>
 gG w_16 w_15 Q8 0 c1 fun v34 =>
 iF v31 fun w_17 =>
 gB w_17 Q8 .neq v34 (iv 1) fun v35 =>
 iF v31 fun w_18 =>
 bindB (Slot.isB (gdV w_18 v35) true) fun w_19 =>
 bindB (Slot.isB (gdV w_18 v35) true) fun w_20 =>
 gG w_20 w_19 Q8 0 c1 fun v38 =>
 bindB (Slot.isB (gdV w_18 v35) true) fun w_21 =>
 gB w_21 Q8 .neq v38 (iv 2) fun v39 =>
 iF v31 fun w_22 =>
 bind1 (gd w_22 (pickS (gdV w_18 v35) v39 (bv false))) fun v40 =>
 pk v31 (bv true) v40 fun v41 =>
 condS v41 (
 some (.ret (iv 29), s)) (
 gC Q8 0 c1 fun v44 =>
 bn Q8 .eql v44 (iv 1) fun v45 =>
 iT v45 fun w_23 =>
 iT v45 fun w_24 =>
 gG w_24 w_23 Q1 1 c1 fun v48 =>
 iT v45 fun w_25 =>
 gB w_25 Q1 .lss v48 (iv 0) fun v49 =>
 pk v45 v49 (bv false) fun v50 =>
 condS v50 (
 some (.ret (iv 2), s)) (
 gC Q8 0 c1 fun v53 =>
 bn Q8 .eql v53 (iv 1) fun v54 =>
 condS v54 (
 some (.ret (iv 0), s)) (
 gC Q2 2 c1 fun v56 =>
 bn Q2 .eql v56 (sv [105, 110, 116]) fun v62 =>
 condS v62 (
 Zz c1 v8 (iv 0) (iv 0) v56 v62 s) (
 bn Q2 .eql v56 (sv [98, 111, 111, 108]) fun v63 =>
 condS v63 (
 Zz c1 v8 (iv 0) (iv 0) v56 v63 s) (
 bn Q2 .eql v56 (sv [117, 110, 105, 116]) fun v64 =>
 condS v64 (
 Zz c1 v8 (iv 0) (iv 0) v56 v64 s) (
 bn Q2 .eql v56 (sv [101, 120, 110]) fun v65 =>
 Zz c1 v8 (iv 0) (iv 0) v56 v65 s)))))) := (Q5 _ _ _).trans (by kernel_rfl)
theorem QcP (a0 : AV) (s : St) : cw (.f Q2A) [a0] s =
 bn Q9 .geq (.val a0) (.val (.int .u8 97)) fun v4 =>
 iT v4 fun w =>
 iT v4 fun w_1 =>
 gB w_1 Q9 .leq (gdV w (.val a0)) (.val (.int .u8 122)) fun v7 =>
 pk v4 v7 (bv false) fun v8 =>
 iF v8 fun w_2 =>
 iF v8 fun w_3 =>
 gB w_3 Q9 .eql (gdV w_2 (.val a0)) (.val (.int .u8 95)) fun v11 =>
 pk v8 (bv true) v11 fun v12 =>
 some (.ret v12, s) := (Q5 _ _ _).trans (by kernel_rfl)
noncomputable def Q1T : Slot → Slot → St → Res := fun x0 x3 s => lpD Q2z [.seqR, .seqL, .seqR, .block] Tryz.f150 [(0, .s x0), (3, .s x3)] s
theorem Q5J : ∀ x0 x3 s_1, Q1T x0 x3 s_1 =
 ln Q2 x0 fun v7 =>
 bn Q1 .lss x3 v7 fun v8 =>
 condS v8 (
 bind1 (indexS (C.ti Q2) (C.ti T_0) x0 x3) fun v13 =>
 ca Q2A [v13] s_1 fun v15 s_2 =>
 nt v15 fun v16 =>
 iT v16 fun w =>
 iT v16 fun w_1 =>
 cg w_1 Q2w [(gdV w v13)] s_2 fun v19 s_3 =>
 iT v16 fun w_2 =>
 gN w_2 v19 fun v20 =>
 pk v16 v20 (bv false) fun v21 =>
 iT v21 fun w_3 =>
 iT v21 fun w_4 =>
 gB w_4 Q9 .lss (gdV w_3 v13) (.val (.int .u8 48)) fun v24 =>
 iT v21 fun w_5 =>
 bindB (Slot.isB (gdV w_5 v24) false) fun w_6 =>
 bindB (Slot.isB (gdV w_5 v24) false) fun w_7 =>
 gB w_7 Q9 .gtr (gdV w_6 v13) (.val (.int .u8 57)) fun v27 =>
 iT v21 fun w_8 =>
 bind1 (gd w_8 (pickS (gdV w_5 v24) (bv true) v27)) fun v28 =>
 pk v21 v28 (bv false) fun v29 =>
 iT v29 fun w_9 =>
 iT v29 fun w_10 =>
 gB w_10 Q9 .neq (gdV w_9 v13) (.val (.int .u8 39)) fun v32 =>
 pk v29 v32 (bv false) fun v33 =>
 condS v33 (
 some (.ret (bv false), s_3)) (
 nx x3 fun v10 =>
 Q1T x0 v10 s_3)) (
 ln Q2 x0 fun v35 =>
 bn Q1 .leq v35 (iv 32) fun v36 =>
 some (.ret v36, s_1)) := by intros; unfold Q1T; exact (Qd _ _ _ _ _ _).trans (by kernel_rfl)
theorem Qfh (a0 : AV) (s : St) : cw (.f Q2z) [a0] s =
 Q1T (.val a0) (iv 1) s := (Q5 _ _ _).trans (by kernel_rfl)
theorem Qah (a0 : AV) (s : St) : cw (.f Q1A) [a0] s =
 bn Q2 .neq (.val a0) (sv []) fun v4 =>
 iT v4 fun w =>
 iT v4 fun w_1 =>
 bind1 (gd w_1 (indexS (C.ti Q2) (C.ti T_0) (gdV w (.val a0)) (iv 0))) fun v7 =>
 iT v4 fun w_2 =>
 cg w_2 Q2w [v7] s fun v8 s_1 =>
 pk v4 v8 (bv false) fun v9 =>
 iT v9 fun w_3 =>
 iT v9 fun w_4 =>
 cg w_4 Q2z [(gdV w_3 (.val a0))] s_1 fun v12 s_2 =>
 pk v9 v12 (bv false) fun v13 =>
 some (.ret v13, s_2) := (Q5 _ _ _).trans (by kernel_rfl)
end Go.Proofs.YtobelgghegmhhaaGreatDoor