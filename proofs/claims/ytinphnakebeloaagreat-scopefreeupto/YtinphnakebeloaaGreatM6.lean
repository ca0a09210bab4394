/- A part of the proof: G2. -/
import Derived.Test.YtinphnakebeloaaGreatM4
set_option linter.unusedVariables false
set_option linter.unusedSimpArgs false
namespace Go.Proofs.YtinphnakebeloaaGreat
open Go Go.Am
set_option linter.unusedVariables false
theorem Q9r (a0 : AV) (a1 : AV) (s : St) : cw (.f Q2F) [a0, a1] s =
 bx Qj (.val a0) fun c2 =>
 bx Qg (.val a1) fun c3 =>
 gA Qg c3 fun v5 =>
 bs Qg [v5] fun v6 =>
 ca Q4B [v6] s fun v7 s_1 =>
 nt v7 fun v8 =>
 iF v8 fun w =>
 bind1 (gd w (buildS (C.ti Qo).zero [(0, (C.ti Qf).size, (iv 1))])) fun v10 =>
 iF v8 fun w_1 =>
 bind1 (gd w_1 (ofSlots (C.ti Qj) (List.take (C.ti Qj).size c2))) fun v11 =>
 iF v8 fun w_2 =>
 cg w_2 Q0Y [v10, v11] s_1 fun v12 s_2 =>
 iF v8 fun w_3 =>
 bind1 (gd w_3 (bslF (C.ti Qg).size [v12])) fun v13 =>
 iF v8 fun w_4 =>
 cg w_4 Q4B [v13] s_2 fun v14 s_3 =>
 iF v8 fun w_5 =>
 gN w_5 v14 fun v15 =>
 pk v8 (bv true) v15 fun v16 =>
 condS v16 (
 ca Q33 [] s_3 fun v17 s_4 =>
 some (.ret v17, s_4)) (
 gA Qj c2 fun v18 =>
 cn Q3w [v18] s_3 fun v19 s_5 =>
 gA Qj c2 fun v20 =>
 cn Q5O [v20] s_5 fun v21 s_6 =>
 cn Q0r [v19, v21] s_6 fun v22 s_7 =>
 iT v22 fun w_6 =>
 bind1 (gd w_6 (ofSlots (C.ti Qg) (List.take (C.ti Qg).size c3))) fun v24 =>
 iT v22 fun w_7 =>
 back (noPan (cal cw w_7 (tgtV (.val (.fn Q37 [])) [v24]) s_7)) fun v25 s_8 =>
 iT v22 fun w_8 =>
 bind1 (gd w_8 (ofSlots (C.ti Qg) (List.take (C.ti Qg).size c3))) fun v26 =>
 iT v22 fun w_9 =>
 back (noPan (cal cw w_9 (tgtV (.val (.fn Q36 [])) [v26]) s_8)) fun v27 s_9 =>
 iT v22 fun w_10 =>
 back (noPan (cal cw w_10 (tgtV (.val (.fn Q0r [])) [v25, v27]) s_9)) fun v28 s_10 =>
 pk v22 v28 (bv false) fun v29 =>
 iT v29 fun w_11 =>
 back (noPan (cal cw w_11 (tgtV (.val (.fn Q33 [])) []) s_10)) fun v31 s_11 =>
 pk v29 v31 (bv false) fun v32 =>
 some (.ret v32, s_11)) := (Q4 _ _ _).trans (by kernel_rfl)
theorem Qf5 (a0 : AV) (s : St) : cw (.f Q4B) [a0] s =
 ln Qq (.val a0) fun v4 =>
 bn Q1 .leq v4 (iv 12) fun v5 =>
 iT v5 fun w =>
 iT v5 fun w_1 =>
 cg w_1 Q5M [(gdV w (.val a0))] s fun v8 s_1 =>
 iT v5 fun w_2 =>
 gB w_2 Q1 .leq v8 (iv 300) fun v9 =>
 pk v5 v9 (bv false) fun v10 =>
 some (.ret v10, s_1) := (Q4 _ _ _).trans (by kernel_rfl)
theorem QcP (s : St) : cw (.f Q33) [] s =
 bd Qo [(0, Qf, (iv 2)), (2, Q2, (sv [120]))] fun v5 =>
 bd Qj [(0, Q3, (iv 2)), (1, Q1, (iv 8)), (2, Q2, (sv [120]))] fun v6 =>
 bx Qo v5 fun c =>
 pZ Qo c fun c1 =>
 bx Qj v6 fun c_1 =>
 pZ Qj c_1 fun c2 =>
 gA Qo c1 fun v7 =>
 gA Qj c2 fun v8 =>
 ca Q0Y [v7, v8] s fun v9 s_1 =>
 bs Qg [v9] fun v10 =>
 ca Q0B [v10] s_1 fun v11 s_2 =>
 bx Q5 v11 fun c_2 =>
 pZ Q5 c_2 fun c3 =>
 gA Qo c1 fun v12 =>
 bd Qj [(0, Q3, (iv 1))] fun v13 =>
 cn Q0Y [v12, v13] s_2 fun v14 s_3 =>
 gA Qo c1 fun v15 =>
 gA Qj c2 fun v16 =>
 cn Q0Y [v15, v16] s_3 fun v17 s_4 =>
 bs Qg [v14, v17] fun v18 =>
 cn Q0B [v18] s_4 fun v19 s_5 =>
 bx Q5 v19 fun c_3 =>
 pZ Q5 c_3 fun c4 =>
 gA Q5 c3 fun v20 =>
 bd Q5 [(0, Qx, (iv 16)), (1, Q1, (iv 8)), (2, Q2, (sv [120]))] fun v21 =>
 bn Q5 .eql v20 v21 fun v22 =>
 iT v22 fun w =>
 iT v22 fun w_1 =>
 gG w_1 w Qx 0 c4 fun v25 =>
 iT v22 fun w_2 =>
 gB w_2 Qx .eql v25 (iv 0) fun v26 =>
 pk v22 v26 (bv false) fun v27 =>
 iT v27 fun w_3 =>
 bind1 (gd w_3 (ofSlots (C.ti Qj) (List.take (C.ti Qj).size c2))) fun v29 =>
 iT v27 fun w_4 =>
 cg w_4 Q3w [v29] s_5 fun v30 s_6 =>
 iT v27 fun w_5 =>
 bind1 (gd w_5 (bslF (C.ti Q2).size [(sv [120])])) fun v31 =>
 iT v27 fun w_6 =>
 cg w_6 Q0r [v30, v31] s_6 fun v32 s_7 =>
 pk v27 v32 (bv false) fun v33 =>
 iT v33 fun w_7 =>
 bind1 (gd w_7 (ofSlots (C.ti Qo) (List.take (C.ti Qo).size c1))) fun v35 =>
 iT v33 fun w_8 =>
 bind1 (gd w_8 (ofSlots (C.ti Qj) (List.take (C.ti Qj).size c2))) fun v36 =>
 iT v33 fun w_9 =>
 cg w_9 Q0Y [v35, v36] s_7 fun v37 s_8 =>
 iT v33 fun w_10 =>
 cg w_10 Q37 [v37] s_8 fun v38 s_9 =>
 iT v33 fun w_11 =>
 bind1 (gd w_11 (bslF (C.ti Q2).size [(sv [120])])) fun v39 =>
 iT v33 fun w_12 =>
 cg w_12 Q0r [v38, v39] s_9 fun v40 s_10 =>
 pk v33 v40 (bv false) fun v41 =>
 some (.ret v41, s_10) := (Q4 _ _ _).trans (by kernel_rfl)
noncomputable def Q1w : List Slot → Slot → Slot → Slot → Slot → Slot → St → Res := fun x2 x6 x7 x37 x38 x39 s => lpD Q0B [.seqR, .seqR, .seqR, .seqR, .seqR, .seqR, .seqR, .seqL, .seqR, .block] Tryz.f8 [(2, .var x2), (6, .s x6), (7, .s x7), (37, .s x37), (38, .s x38), (39, .s x39)] s
theorem Q5m : ∀ x2 x6 x7 x37 x38 x39 s_8, Q1w x2 x6 x7 x37 x38 x39 s_8 =
 bn Q1 .lss x39 x38 fun v40 =>
 condS v40 (
 ix Qg x37 x39 fun v41 =>
 ld Qg s_8 v41 fun v42 =>
 bx Qg v42 fun c_8 =>
 pZ Qg c_8 fun c9 =>
 ld QL s_8 x7 fun v43 =>
 gA Qg c9 fun v44 =>
 ca ZL [v43, v44] s_8 fun v45 s_9 =>
 ld Zr s_9 x6 fun v47 =>
 gA Qg c9 fun v48 =>
 ca Zu [v47, v48] s_9 fun v49 s_10 =>
 ex v49 0 fun v50 =>
 ex v49 1 fun v51 =>
 bx Zr v50 fun c_9 =>
 sto s_10 x6 c_9 fun s_11 =>
 nx x39 fun v52 =>
 Q1w x2 x6 x7 x37 x38 v52 s_11) (
 ld QL s_8 x7 fun v53 =>
 bind1 (nilCheckV v53) fun v54 =>
 fa 1 v54 fun v55 =>
 ld Q5 s_8 v55 fun v56 =>
 bx Q5 v56 fun c_10 =>
 pt x2 0 c_10 fun c2_2 =>
 gA Q5 c2_2 fun v => some (.ret v, s_8)) := by intros; unfold Q1w; exact (Qa _ _ _ _ _ _).trans (by kernel_rfl)
theorem Q4x (a0 : AV) (s : St) : cw (.f Q0B) [a0] s =
 ca Q3x [(.val a0)] s fun v11 s_1 =>
 bx Q5 v11 fun c =>
 pZ Q5 c fun c3 =>
 gA Q5 c3 fun v12 =>
 bd Q5 [] fun v13 =>
 bn Q5 .neq v12 v13 fun v14 =>
 condS v14 (
 gA Q5 c3 fun v15 =>
 bx Q5 v15 fun c_1 =>
 pZ Q5 c_1 fun c2 =>
 gA Q5 c2 fun v => some (.ret v, s_1)) (
 ca Q6E [(.val a0)] s_1 fun v18 s_2 =>
 ex v18 0 fun v19 =>
 ex v18 1 fun v20 =>
 bx Q5 v20 fun c_2 =>
 pZ Q5 c_2 fun c5 =>
 gA Q5 c5 fun v21 =>
 bd Q5 [] fun v22 =>
 bn Q5 .neq v21 v22 fun v23 =>
 condS v23 (
 gA Q5 c5 fun v24 =>
 bx Q5 v24 fun c_3 =>
 pZ Q5 c_3 fun c2_1 =>
 gA Q5 c2_1 fun v => some (.ret v, s_2)) (
 ca Q3q [] s_2 fun v25 s_3 =>
 bx Zr v25 fun c_4 =>
 sto (St.addLoc s_3 (.var (List.map .val (C.ti Zr).zero))) (.val (.vp s_3.locs.length 0)) c_4 fun s_4 =>
 bd Q3H [(0, Qw, (.val (.mp s_4.locs.length)))] fun v27 =>
 bx Q3H v27 fun c28 =>
 bx QL (.val (.vp (St.addLoc s_4 (.map [] 0)).locs.length 0)) fun c_5 =>
 sto (St.addLoc (St.addLoc (St.addLoc s_4 (.map [] 0)) (.var c28)) (.var (List.map .val (C.ti QL).zero))) (.val (.vp (St.addLoc (St.addLoc s_4 (.map [] 0)) (.var c28)).locs.length 0)) c_5 fun s_5 =>
 ld QL s_5 (.val (.vp (St.addLoc (St.addLoc s_4 (.map [] 0)) (.var c28)).locs.length 0)) fun v29 =>
 bind1 (fnS Q0K [(.val (.vp (St.addLoc (St.addLoc s_4 (.map [] 0)) (.var c28)).locs.length 0))]) fun v30 =>
 bind1 (nilCheckV v29) fun v31 =>
 fa 5 v31 fun v32 =>
 bx QF v30 fun c_6 =>
 sto s_5 v32 c_6 fun s_6 =>
 ld QL s_6 (.val (.vp (St.addLoc (St.addLoc s_4 (.map [] 0)) (.var c28)).locs.length 0)) fun v33 =>
 bind1 (fnS Q0L [(.val (.vp s_3.locs.length 0)), (.val (.vp (St.addLoc (St.addLoc s_4 (.map [] 0)) (.var c28)).locs.length 0))]) fun v34 =>
 bind1 (nilCheckV v33) fun v35 =>
 fa 4 v35 fun v36 =>
 bx Qv v34 fun c_7 =>
 sto s_6 v36 c_7 fun s_7 =>
 ln Qq (.val a0) fun v38 =>
 Q1w ((List.map .val (C.ti Q5).zero)) (.val (.vp s_3.locs.length 0)) ((.val (.vp (St.addLoc (St.addLoc s_4 (.map [] 0)) (.var c28)).locs.length 0))) (.val a0) v38 (iv 0) s_7)) := (Q4 _ _ _).trans (by kernel_rfl)
theorem Qf6 (a0 : AV) (a1 : AV) (s : St) : cw (.f Q0Y) [a0, a1] s =
 bx Qo (.val a0) fun c2 =>
 bx Qj (.val a1) fun c3 =>
 gA Qo c2 fun v5 =>
 gA Qj c3 fun v6 =>
 bd Qp [(0, Qo, v5), (5, Qj, v6)] fun v7 =>
 bs Qp [v7] fun v8 =>
 bd Qg [(0, Qd, (iv 1)), (5, Qb, v8)] fun v9 =>
 bx Qg v9 fun c =>
 pZ Qg c fun c4 =>
 gA Qg c4 fun v => some (.ret v, s) := (Q4 _ _ _).trans (by kernel_rfl)
noncomputable def Q1Y : Slot → Slot → Slot → St → Res := fun x0 x1 x5 s => lpD Q0r [.seqR, .seqR, .seqL, .seqR, .block] Tryz.f11 [(0, .s x0), (1, .s x1), (5, .s x5)] s
theorem Q6g : ∀ x0 x1 x5 s_1, Q1Y x0 x1 x5 s_1 =
 ln Qe x0 fun v13 =>
 bn Q1 .lss x5 v13 fun v14 =>
 condS v14 (
 ix Q2 x0 x5 fun v19 =>
 ld Q2 s_1 v19 fun v20 =>
 ix Q2 x1 x5 fun v23 =>
 ld Q2 s_1 v23 fun v24 =>
 bn Q2 .neq v20 v24 fun v25 =>
 condS v25 (
 some (.ret (bv false), s_1)) (
 nx x5 fun v16 =>
 Q1Y x0 x1 v16 s_1)) (
 some (.ret (bv true), s_1)) := by intros; unfold Q1Y; exact (Qa _ _ _ _ _ _).trans (by kernel_rfl)
theorem Qe9 (a0 : AV) (a1 : AV) (s : St) : cw (.f Q0r) [a0, a1] s =
 ln Qe (.val a0) fun v7 =>
 ln Qe (.val a1) fun v9 =>
 bn Q1 .neq v7 v9 fun v10 =>
 condS v10 (
 some (.ret (bv false), s)) (
 Q1Y (.val a0) (.val a1) (iv 0) s) := (Q4 _ _ _).trans (by kernel_rfl)
theorem Q8N (a0 : AV) (s : St) : cw (.f Q3w) [a0] s =
 bx Qj (.val a0) fun c1 =>
 gA Qj c1 fun v5 =>
 ca Q3y [v5] s fun v6 s_1 =>
 bd Q5 [] fun v7 =>
 bn Q5 .neq v6 v7 fun v8 =>
 condS v8 (
 some (.ret (.val (.nils)), s_1)) (
 bd Q3H [(0, Qw, (.val (.mp (St.addLoc s_1 (.var (List.map .val (C.ti Qe).zero))).locs.length)))] fun v10 =>
 bx Q3H v10 fun c11 =>
 bind1 (fnS Q0g [(.val (.vp s_1.locs.length 0))]) fun v13 =>
 bind1 (nilCheckV (.val (.vp (St.addLoc (St.addLoc s_1 (.var (List.map .val (C.ti Qe).zero))) (.map [] 0)).locs.length 0))) fun v14 =>
 fa 5 v14 fun v15 =>
 bx QF v13 fun c =>
 sto (St.addLoc (St.addLoc (St.addLoc s_1 (.var (List.map .val (C.ti Qe).zero))) (.map [] 0)) (.var c11)) v15 c fun s_2 =>
 bind1 (nilCheckV (.val (.vp (St.addLoc (St.addLoc s_1 (.var (List.map .val (C.ti Qe).zero))) (.map [] 0)).locs.length 0))) fun v17 =>
 fa 4 v17 fun v18 =>
 bx Qv (.val (.fn Q1a [])) fun c_1 =>
 sto s_2 v18 c_1 fun s_3 =>
 bind1 (nilCheckV (.val (.vp (St.addLoc (St.addLoc s_1 (.var (List.map .val (C.ti Qe).zero))) (.map [] 0)).locs.length 0))) fun v20 =>
 fa 7 v20 fun v21 =>
 bx Ql (bv true) fun c_2 =>
 sto s_3 v21 c_2 fun s_4 =>
 gA Qj c1 fun v23 =>
 ca QC [(.val (.vp (St.addLoc (St.addLoc s_1 (.var (List.map .val (C.ti Qe).zero))) (.map [] 0)).locs.length 0)), v23] s_4 fun v24 s_5 =>
 ld Qe s_5 (.val (.vp s_1.locs.length 0)) fun v25 =>
 some (.ret v25, s_5)) := (Q4 _ _ _).trans (by kernel_rfl)
theorem Q8K (a0 : AV) (s : St) : cw (.f Q5O) [a0] s =
 bx Qj (.val a0) fun c1 =>
 gA Qj c1 fun v3 =>
 ca Q3b [v3] s fun v4 s_1 =>
 ca Q3v [v4] s_1 fun v5 s_2 =>
 nt v5 fun v6 =>
 condS v6 (
 some (.ret (.val (.nils)), s_2)) (
 gA Qj c1 fun v7 =>
 ca QR [v7, (.val (.nils)), (.val (.nils))] s_2 fun v8 s_3 =>
 some (.ret v8, s_3)) := (Q4 _ _ _).trans (by kernel_rfl)
theorem Q7M (a0 : AV) (s : St) : cw (.f Q37) [a0] s =
 bx Qg (.val a0) fun c1 =>
 gA Qg c1 fun v3 =>
 bs Qg [v3] fun v4 =>
 ca Q3x [v4] s fun v5 s_1 =>
 bd Q5 [] fun v6 =>
 bn Q5 .neq v5 v6 fun v7 =>
 condS v7 (
 some (.ret (.val (.nils)), s_1)) (
 gA Qg c1 fun v8 =>
 ca Z6 [v8] s_1 fun v9 s_2 =>
 some (.ret v9, s_2)) := (Q4 _ _ _).trans (by kernel_rfl)
noncomputable def Q0n : Slot → Slot → Slot → St → Res := fun x3 x4 x5 s => lpD Q36 [.seqR, .seqR, .seqR, .seqR, .seqL, .seqR, .block] Tryz.f15 [(3, .s x3), (4, .s x4), (5, .s x5)] s
theorem Q2K : ∀ x3 x4 x5 s_4, Q0n x3 x4 x5 s_4 =
 ln Qe x4 fun v16 =>
 bn Q1 .lss x5 v16 fun v17 =>
 condS v17 (
 ix Q2 x4 x5 fun v23 =>
 ld Q2 s_4 v23 fun v24 =>
 ca Q2t [x3, v24] s_4 fun v25 s_5 =>
 nt v25 fun v26 =>
 condS v26 (
 ix Q2 x4 x5 fun v30 =>
 ld Q2 s_5 v30 fun v31 =>
 bs Q2 [v31] fun v32 =>
 ap Q2 s_5 x3 v32 fun v33 s_6 =>
 nx x5 fun v19 =>
 Q0n v33 x4 v19 s_6) (
 nx x5 fun v19_1 =>
 Q0n x3 x4 v19_1 s_5)) (
 some (.ret x3, s_4)) := by intros; unfold Q0n; exact (Qa _ _ _ _ _ _).trans (by kernel_rfl)
theorem Q7K (a0 : AV) (s : St) : cw (.f Q36) [a0] s =
 bx Qg (.val a0) fun c1 =>
 gA Qg c1 fun v6 =>
 bs Qg [v6] fun v7 =>
 ca Q4X [v7] s fun v8 s_1 =>
 ca Q3v [v8] s_1 fun v9 s_2 =>
 nt v9 fun v10 =>
 condS v10 (
 some (.ret (.val (.nils)), s_2)) (
 bs Q2 [] fun v11 =>
 gA Qg c1 fun v12 =>
 ca Q0A [v12] s_2 fun v13 s_3 =>
 Q0n v11 v13 (iv 0) s_3) := (Q4 _ _ _).trans (by kernel_rfl)
theorem QcX (a0 : AV) (s : St) : cw (.f Q4X) [a0] s =
 ca Q3u [(.val a0)] s fun v4 s_1 =>
 ca Zv [(.val a0)] s_1 fun v6 s_2 =>
 ca Q0z [v4, v6] s_2 fun v7 s_3 =>
 bx Q5 v7 fun c =>
 pZ Q5 c fun c2 =>
 gA Q5 c2 fun v => some (.ret v, s_3) := (Q4 _ _ _).trans (by kernel_rfl)
theorem Qe4 (a0 : AV) (s : St) : cw (.f Q5M) [a0] s =
 ca Q3u [(.val a0)] s fun v4 s_1 =>
 ca Q1P [v4] s_1 fun v5 s_2 =>
 some (.ret v5, s_2) := (Q4 _ _ _).trans (by kernel_rfl)
theorem Qef (a0 : AV) (s : St) : cw (.f Q3x) [a0] s =
 bx Qq (.val a0) fun c1 =>
 bindA (avs c1) fun l1 =>
 ld Qq s (.val (.cp l1)) fun v3 =>
 ca Q4o [v3] s fun v4 s_1 =>
 bind1 (fnS Q4m [(.val (.cp l1))]) fun v5 =>
 ca Q2k [v4, v5] s_1 fun v6 s_2 =>
 bx Q5 v6 fun c =>
 pZ Q5 c fun c2 =>
 gA Q5 c2 fun v => some (.ret v, s_2) := (Q4 _ _ _).trans (by kernel_rfl)
noncomputable def Q3I : List Slot → Slot → Slot → Slot → Slot → St → Res := fun x3 x4 x10 x11 x12 s => lpD Q6E [.seqR, .seqR, .seqL, .seqR, .block] Tryz.f19 [(3, .var x3), (4, .s x4), (10, .s x10), (11, .s x11), (12, .s x12)] s
theorem Q8x : ∀ x3 x4 x10 x11 x12 s_2, Q3I x3 x4 x10 x11 x12 s_2 =
 bn Q1 .lss x12 x11 fun v13 =>
 condS v13 (
 ix Qg x10 x12 fun v14 =>
 ld Qg s_2 v14 fun v15 =>
 bx Qg v15 fun c =>
 pZ Qg c fun c6 =>
 gA Qg c6 fun v18 =>
 ca Zu [x4, v18] s_2 fun v19 s_3 =>
 ex v19 0 fun v20 =>
 ex v19 1 fun v21 =>
 bx Q5 v21 fun c_1 =>
 pZ Q5 c_1 fun c8 =>
 gC Qx 0 c8 fun v23 =>
 bn Qx .neq v23 (iv 0) fun v24 =>
 condS v24 (
 gA Q5 c8 fun v25 =>
 bx Q5 v25 fun c_2 =>
 pt x3 0 c_2 fun c3 =>
 rt [(some (.val (.nils))), (ofSlots (C.ti Q5) (List.take (C.ti Q5).size c3))] s_3) (
 nx x12 fun v27 =>
 Q3I x3 v20 x10 x11 v27 s_3)) (
 bd Q5 [] fun v29 =>
 bx Q5 v29 fun c_3 =>
 pt x3 0 c_3 fun c3_1 =>
 rt [(some x4), (ofSlots (C.ti Q5) (List.take (C.ti Q5).size c3_1))] s_2) := by intros; unfold Q3I; exact (Qa _ _ _ _ _ _).trans (by kernel_rfl)
theorem QgW (a0 : AV) (s : St) : cw (.f Q6E) [a0] s =
 ca Q3q [] s fun v9 s_1 =>
 ln Qq (.val a0) fun v11 =>
 Q3I ((List.map .val (C.ti Q5).zero)) v9 (.val a0) v11 (iv 0) s_1 := (Q4 _ _ _).trans (by kernel_rfl)
theorem QdT (s : St) : cw (.f Q3q) [] s =
 ca ZR [(sv [40, 41]), (sv [117, 110, 105, 116]), (iv 0), (iv 1)] s fun v1 s_1 =>
 ca ZR [(sv [102, 97, 108, 115, 101]), (sv [98, 111, 111, 108]), (iv 0), (iv 2)] s_1 fun v2 s_2 =>
 ca ZR [(sv [116, 114, 117, 101]), (sv [98, 111, 111, 108]), (iv 1), (iv 2)] s_2 fun v3 s_3 =>
 ca ZR [(sv [68, 105, 118]), (sv [101, 120, 110]), (iv 0), (iv 0)] s_3 fun v4 s_4 =>
 ca ZR [(sv [69, 111, 102]), (sv [101, 120, 110]), (iv 1), (iv 0)] s_4 fun v5 s_5 =>
 ca ZR [(sv [77, 97, 116, 99, 104]), (sv [101, 120, 110]), (iv 2), (iv 0)] s_5 fun v6 s_6 =>
 bs Qi [v1, v2, v3, v4, v5, v6] fun v7 =>
 some (.ret v7, s_6) := (Q4 _ _ _).trans (by kernel_rfl)
theorem Qbb (a0 : AV) (a1 : AV) (a2 : AV) (s : St) : cw (.f Q0K) [a0, a1, a2] s =
 ld QL s (.val a2) fun v5 =>
 ca QJ [v5, (iv 16), (.val a1), (.val a0)] s fun v8 s_1 =>
 rt [] s_1 := (Q4 _ _ _).trans (by kernel_rfl)
theorem Q4T (a0 : AV) (a1 : AV) (a2 : AV) (a3 : AV) (s : St) : cw (.f QJ) [a0, a1, a2, a3] s =
 bind1 (nilCheckV (.val a0)) fun v9 =>
 fa 6 v9 fun v10 =>
 ld Ql s v10 fun v11 =>
 nt v11 fun v12 =>
 iT v12 fun w =>
 iT v12 fun w_1 =>
 bind1 (gd w_1 (nilCheckV (gdV w (.val a0)))) fun v15 =>
 iT v12 fun w_2 =>
 bind1 (gd w_2 (faV 7 v15)) fun v16 =>
 iT v12 fun w_3 =>
 bind1 (gd w_3 (ldV (C.ti Ql) false s v16)) fun v17 =>
 iT v12 fun w_4 =>
 gN w_4 v17 fun v18 =>
 pk v12 v18 (bv false) fun v19 =>
 condS v19 (
 bd Q5 [(0, Qx, (.val a1)), (1, Q1, (.val a2)), (2, Q2, (.val a3))] fun v25 =>
 bind1 (nilCheckV (.val a0)) fun v26 =>
 fa 1 v26 fun v27 =>
 bx Q5 v25 fun c =>
 sto s v27 c fun s_1 =>
 bind1 (nilCheckV (.val a0)) fun v28 =>
 fa 6 v28 fun v29 =>
 bx Ql (bv true) fun c_1 =>
 sto s_1 v29 c_1 fun s_2 =>
 rt [] s_2) (
 rt [] s) := (Q4 _ _ _).trans (by kernel_rfl)
theorem Q3h (a0 : AV) (a1 : AV) (a2 : AV) (a3 : AV) (a4 : AV) (s : St) : cw (.f Q0L) [a0, a1, a2, a3, a4] s =
 ld Zr s (.val a3) fun v11 =>
 ca Q4A [v11, (.val a0)] s fun v13 s_1 =>
 ex v13 0 fun v14 =>
 ex v13 1 fun v15 =>
 bx Qi v14 fun c =>
 pZ Qi c fun c8 =>
 nt v15 fun v18 =>
 condS v18 (
 ld QL s_1 (.val a4) fun v19 =>
 ca QJ [v19, (iv 17), (.val a1), (.val a0)] s_1 fun v22 s_2 =>
 rt [] s_2) (
 gC Ql 4 c8 fun v25 =>
 bn Q1 .gtr (.val a2) (iv 0) fun v27 =>
 bn Ql .neq v25 v27 fun v28 =>
 condS v28 (
 ld QL s_1 (.val a4) fun v29 =>
 ca QJ [v29, (iv 19), (.val a1), (.val a0)] s_1 fun v32 s_3 =>
 rt [] s_3) (
 rt [] s_1)) := (Q4 _ _ _).trans (by kernel_rfl)
noncomputable def Q2m : Slot → List Slot → Slot → Slot → Slot → St → Res := fun x1 x4 x8 x9 x10 s => lpD Q4A [.seqR, .seqL, .seqR, .block] Tryz.f24 [(1, .s x1), (4, .var x4), (8, .s x8), (9, .s x9), (10, .s x10)] s
theorem Q6J : ∀ x1 x4 x8 x9 x10 s_1, Q2m x1 x4 x8 x9 x10 s_1 =
 bn Q1 .lss x10 x9 fun v11 =>
 condS v11 (
 ix Qi x8 x10 fun v12 =>
 ld Qi s_1 v12 fun v13 =>
 bx Qi v13 fun c =>
 pZ Qi c fun c7 =>
 gC Q2 0 c7 fun v15 =>
 bn Q2 .eql v15 x1 fun v17 =>
 condS v17 (
 gC Q7 6 c7 fun v20 =>
 ca Q14 [v20] s_1 fun v21 s_2 =>
 bx Q7 v21 fun c_1 =>
 pt c7 6 c_1 fun c7_1 =>
 gA Qi c7_1 fun v24 =>
 bx Qi v24 fun c_2 =>
 pt x4 0 c_2 fun c4 =>
 rt [(ofSlots (C.ti Qi) (List.take (C.ti Qi).size c4)), (some (bv true))] s_2) (
 nx x10 fun v25 =>
 Q2m x1 x4 x8 x9 v25 s_1)) (
 bd Qi [] fun v26 =>
 bx Qi v26 fun c_3 =>
 pt x4 0 c_3 fun c4_1 =>
 rt [(ofSlots (C.ti Qi) (List.take (C.ti Qi).size c4_1)), (some (bv false))] s_1) := by intros; unfold Q2m; exact (Qa _ _ _ _ _ _).trans (by kernel_rfl)
theorem QeK (a0 : AV) (a1 : AV) (s : St) : cw (.f Q4A) [a0, a1] s =
 ln Zr (.val a0) fun v9 =>
 Q2m (.val a1) ((List.map .val (C.ti Qi).zero)) (.val a0) v9 (iv 0) s := (Q4 _ _ _).trans (by kernel_rfl)
noncomputable def ZD : Slot → List Slot → Slot → Slot → Slot → St → Res := fun x0 x3 x16 x17 x18 s => lpD ZL [.seqR, .seqL, .seqR, .block, .seqR, .thn, .seqL, .seqR, .block] Tryz.f25 [(0, .s x0), (3, .var x3), (16, .s x16), (17, .s x17), (18, .s x18)] s
noncomputable def ZE : Slot → Slot → Slot → Slot → Slot → Slot → St → Res := fun x0_1 x7 x8 x44 x45 x46 s => lpD ZL [.seqR, .seqL, .seqR, .block, .seqR, .els, .seqR, .thn, .seqR, .seqR, .seqL, .seqR, .block] Tryz.f25 [(0, .s x0_1), (7, .s x7), (8, .s x8), (44, .s x44), (45, .s x45), (46, .s x46)] s
theorem Q3S : ∀ x0 x3 x16 x17 x18 s_1, ZD x0 x3 x16 x17 x18 s_1 =
 bn Q1 .lss x18 x17 fun v19 =>
 condS v19 (
 ix Qp x16 x18 fun v20 =>
 ld Qp s_1 v20 fun v21 =>
 bx Qp v21 fun c =>
 pZ Qp c fun c6 =>
 gC Qo 0 c6 fun v24 =>
 ca QU [x0, v24, (.val (.mp s_1.locs.length))] (St.addLoc s_1 (.map [] 0)) fun v26 s_2 =>
 gC Qj 5 c6 fun v29 =>
 ca QC [x0, v29] s_2 fun v30 s_3 =>
 nx x18 fun v31 =>
 ZD x0 x3 x16 x17 v31 s_3) (
 gA Qg x3 fun v33 =>
 ca Z6 [v33] s_1 fun v34 s_4 =>
 ca Z8 [x0, v34] s_4 fun v35 s_5 =>
 some (.ret v35, s_5)) := by intros; unfold ZD; exact (Qa _ _ _ _ _ _).trans (by kernel_rfl)
theorem Q1N : ∀ x0_1 x7 x8 x44 x45 x46 s_8, ZE x0_1 x7 x8 x44 x45 x46 s_8 =
 bn Q1 .lss x46 x45 fun v47 =>
 condS v47 (
 ix QW x44 x46 fun v48 =>
 ld QW s_8 v48 fun v49 =>
 bx QW v49 fun c_1 =>
 pZ QW c_1 fun c10 =>
 gC Q2 0 c10 fun v52 =>
 lk Q2 Q1 s_8 x8 v52 false fun v53 =>
 nx v53 fun v54 =>
 upd2 Q2 Q1 s_8 x8 v52 v54 fun _ s_9 =>
 gC Q2 0 c10 fun v57 =>
 lk Q2 Q1 s_9 x8 v57 false fun v58 =>
 bn Q1 .gtr v58 (iv 1) fun v59 =>
 condS v59 (
 gC Q1 1 c10 fun v62 =>
 gC Q2 0 c10 fun v64 =>
 ca QJ [x0_1, (iv 9), v62, v64] s_9 fun v65 s_10 =>
 gC Qp 2 c10 fun v68 =>
 ca Q03 [x0_1, v68] s_10 fun v69 s_11 =>
 nx x46 fun v70 =>
 ZE x0_1 x7 x8 x44 x45 v70 s_11) (
 gC Qp 2 c10 fun v68_1 =>
 ca Q03 [x0_1, v68_1] s_9 fun v69_1 s_12 =>
 nx x46 fun v70_1 =>
 ZE x0_1 x7 x8 x44 x45 v70_1 s_12)) (
 some (.ret x7, s_8)) := by intros; unfold ZE; exact (Qa _ _ _ _ _ _).trans (by kernel_rfl)
theorem Qa6 (a0 : AV) (a1 : AV) (s : St) : cw (.f ZL) [a0, a1] s =
 bx Qg (.val a1) fun c3 =>
 gC Qd 0 c3 fun v12 =>
 bn Qd .eql v12 (iv 1) fun v14 =>
 condS v14 (
 gC Qb 5 c3 fun v16 =>
 ln Qb v16 fun v17 =>
 ZD (.val a0) c3 v16 v17 (iv 0) s) (
 bn Qd .eql v12 (iv 2) fun v37 =>
 condS v37 (
 gA Qg c3 fun v39 =>
 ca Z6 [v39] s fun v40 s_6 =>
 ca Z8 [(.val a0), v40] s_6 fun v41 s_7 =>
 gC Qu 6 c3 fun v44 =>
 ln Qu v44 fun v45 =>
 ZE (.val a0) v41 (.val (.mp s_7.locs.length)) v44 v45 (iv 0) (St.addLoc s_7 (.map [] 0))) (
 some (.ret (.val (.fn Q0M [])), s))) := (Q4 _ _ _).trans (by kernel_rfl)
noncomputable def Q27 : List Slot → Slot → List Slot → St → Res := fun x5_4 x6_4 x18_2 s => pwD Zu [.seqR, .scope, .seqR, .seqR, .seqR, .seqR, .seqR, .seqR, .seqR, .seqR, .seqR, .seqR, .seqR] Tryz.f26 [(5, .var x5_4), (6, .s x6_4), (18, .var x18_2)] s
noncomputable def Q4D : List Slot → List Slot → Slot → Slot → Slot → Slot → Slot → Slot → List Slot → Slot → List Slot → List Slot → List Slot → Slot → Slot → Slot → St → Res := fun x3_4 x5_5 x6_5 x7_4 x8_4 x9_4 x10_4 x13_3 x16_2 x17_2 x18_3 x20_1 x25 x90_2 x91_2 x92_2 s => pwD Zu [.seqR, .scope, .seqR, .seqR, .seqR, .seqR, .seqR, .seqR, .seqR, .seqR, .seqR, .seqR, .seqL, .seqR, .block, .loop, .seqR, .seqR, .seqL, .block, .seqR, .seqR, .seqR, .seqR, .seqR, .seqR, .seqR, .seqR] Tryz.f26 [(3, .var x3_4), (5, .var x5_5), (6, .s x6_5), (7, .s x7_4), (8, .s x8_4), (9, .s x9_4), (10, .s x10_4), (13, .s x13_3), (16, .var x16_2), (17, .s x17_2), (18, .var x18_3), (20, .var x20_1), (25, .var x25), (90, .s x90_2), (91, .s x91_2), (92, .s x92_2)] s
noncomputable def Q0a : List Slot → List Slot → Slot → Slot → Slot → Slot → Slot → Slot → List Slot → Slot → List Slot → List Slot → Slot → Slot → Slot → Slot → Slot → St → Res := fun x3_3 x5_3 x6_3 x7_3 x8_3 x9_3 x10_3 x13_2 x16_1 x17_1 x18_1 x20 x21 x22 x90_1 x91_1 x92_1 s => pwD Zu [.seqR, .scope, .seqR, .seqR, .seqR, .seqR, .seqR, .seqR, .seqR, .seqR, .seqR, .seqR, .seqL, .seqR, .block, .loop, .seqR, .seqR, .seqL, .block, .seqR, .seqR, .seqR, .seqR] Tryz.f26 [(3, .var x3_3), (5, .var x5_3), (6, .s x6_3), (7, .s x7_3), (8, .s x8_3), (9, .s x9_3), (10, .s x10_3), (13, .s x13_2), (16, .var x16_1), (17, .s x17_1), (18, .var x18_1), (20, .var x20), (21, .s x21), (22, .s x22), (90, .s x90_1), (91, .s x91_1), (92, .s x92_1)] s
noncomputable def Q2Q : List Slot → List Slot → Slot → Slot → Slot → Slot → Slot → Slot → List Slot → Slot → List Slot → Slot → Slot → Slot → St → Res := fun x3_2 x5_2 x6_2 x7_2 x8_2 x9_2 x10_2 x13_1 x16 x17 x18 x90 x91 x92 s => lpD Zu [.seqR, .scope, .seqR, .seqR, .seqR, .seqR, .seqR, .seqR, .seqR, .seqR, .seqR, .seqR, .seqL, .seqR, .block] Tryz.f26 [(3, .var x3_2), (5, .var x5_2), (6, .s x6_2), (7, .s x7_2), (8, .s x8_2), (9, .s x9_2), (10, .s x10_2), (13, .s x13_1), (16, .var x16), (17, .s x17), (18, .var x18), (90, .s x90), (91, .s x91), (92, .s x92)] s
noncomputable def Q26 : List Slot → List Slot → Slot → Slot → Slot → Slot → Slot → Slot → St → Res := fun x3_1 x5_1 x6_1 x7_1 x8_1 x9_1 x10_1 x13 s => pwD Zu [.seqR, .scope, .seqR, .seqR, .seqR, .seqR, .seqR, .seqR, .seqR] Tryz.f26 [(3, .var x3_1), (5, .var x5_1), (6, .s x6_1), (7, .s x7_1), (8, .s x8_1), (9, .s x9_1), (10, .s x10_1), (13, .s x13)] s
noncomputable def Q10 : List Slot → List Slot → Slot → Slot → Slot → Slot → Slot → Slot → Slot → Slot → St → Res := fun x3 x5 x6 x7 x8 x9 x10 x34 x35 x36 s => lpD Zu [.seqR, .scope, .seqR, .seqR, .seqR, .seqR, .seqL, .seqR, .block] Tryz.f26 [(3, .var x3), (5, .var x5), (6, .s x6), (7, .s x7), (8, .s x8), (9, .s x9), (10, .s x10), (34, .s x34), (35, .s x35), (36, .s x36)] s
theorem Q7s : ∀ x5_4 x6_4 x18_2 s_10, Q27 x5_4 x6_4 x18_2 s_10 =
 gC Qx 0 x18_2 fun v165 =>
 bn Qx .neq v165 (iv 0) fun v166 =>
 condS v166 (
 gA Q5 x18_2 fun v167 =>
 bx Q5 v167 fun c_5 =>
 pt x5_4 0 c_5 fun c5_1 =>
 rt [(some (.val (.nils))), (ofSlots (C.ti Q5) (List.take (C.ti Q5).size c5_1))] s_10) (
 bd Q5 [] fun v169 =>
 bx Q5 v169 fun c_6 =>
 pt x5_4 0 c_6 fun c5_2 =>
 rt [(some x6_4), (ofSlots (C.ti Q5) (List.take (C.ti Q5).size c5_2))] s_10) := by intros; unfold Q27; exact (Zx _).trans (by kernel_rfl)
theorem Q7t : ∀ x3_4 x5_5 x6_5 x7_4 x8_4 x9_4 x10_4 x13_3 x16_2 x17_2 x18_3 x20_1 x25 x90_2 x91_2 x92_2 s_14, Q4D x3_4 x5_5 x6_5 x7_4 x8_4 x9_4 x10_4 x13_3 x16_2 x17_2 x18_3 x20_1 x25 x90_2 x91_2 x92_2 s_14 =
 gC Q2 0 x20_1 fun v149 =>
 gC Ql 2 x20_1 fun v154 =>
 gA Q7 x25 fun v156 =>
 bd Q1H [(0, Q1, x17_2), (1, Q7, v156)] fun v157 =>
 bd Qi [(0, Q2, v149), (1, Q2, x13_3), (2, Q1, x9_4), (3, Q1, x10_4), (4, Ql, v154), (5, Q1H, v157)] fun v158 =>
 bs Qi [v158] fun v159 =>
 ap Qi s_14 x6_5 v159 fun v160 s_15 =>
 nx x9_4 fun v162 =>
 nx x92_2 fun v163 =>
 Q2Q x3_4 x5_5 v160 x7_4 x8_4 v162 x10_4 x13_3 x16_2 x17_2 x18_3 x90_2 x91_2 v163 s_15 := by intros; unfold Q4D; exact (Zx _).trans (by kernel_rfl)
theorem Q4s : ∀ x3_3 x5_3 x6_3 x7_3 x8_3 x9_3 x10_3 x13_2 x16_1 x17_1 x18_1 x20 x21 x22 x90_1 x91_1 x92_1 s_9, Q0a x3_3 x5_3 x6_3 x7_3 x8_3 x9_3 x10_3 x13_2 x16_1 x17_1 x18_1 x20 x21 x22 x90_1 x91_1 x92_1 s_9 =
 bn Qx .neq x21 (iv 0) fun v128 =>
 condS v128 (
 gC Q1 1 x20 fun v131 =>
 bd Q5 [(0, Qx, x21), (1, Q1, v131), (2, Q2, x22)] fun v133 =>
 bx Q5 v133 fun c_4 =>
 pt x18_1 0 c_4 fun c18 =>
 Q27 x5_3 x6_3 c18 s_9) (
 gC Q2 0 x20 fun v136 =>
 lk Q2 Q1 s_9 x8_3 v136 false fun v137 =>
 nx v137 fun v138 =>
 upd2 Q2 Q1 s_9 x8_3 v136 v138 fun _ s_11 =>
 gA Q7 x16_1 fun v139 =>
 ca QaK [v139, (.val (.nils))] s_11 fun v140 s_12 =>
 bx Q7 v140 fun c_7 =>
 pZ Q7 c_7 fun c25 =>
 gC Ql 2 x20 fun v142 =>
 condS v142 (
 gC Q7 3 x20 fun v144 =>
 gA Q7 x16_1 fun v145 =>
 ca Qct [v144, v145] s_12 fun v146 s_13 =>
 bx Q7 v146 fun c_8 =>
 pt c25 0 c_8 fun c25_1 =>
 Q4D x3_3 x5_3 x6_3 x7_3 x8_3 x9_3 x10_3 x13_2 x16_1 x17_1 x18_1 x20 c25_1 x90_1 x91_1 x92_1 s_13) (
 Q4D x3_3 x5_3 x6_3 x7_3 x8_3 x9_3 x10_3 x13_2 x16_1 x17_1 x18_1 x20 c25 x90_1 x91_1 x92_1 s_12)) := by intros; unfold Q0a; exact (Zx _).trans (by kernel_rfl)
theorem Q0j : ∀ x3_2 x5_2 x6_2 x7_2 x8_2 x9_2 x10_2 x13_1 x16 x17 x18 x90 x91 x92 s_8, Q2Q x3_2 x5_2 x6_2 x7_2 x8_2 x9_2 x10_2 x13_1 x16 x17 x18 x90 x91 x92 s_8 =
 bn Q1 .lss x92 x91 fun v93 =>
 condS v93 (
 ix Zl x90 x92 fun v94 =>
 ld Zl s_8 v94 fun v95 =>
 bx Zl v95 fun c_3 =>
 pZ Zl c_3 fun c20 =>
 gC Q2 0 c20 fun v97 =>
 gC Q2 0 c20 fun v101 =>
 lk Q2 Q1 s_8 x8_2 v101 false fun v102 =>
 bn Q1 .gtr v102 (iv 0) fun v103 =>
 condS v103 (
 Q0a x3_2 x5_2 x6_2 x7_2 x8_2 x9_2 x10_2 x13_1 x16 x17 x18 c20 (iv 9) v97 x90 x91 x92 s_8) (
 gC Qd 0 x3_2 fun v106 =>
 bn Qd .eql v106 (iv 4) fun v107 =>
 iT v107 fun w_3 =>
 iT v107 fun w_4 =>
 gB w_4 Q1 .gtr (gdV w_3 x9_2) (iv 1023) fun v110 =>
 pk v107 v110 (bv false) fun v111 =>
 condS v111 (
 Q0a x3_2 x5_2 x6_2 x7_2 x8_2 x9_2 x10_2 x13_1 x16 x17 x18 c20 (iv 19) v97 x90 x91 x92 s_8) (
 gC Ql 2 c20 fun v114 =>
 condS v114 (
 gC Q7 3 c20 fun v119 =>
 ca Q5L [x7_2, x17, v119] s_8 fun v120 s_16 =>
 ex v120 0 fun v121 =>
 ex v120 1 fun v122 =>
 bn Qx .neq v121 (iv 0) fun v124 =>
 condS v124 (
 Q0a x3_2 x5_2 x6_2 x7_2 x8_2 x9_2 x10_2 x13_1 x16 x17 x18 c20 v121 v122 x90 x91 x92 s_16) (
 Q0a x3_2 x5_2 x6_2 x7_2 x8_2 x9_2 x10_2 x13_1 x16 x17 x18 c20 (iv 0) v97 x90 x91 x92 s_16)) (
 Q0a x3_2 x5_2 x6_2 x7_2 x8_2 x9_2 x10_2 x13_1 x16 x17 x18 c20 (iv 0) v97 x90 x91 x92 s_8)))) (
 Q27 x5_2 x6_2 x18 s_8) := by intros; unfold Q2Q; exact (Qa _ _ _ _ _ _).trans (by kernel_rfl)
theorem QcF : ∀ x3_1 x5_1 x6_1 x7_1 x8_1 x9_1 x10_1 x13 s_6, Q26 x3_1 x5_1 x6_1 x7_1 x8_1 x9_1 x10_1 x13 s_6 =
 gA Qg x3_1 fun v85 =>
 ca Q2N [v85] s_6 fun v86 s_7 =>
 ex v86 0 fun v87 =>
 ex v86 1 fun v88 =>
 bx Q7 v87 fun c_2 =>
 pZ Q7 c_2 fun c16 =>
 gC Qy 4 x3_1 fun v90 =>
 ln Qy v90 fun v91 =>
 Q2Q x3_1 x5_1 x6_1 x7_1 x8_1 x9_1 x10_1 x13 c16 v88 ((List.map .val (C.ti Q5).zero)) v90 v91 (iv 0) s_7 := by intros; unfold Q26; exact (Zx _).trans (by kernel_rfl)
theorem Q7u : ∀ x3 x5 x6 x7 x8 x9 x10 x34 x35 x36 s_3, Q10 x3 x5 x6 x7 x8 x9 x10 x34 x35 x36 s_3 =
 bn Q1 .lss x36 x35 fun v37 =>
 condS v37 (
 ix Qi x34 x36 fun v38 =>
 ld Qi s_3 v38 fun v39 =>
 bx Qi v39 fun c =>
 pZ Qi c fun c12 =>
 gC Q2 0 c12 fun v42 =>
 lk Q2 Q1 s_3 x8 v42 false fun v43 =>
 nx v43 fun v44 =>
 upd2 Q2 Q1 s_3 x8 v42 v44 fun _ s_4 =>
 gC Qd 0 x3 fun v46 =>
 bn Qd .eql v46 (iv 4) fun v47 =>
 iT v47 fun w =>
 iT v47 fun w_1 =>
 gG w_1 w Q2 1 c12 fun v50 =>
 iT v47 fun w_2 =>
 gB w_2 Q2 .eql v50 (sv [101, 120, 110]) fun v51 =>
 pk v47 v51 (bv false) fun v52 =>
 condS v52 (
 nx x9 fun v54 =>
 nx x36 fun v55 =>
 Q10 x3 x5 x6 x7 x8 v54 x10 x34 x35 v55 s_4) (
 nx x36 fun v55_1 =>
 Q10 x3 x5 x6 x7 x8 x9 x10 x34 x35 v55_1 s_4)) (
 gC Q2 2 x3 fun v57 =>
 gC Qd 0 x3 fun v59 =>
 bn Qd .eql v59 (iv 3) fun v63 =>
 condS v63 (
 gC Q2 2 x3 fun v67 =>
 lk Q2 Q1 s_3 x7 v67 true fun v68 =>
 ex v68 0 fun v69 =>
 ex v68 1 fun v70 =>
 condS v70 (
 gC Q1 1 x3 fun v73 =>
 gC Q2 2 x3 fun v75 =>
 bd Q5 [(0, Qx, (iv 9)), (1, Q1, v73), (2, Q2, v75)] fun v76 =>
 bx Q5 v76 fun c_1 =>
 pt x5 0 c_1 fun c5 =>
 rt [(some (.val (.nils))), (ofSlots (C.ti Q5) (List.take (C.ti Q5).size c5))] s_3) (
 gC Q2 2 x3 fun v79 =>
 gC Q1 3 x3 fun v81 =>
 upd2 Q2 Q1 s_3 x7 v79 v81 fun _ s_5 =>
 Q26 x3 x5 x6 x7 x8 x9 x10 v57 s_5)) (
 bn Qd .eql v59 (iv 4) fun v83 =>
 condS v83 (
 Q26 x3 x5 x6 x7 x8 x9 (iv 0) (sv [101, 120, 110]) s_3) (
 bd Q5 [] fun v61 =>
 bx Q5 v61 fun c_9 =>
 pt x5 0 c_9 fun c5_3 =>
 rt [(some x6), (ofSlots (C.ti Q5) (List.take (C.ti Q5).size c5_3))] s_3))) := by intros; unfold Q10; exact (Qa _ _ _ _ _ _).trans (by kernel_rfl)
theorem QfU (a0 : AV) (a1 : AV) (s : St) : cw (.f Zu) [a0, a1] s =
 bx Qg (.val a1) fun c3 =>
 ca Q32 [(.val a0)] s fun v27 s_1 =>
 ca Q3r [(.val a0)] s_1 fun v29 s_2 =>
 gC Qy 4 c3 fun v32 =>
 ln Qy v32 fun v33 =>
 ln Zr (.val a0) fun v35 =>
 Q10 c3 ((List.map .val (C.ti Q5).zero)) v27 v29 (.val (.mp s_2.locs.length)) (iv 0) v33 (.val a0) v35 (iv 0) (St.addLoc s_2 (.map [] 0)) := (Q4 _ _ _).trans (by kernel_rfl)
theorem Qeb (a0 : AV) (s : St) : cw (.f Q3v) [a0] s =
 bx Q5 (.val a0) fun c1 =>
 gC Qx 0 c1 fun v4 =>
 bn Qx .eql v4 (iv 0) fun v5 =>
 some (.ret v5, s) := (Q4 _ _ _).trans (by kernel_rfl)
theorem Qgb (a0 : AV) (a1 : AV) (s : St) : cw (.f Q2u) [a0, a1] s =
 bs Q2 [] fun v5 =>
 ap Q2 s v5 (.val a0) fun v7 s_1 =>
 ap Q2 s_1 v7 (.val a1) fun v9 s_2 =>
 some (.ret v9, s_2) := (Q4 _ _ _).trans (by kernel_rfl)
noncomputable def Q0p : List Slot → Slot → Slot → St → Res := fun x1_1 x3_1 x4 s => lpD Q0A [.seqR, .seqR, .seqR, .seqL, .seqR, .block] Tryz.f32 [(1, .var x1_1), (3, .s x3_1), (4, .s x4)] s
noncomputable def Q0o : List Slot → Slot → St → Res := fun x1 x3 s => pwD Q0A [.seqR, .seqR, .seqR] Tryz.f32 [(1, .var x1), (3, .s x3)] s
theorem Q2L : ∀ x1_1 x3_1 x4 s_3, Q0p x1_1 x3_1 x4 s_3 =
 gC Qd 0 x1_1 fun v22 =>
 bn Qd .eql v22 (iv 2) fun v23 =>
 iT v23 fun w_4 =>
 iT v23 fun w_5 =>
 iT v23 fun w_6 =>
 gG w_6 w_5 Qu 6 x1_1 fun v27 =>
 iT v23 fun w_7 =>
 gL w_7 Qu v27 fun v28 =>
 iT v23 fun w_8 =>
 gB w_8 Q1 .lss (gdV w_4 x4) v28 fun v29 =>
 pk v23 v29 (bv false) fun v30 =>
 condS v30 (
 gC Qu 6 x1_1 fun v35 =>
 ix QW v35 x4 fun v37 =>
 fa 0 v37 fun v38 =>
 ld Q2 s_3 v38 fun v39 =>
 bs Q2 [v39] fun v40 =>
 ap Q2 s_3 x3_1 v40 fun v41 s_4 =>
 nx x4 fun v32 =>
 Q0p x1_1 v41 v32 s_4) (
 some (.ret x3_1, s_3)) := by intros; unfold Q0p; exact (Qa _ _ _ _ _ _).trans (by kernel_rfl)
theorem Q5l : ∀ x1 x3 s_2, Q0o x1 x3 s_2 =
 Q0p x1 x3 (iv 0) s_2 := by intros; unfold Q0o; exact (Zx _).trans (by kernel_rfl)
theorem Qd7 (a0 : AV) (s : St) : cw (.f Q0A) [a0] s =
 bx Qg (.val a0) fun c1 =>
 bs Q2 [] fun v5 =>
 gC Qd 0 c1 fun v7 =>
 bn Qd .eql v7 (iv 1) fun v8 =>
 iT v8 fun w =>
 iT v8 fun w_1 =>
 gG w_1 w Qb 5 c1 fun v11 =>
 iT v8 fun w_2 =>
 gL w_2 Qb v11 fun v12 =>
 iT v8 fun w_3 =>
 gB w_3 Q1 .eql v12 (iv 1) fun v13 =>
 pk v8 v13 (bv false) fun v14 =>
 condS v14 (
 gC Qb 5 c1 fun v16 =>
 ix Qp v16 (iv 0) fun v17 =>
 fa 0 v17 fun v18 =>
 ld Qo s v18 fun v19 =>
 ca Zw [v19] s fun v20 s_1 =>
 Q0o c1 v20 s_1) (
 Q0o c1 v5 s) := (Q4 _ _ _).trans (by kernel_rfl)
theorem Qbe (a0 : AV) (s : St) : cw (.f Q3y) [a0] s =
 bx Qj (.val a0) fun c1 =>
 bindA (avs c1) fun l1 =>
 ld Qj s (.val (.cp l1)) fun v3 =>
 ca Q2H [v3] s fun v4 s_1 =>
 bind1 (fnS Q2G [(.val (.cp l1))]) fun v5 =>
 ca Q2k [v4, v5] s_1 fun v6 s_2 =>
 bx Q5 v6 fun c =>
 pZ Q5 c fun c2 =>
 gA Q5 c2 fun v => some (.ret v, s_2) := (Q4 _ _ _).trans (by kernel_rfl)
theorem Q6W (a0 : AV) (a1 : AV) (a2 : AV) (s : St) : cw (.f Q0g) [a0, a1, a2] s =
 ld Qe s (.val a2) fun v5 =>
 ca QV [v5, (.val a0)] s fun v7 s_1 =>
 nt v7 fun v8 =>
 condS v8 (
 ld Qe s_1 (.val a2) fun v9 =>
 bs Q2 [(.val a0)] fun v11 =>
 ap Q2 s_1 v9 v11 fun v12 s_2 =>
 bx Qe v12 fun c =>
 sto s_2 (.val a2) c fun s_3 =>
 rt [] s_3) (
 rt [] s_1) := (Q4 _ _ _).trans (by kernel_rfl)
theorem Q2W (a0 : AV) (a1 : AV) (s : St) : cw (.f QV) [a0, a1] s =
 ca Z2 [(.val a0), (.val a1)] s fun v7 s_1 =>
 bn Q1 .geq v7 (iv 0) fun v8 =>
 some (.ret v8, s_1) := (Q4 _ _ _).trans (by kernel_rfl)
theorem Qc6 (a0 : AV) (a1 : AV) (a2 : AV) (s : St) : cw (.f Q1a) [a0, a1, a2] s =
 rt [] s := (Q4 _ _ _).trans (by kernel_rfl)
noncomputable def ZF : Slot → Slot → Slot → St → Res := fun x88 x89 x90 s => lpD QC [.seqR, .seqR, .seqR, .seqR, .seqR, .seqR, .seqR, .seqR, .block] Tryz.f38 [(88, .s x88), (89, .s x89), (90, .s x90)] s
noncomputable def Z0 : Slot → Slot → Slot → Slot → Slot → St → Res := fun x0_3 x4_2 x78 x79 x80 s => lpD QC [.seqR, .seqR, .seqR, .seqR, .seqR, .seqR, .seqL, .seqR, .block] Tryz.f38 [(0, .s x0_3), (4, .s x4_2), (78, .s x78), (79, .s x79), (80, .s x80)] s
noncomputable def QZ : Slot → List Slot → Slot → Slot → Slot → Slot → St → Res := fun x0_2 x3_2 x4_1 x67 x68 x69 s => lpD QC [.seqR, .seqR, .seqR, .seqR, .seqR, .seqL, .seqR, .block] Tryz.f38 [(0, .s x0_2), (3, .var x3_2), (4, .s x4_1), (67, .s x67), (68, .s x68), (69, .s x69)] s
noncomputable def QY : Slot → List Slot → Slot → Slot → Slot → Slot → St → Res := fun x0_1 x3_1 x4 x53 x54 x55 s => lpD QC [.seqR, .seqR, .seqR, .seqR, .seqL, .seqR, .block] Tryz.f38 [(0, .s x0_1), (3, .var x3_1), (4, .s x4), (53, .s x53), (54, .s x54), (55, .s x55)] s
noncomputable def QX : Slot → List Slot → St → Res := fun x0 x3 s => pwD QC [.seqR, .seqR, .seqR] Tryz.f38 [(0, .s x0), (3, .var x3)] s
theorem Q3W : ∀ x88 x89 x90 s_10, ZF x88 x89 x90 s_10 =
 bn Q1 .lss x90 x89 fun v91 =>
 condS v91 (
 ix Q01 x88 x90 fun v92 =>
 ld Q01 s_10 v92 fun v93 =>
 back (cal cw true (tgtV v93 []) s_10) fun v95 s_11 =>
 nx x90 fun v96 =>
 ZF x88 x89 v96 s_11) (
 rt [] s_10) := by intros; unfold ZF; exact (Qa _ _ _ _ _ _).trans (by kernel_rfl)
theorem Q3V : ∀ x0_3 x4_2 x78 x79 x80 s_8, Z0 x0_3 x4_2 x78 x79 x80 s_8 =
 bn Q1 .lss x80 x79 fun v81 =>
 condS v81 (
 ix Qp x78 x80 fun v82 =>
 ld Qp s_8 v82 fun v83 =>
 bx Qp v83 fun c_2 =>
 pZ Qp c_2 fun c10 =>
 gA Qp c10 fun v85 =>
 ca Q03 [x0_3, v85] s_8 fun v86 s_9 =>
 nx x80 fun v87 =>
 Z0 x0_3 x4_2 x78 x79 v87 s_9) (
 ln Q2x x4_2 fun v89 =>
 ZF x4_2 v89 (iv 0) s_8) := by intros; unfold Z0; exact (Qa _ _ _ _ _ _).trans (by kernel_rfl)
theorem Q3U : ∀ x0_2 x3_2 x4_1 x67 x68 x69 s_6, QZ x0_2 x3_2 x4_1 x67 x68 x69 s_6 =
 bn Q1 .lss x69 x68 fun v70 =>
 condS v70 (
 ix Qj x67 x69 fun v71 =>
 ld Qj s_6 v71 fun v72 =>
 bx Qj v72 fun c_1 =>
 pZ Qj c_1 fun c8 =>
 gA Qj c8 fun v74 =>
 ca QC [x0_2, v74] s_6 fun v75 s_7 =>
 nx x69 fun v76 =>
 QZ x0_2 x3_2 x4_1 x67 x68 v76 s_7) (
 gC Qb 5 x3_2 fun v78 =>
 ln Qb v78 fun v79 =>
 Z0 x0_2 x4_1 v78 v79 (iv 0) s_6) := by intros; unfold QZ; exact (Qa _ _ _ _ _ _).trans (by kernel_rfl)
theorem Q3T : ∀ x0_1 x3_1 x4 x53 x54 x55 s_3, QY x0_1 x3_1 x4 x53 x54 x55 s_3 =
 bn Q1 .lss x55 x54 fun v56 =>
 condS v56 (
 ix Qg x53 x55 fun v57 =>
 ld Qg s_3 v57 fun v58 =>
 bx Qg v58 fun c =>
 pZ Qg c fun c6 =>
 gA Qg c6 fun v61 =>
 ca ZL [x0_1, v61] s_3 fun v62 s_4 =>
 bs Q01 [v62] fun v63 =>
 ap Q01 s_4 x4 v63 fun v64 s_5 =>
 nx x55 fun v65 =>
 QY x0_1 x3_1 v64 x53 x54 v65 s_5) (
 gC Qs 4 x3_1 fun v67 =>
 ln Qs v67 fun v68 =>
 QZ x0_1 x3_1 x4 v67 v68 (iv 0) s_3) := by intros; unfold QY; exact (Qa _ _ _ _ _ _).trans (by kernel_rfl)
theorem Q8i : ∀ x0 x3 s_2, QX x0 x3 s_2 =
 gC Qq 6 x3 fun v53 =>
 ln Qq v53 fun v54 =>
 QY x0 x3 (.val (.nils)) v53 v54 (iv 0) s_2 := by intros; unfold QX; exact (Zx _).trans (by kernel_rfl)
theorem Qa7 (a0 : AV) (a1 : AV) (s : St) : cw (.f QC) [a0, a1] s =
 bx Qj (.val a1) fun c3 =>
 bind1 (nilCheckV (.val a0)) fun v14 =>
 fa 6 v14 fun v15 =>
 ld Ql s v15 fun v16 =>
 condS v16 (
 rt [] s) (
 gC Q3 0 c3 fun v18 =>
 bn Q3 .eql v18 (iv 2) fun v20 =>
 condS v20 (
 bind1 (nilCheckV (.val a0)) fun v22 =>
 fa 0 v22 fun v23 =>
 ld Qw s v23 fun v24 =>
 gC Q2 2 c3 fun v26 =>
 lk Q2 Q1 s v24 v26 false fun v27 =>
 bn Q1 .eql v27 (iv 0) fun v28 =>
 condS v28 (
 bind1 (nilCheckV (.val a0)) fun v30 =>
 fa 5 v30 fun v31 =>
 ld QF s v31 fun v32 =>
 gC Q2 2 c3 fun v34 =>
 gC Q1 1 c3 fun v36 =>
 back (noPan (cal cw true (tgtV v32 [v34, v36]) s)) fun v37 s_1 =>
 QX (.val a0) c3 s_1) (
 QX (.val a0) c3 s)) (
 bn Q3 .eql v18 (iv 3) fun v39 =>
 condS v39 (
 bind1 (nilCheckV (.val a0)) fun v41 =>
 fa 4 v41 fun v42 =>
 ld Qv s v42 fun v43 =>
 gC Q2 2 c3 fun v45 =>
 gC Q1 1 c3 fun v47 =>
 gC Qs 4 c3 fun v49 =>
 ln Qs v49 fun v50 =>
 back (noPan (cal cw true (tgtV v43 [v45, v47, v50]) s)) fun v51 s_12 =>
 QX (.val a0) c3 s_12) (
 QX (.val a0) c3 s))) := (Q4 _ _ _).trans (by kernel_rfl)
theorem Q9Z (a0 : AV) (s : St) : cw (.f Q3b) [a0] s =
 bx Qj (.val a0) fun c1 =>
 gA Qj c1 fun v3 =>
 cn Zk [v3] s fun v4 s_1 =>
 gA Qj c1 fun v5 =>
 cn QS [v5] s_1 fun v6 s_2 =>
 cn Q0z [v4, v6] s_2 fun v7 s_3 =>
 bx Q5 v7 fun c =>
 pZ Q5 c fun c2 =>
 gA Q5 c2 fun v => some (.ret v, s_3) := (Q4 _ _ _).trans (by kernel_rfl)
noncomputable def Q20 : Slot → Slot → List Slot → Slot → List Slot → Slot → St → Res := fun x1_3 x2_3 x3_3 x7_2 x8_1 x10 s => lpD QR [.seqR, .seqR, .seqL, .seqR, .block, .loop, .seqR, .seqL, .block, .seqR, .seqR, .seqR, .seqR, .seqR, .block] Tryz.f40 [(1, .s x1_3), (2, .s x2_3), (3, .var x3_3), (7, .s x7_2), (8, .var x8_1), (10, .s x10)] s
noncomputable def Q1Z : Slot → Slot → List Slot → Slot → List Slot → Slot → St → Res := fun x1_2 x2_2 x3_2 x7_1 x8 x9 s => pwD QR [.seqR, .seqR, .seqL, .seqR, .block, .loop, .seqR, .seqL, .block, .seqR, .seqR, .seqR] Tryz.f40 [(1, .s x1_2), (2, .s x2_2), (3, .var x3_2), (7, .s x7_1), (8, .var x8), (9, .s x9)] s
noncomputable def Q22 : Slot → Slot → List Slot → Slot → St → Res := fun x1_5 x2_5 x3_5 x12 s => lpD QR [.seqR, .seqR, .seqR, .seqR, .seqL, .seqR, .block] Tryz.f40 [(1, .s x1_5), (2, .s x2_5), (3, .var x3_5), (12, .s x12)] s
noncomputable def Q21 : Slot → Slot → List Slot → Slot → St → Res := fun x1_4 x2_4 x3_4 x11 s => lpD QR [.seqR, .seqR, .seqR, .seqL, .seqR, .block] Tryz.f40 [(1, .s x1_4), (2, .s x2_4), (3, .var x3_4), (11, .s x11)] s
noncomputable def Q0I : Slot → Slot → List Slot → Slot → St → Res := fun x1_1 x2_1 x3_1 x7 s => lpD QR [.seqR, .seqR, .seqL, .seqR, .block] Tryz.f40 [(1, .s x1_1), (2, .s x2_1), (3, .var x3_1), (7, .s x7)] s
noncomputable def Q0H : Slot → Slot → List Slot → St → Res := fun x1 x2 x3 s => pwD QR [.seqR, .seqR] Tryz.f40 [(1, .s x1), (2, .s x2), (3, .var x3)] s
theorem Q6h : ∀ x1_3 x2_3 x3_3 x7_2 x8_1 x10 s_10, Q20 x1_3 x2_3 x3_3 x7_2 x8_1 x10 s_10 =
 gC Qu 6 x8_1 fun v65 =>
 ln Qu v65 fun v66 =>
 bn Q1 .lss x10 v66 fun v67 =>
 condS v67 (
 gC Qu 6 x8_1 fun v71 =>
 ix QW v71 x10 fun v73 =>
 fa 2 v73 fun v74 =>
 fa 5 v74 fun v75 =>
 bind1 (ldV (C.ti Qj) true s_10 v75) fun v76 =>
 gC Qu 6 x8_1 fun v79 =>
 ix QW v79 x10 fun v81 =>
 fa 2 v81 fun v82 =>
 fa 0 v82 fun v83 =>
 bind1 (ldV (C.ti Qo) true s_10 v83) fun v84 =>
 cn Zw [v84] s_10 fun v85 s_11 =>
 cn Q2u [x1_3, v85] s_11 fun v86 s_12 =>
 cn QR [v76, v86, x2_3] s_12 fun v88 s_13 =>
 nx x10 fun v69 =>
 Q20 x1_3 v88 x3_3 x7_2 x8_1 v69 s_13) (
 nx x7_2 fun v41 =>
 Q0I x1_3 x2_3 x3_3 v41 s_10) := by intros; unfold Q20; exact (Qa _ _ _ _ _ _).trans (by kernel_rfl)
theorem Qba : ∀ x1_2 x2_2 x3_2 x7_1 x8 x9 s_8, Q1Z x1_2 x2_2 x3_2 x7_1 x8 x9 s_8 =
 ca Q2u [x1_2, x9] s_8 fun v62 s_9 =>
 Q20 v62 x2_2 x3_2 x7_1 x8 (iv 0) s_9 := by intros; unfold Q1Z; exact (Zx _).trans (by kernel_rfl)
theorem Q6j : ∀ x1_5 x2_5 x3_5 x12 s_16, Q22 x1_5 x2_5 x3_5 x12 s_16 =
 gC Qb 5 x3_5 fun v106 =>
 ln Qb v106 fun v107 =>
 bn Q1 .lss x12 v107 fun v108 =>
 condS v108 (
 gC Qb 5 x3_5 fun v112 =>
 ix Qp v112 x12 fun v114 =>
 fa 5 v114 fun v115 =>
 bind1 (ldV (C.ti Qj) true s_16 v115) fun v116 =>
 gC Qb 5 x3_5 fun v119 =>
 ix Qp v119 x12 fun v121 =>
 fa 0 v121 fun v122 =>
 bind1 (ldV (C.ti Qo) true s_16 v122) fun v123 =>
 cn Zw [v123] s_16 fun v124 s_17 =>
 cn Q2u [x1_5, v124] s_17 fun v125 s_18 =>
 cn QR [v116, v125, x2_5] s_18 fun v127 s_19 =>
 nx x12 fun v110 =>
 Q22 x1_5 v127 x3_5 v110 s_19) (
 some (.ret x2_5, s_16)) := by intros; unfold Q22; exact (Qa _ _ _ _ _ _).trans (by kernel_rfl)
theorem Q6i : ∀ x1_4 x2_4 x3_4 x11 s_14, Q21 x1_4 x2_4 x3_4 x11 s_14 =
 gC Qs 4 x3_4 fun v91 =>
 ln Qs v91 fun v92 =>
 bn Q1 .lss x11 v92 fun v93 =>
 condS v93 (
 gC Qs 4 x3_4 fun v97 =>
 ix Qj v97 x11 fun v99 =>
 ld Qj s_14 v99 fun v100 =>
 ca QR [v100, x1_4, x2_4] s_14 fun v103 s_15 =>
 nx x11 fun v95 =>
 Q21 x1_4 v103 x3_4 v95 s_15) (
 Q22 x1_4 x2_4 x3_4 (iv 0) s_14) := by intros; unfold Q21; exact (Qa _ _ _ _ _ _).trans (by kernel_rfl)
theorem Q3g : ∀ x1_1 x2_1 x3_1 x7 s_5, Q0I x1_1 x2_1 x3_1 x7 s_5 =
 gC Qq 6 x3_1 fun v37 =>
 ln Qq v37 fun v38 =>
 bn Q1 .lss x7 v38 fun v39 =>
 condS v39 (
 gC Qq 6 x3_1 fun v43 =>
 ix Qg v43 x7 fun v45 =>
 ld Qg s_5 v45 fun v46 =>
 bx Qg v46 fun c =>
 pZ Qg c fun c8 =>
 gA Qg c8 fun v47 =>
 ca Q0A [v47] s_5 fun v48 s_6 =>
 gC Qd 0 c8 fun v50 =>
 bn Qd .eql v50 (iv 1) fun v51 =>
 condS v51 (
 gC Qb 5 c8 fun v53 =>
 ix Qp v53 (iv 0) fun v54 =>
 fa 5 v54 fun v55 =>
 ld Qj s_6 v55 fun v56 =>
 ca QR [v56, x1_1, x2_1] s_6 fun v59 s_7 =>
 Q1Z x1_1 v59 x3_1 x7 c8 v48 s_7) (
 Q1Z x1_1 x2_1 x3_1 x7 c8 v48 s_6)) (
 Q21 x1_1 x2_1 x3_1 (iv 0) s_5) := by intros; unfold Q0I; exact (Qa _ _ _ _ _ _).trans (by kernel_rfl)
theorem Qb9 : ∀ x1 x2 x3 s_4, Q0H x1 x2 x3 s_4 =
 Q0I x1 x2 x3 (iv 0) s_4 := by intros; unfold Q0H; exact (Zx _).trans (by kernel_rfl)
theorem Qea (a0 : AV) (a1 : AV) (a2 : AV) (s : St) : cw (.f QR) [a0, a1, a2] s =
 bx Qj (.val a0) fun c3 =>
 gC Q3 0 c3 fun v14 =>
 bn Q3 .eql v14 (iv 2) fun v15 =>
 iT v15 fun w =>
 iT v15 fun w_1 =>
 iT v15 fun w_2 =>
 gG w_2 w_1 Q2 2 c3 fun v19 =>
 iT v15 fun w_3 =>
 cg w_3 Q2t [(gdV w (.val a1)), v19] s fun v20 s_1 =>
 iT v15 fun w_4 =>
 gN w_4 v20 fun v21 =>
 pk v15 v21 (bv false) fun v22 =>
 iT v22 fun w_5 =>
 iT v22 fun w_6 =>
 iT v22 fun w_7 =>
 gG w_7 w_6 Q2 2 c3 fun v26 =>
 iT v22 fun w_8 =>
 cg w_8 Q2t [(gdV w_5 (.val a2)), v26] s_1 fun v27 s_2 =>
 iT v22 fun w_9 =>
 gN w_9 v27 fun v28 =>
 pk v22 v28 (bv false) fun v29 =>
 condS v29 (
 gC Q2 2 c3 fun v32 =>
 bs Q2 [v32] fun v33 =>
 ca Q2u [(.val a2), v33] s_2 fun v34 s_3 =>
 Q0H (.val a1) v34 c3 s_3) (
 Q0H (.val a1) (.val a2) c3 s_2) := (Q4 _ _ _).trans (by kernel_rfl)
noncomputable def Q1y : List Slot → Slot → Slot → Slot → Slot → Slot → Slot → Slot → Slot → St → Res := fun x1_1 x3_1 x4_1 x16_1 x17_1 x18_1 x24 x25 x26 s => lpD Z6 [.seqR, .seqR, .seqR, .seqL, .seqR, .thn, .seqR, .block, .loop, .seqR, .seqR, .seqL, .block, .seqR, .seqR, .block] Tryz.f41 [(1, .var x1_1), (3, .s x3_1), (4, .s x4_1), (16, .s x16_1), (17, .s x17_1), (18, .s x18_1), (24, .s x24), (25, .s x25), (26, .s x26)] s
noncomputable def Q1z : Slot → Slot → Slot → Slot → Slot → St → Res := fun x3_3 x4_3 x39 x40 x41 s => lpD Z6 [.seqR, .seqR, .seqR, .seqR, .seqL, .seqR, .thn, .seqR, .block] Tryz.f41 [(3, .s x3_3), (4, .s x4_3), (39, .s x39), (40, .s x40), (41, .s x41)] s
noncomputable def Q1x : List Slot → Slot → Slot → St → Res := fun x1_2 x3_2 x4_2 s => pwD Z6 [.seqR, .seqR, .seqR, .seqR] Tryz.f41 [(1, .var x1_2), (3, .s x3_2), (4, .s x4_2)] s
noncomputable def Q0q : List Slot → Slot → Slot → Slot → Slot → Slot → St → Res := fun x1 x3 x4 x16 x17 x18 s => lpD Z6 [.seqR, .seqR, .seqR, .seqL, .seqR, .thn, .seqR, .block] Tryz.f41 [(1, .var x1), (3, .s x3), (4, .s x4), (16, .s x16), (17, .s x17), (18, .s x18)] s
theorem Q5o : ∀ x1_1 x3_1 x4_1 x16_1 x17_1 x18_1 x24 x25 x26 s_3, Q1y x1_1 x3_1 x4_1 x16_1 x17_1 x18_1 x24 x25 x26 s_3 =
 bn Q1 .lss x26 x25 fun v27 =>
 condS v27 (
 ix Q2 x24 x26 fun v28 =>
 ld Q2 s_3 v28 fun v29 =>
 back (cal cw true (tgtV x4_1 [v29]) s_3) fun v32 s_4 =>
 nx x26 fun v33 =>
 Q1y x1_1 x3_1 x4_1 x16_1 x17_1 x18_1 x24 x25 v33 s_4) (
 nx x18_1 fun v34 =>
 Q0q x1_1 x3_1 x4_1 x16_1 x17_1 v34 s_3) := by intros; unfold Q1y; exact (Qa _ _ _ _ _ _).trans (by kernel_rfl)
theorem Q5p : ∀ x3_3 x4_3 x39 x40 x41 s_6, Q1z x3_3 x4_3 x39 x40 x41 s_6 =
 bn Q1 .lss x41 x40 fun v42 =>
 condS v42 (
 ix QW x39 x41 fun v43 =>
 ld QW s_6 v43 fun v44 =>
 bx QW v44 fun c_1 =>
 pZ QW c_1 fun c10 =>
 gC Q2 0 c10 fun v47 =>
 back (cal cw true (tgtV x4_3 [v47]) s_6) fun v48 s_7 =>
 nx x41 fun v49 =>
 Q1z x3_3 x4_3 x39 x40 v49 s_7) (
 ld Qe s_6 x3_3 fun v50 =>
 some (.ret v50, s_6)) := by intros; unfold Q1z; exact (Qa _ _ _ _ _ _).trans (by kernel_rfl)
theorem Qa5 : ∀ x1_2 x3_2 x4_2 s_5, Q1x x1_2 x3_2 x4_2 s_5 =
 gC Qd 0 x1_2 fun v36 =>
 bn Qd .eql v36 (iv 2) fun v37 =>
 condS v37 (
 gC Qu 6 x1_2 fun v39 =>
 ln Qu v39 fun v40 =>
 Q1z x3_2 x4_2 v39 v40 (iv 0) s_5) (
 ld Qe s_5 x3_2 fun v50_1 =>
 some (.ret v50_1, s_5)) := by intros; unfold Q1x; exact (Zx _).trans (by kernel_rfl)
theorem Q5n : ∀ x1 x3 x4 x16 x17 x18 s_1, Q0q x1 x3 x4 x16 x17 x18 s_1 =
 bn Q1 .lss x18 x17 fun v19 =>
 condS v19 (
 ix Qp x16 x18 fun v20 =>
 ld Qp s_1 v20 fun v21 =>
 bx Qp v21 fun c =>
 pZ Qp c fun c6 =>
 gC Qo 0 c6 fun v23 =>
 ca Q2O [v23] s_1 fun v24 s_2 =>
 ln Qe v24 fun v25 =>
 Q1y x1 x3 x4 x16 x17 x18 v24 v25 (iv 0) s_2) (
 Q1x x1 x3 x4 s_1) := by intros; unfold Q0q; exact (Qa _ _ _ _ _ _).trans (by kernel_rfl)
theorem Qd9 (a0 : AV) (s : St) : cw (.f Z6) [a0] s =
 bx Qg (.val a0) fun c1 =>
 bind1 (fnS Zb [(.val (.vp s.locs.length 0))]) fun v11 =>
 gC Qd 0 c1 fun v13 =>
 bn Qd .eql v13 (iv 1) fun v14 =>
 condS v14 (
 gC Qb 5 c1 fun v16 =>
 ln Qb v16 fun v17 =>
 Q0q c1 (.val (.vp s.locs.length 0)) v11 v16 v17 (iv 0) (St.addLoc s (.var (List.map .val (C.ti Qe).zero)))) (
 Q1x c1 (.val (.vp s.locs.length 0)) v11 (St.addLoc s (.var (List.map .val (C.ti Qe).zero)))) := (Q4 _ _ _).trans (by kernel_rfl)
noncomputable def Q2U : Slot → Slot → Slot → St → Res := fun x0 x1 x5 s => lpD Q2t [.seqR, .seqL, .seqR, .block] Tryz.f42 [(0, .s x0), (1, .s x1), (5, .s x5)] s
theorem Q7L : ∀ x0 x1 x5 s_1, Q2U x0 x1 x5 s_1 =
 ln Qe x0 fun v8 =>
 bn Q1 .lss x5 v8 fun v9 =>
 condS v9 (
 ix Q2 x0 x5 fun v14 =>
 ld Q2 s_1 v14 fun v15 =>
 bn Q2 .eql v15 x1 fun v17 =>
 condS v17 (
 some (.ret (bv true), s_1)) (
 nx x5 fun v11 =>
 Q2U x0 x1 v11 s_1)) (
 some (.ret (bv false), s_1)) := by intros; unfold Q2U; exact (Qa _ _ _ _ _ _).trans (by kernel_rfl)
theorem Qga (a0 : AV) (a1 : AV) (s : St) : cw (.f Q2t) [a0, a1] s =
 Q2U (.val a0) (.val a1) (iv 0) s := (Q4 _ _ _).trans (by kernel_rfl)
noncomputable def Q1s : Slot → List Slot → Slot → Slot → Slot → St → Res := fun x0_1 x4_1 x5_1 x6 x7 s => pwD Q0z [.seqR, .seqR, .seqR, .seqL, .seqR, .block, .loop, .seqR, .seqL, .block, .seqR, .seqR, .thn, .seqR] Tryz.f43 [(0, .s x0_1), (4, .var x4_1), (5, .s x5_1), (6, .s x6), (7, .s x7)] s
noncomputable def Q1t : Slot → List Slot → Slot → St → Res := fun x0 x4 x5 s => lpD Q0z [.seqR, .seqR, .seqR, .seqL, .seqR, .block] Tryz.f43 [(0, .s x0), (4, .var x4), (5, .s x5)] s
theorem Qa0 : ∀ x0_1 x4_1 x5_1 x6 x7 s_4, Q1s x0_1 x4_1 x5_1 x6 x7 s_4 =
 ix Qc x0_1 x5_1 fun v36 =>
 fa 2 v36 fun v37 =>
 ld Q1 s_4 v37 fun v38 =>
 bd Q5 [(0, Qx, x6), (1, Q1, v38), (2, Q2, x7)] fun v40 =>
 bx Q5 v40 fun c_2 =>
 pt x4_1 0 c_2 fun c4_2 =>
 gA Q5 c4_2 fun v => some (.ret v, s_4) := by intros; unfold Q1s; exact (Zx _).trans (by kernel_rfl)
theorem Q5j : ∀ x0 x4 x5 s_2, Q1t x0 x4 x5 s_2 =
 ln ZN x0 fun v17 =>
 bn Q1 .lss x5 v17 fun v18 =>
 condS v18 (
 ix Qc x0 x5 fun v24 =>
 ld Qc s_2 v24 fun v25 =>
 ca Q4Z [v25] s_2 fun v26 s_3 =>
 ex v26 0 fun v27 =>
 ex v26 1 fun v28 =>
 bn Qx .neq v27 (iv 0) fun v30 =>
 condS v30 (
 bn Qx .neq v27 (iv 8) fun v32 =>
 condS v32 (
 Q1s x0 x4 x5 v27 (sv []) s_3) (
 Q1s x0 x4 x5 v27 v28 s_3)) (
 nx x5 fun v20 =>
 Q1t x0 x4 v20 s_3)) (
 bd Q5 [] fun v41 =>
 bx Q5 v41 fun c_3 =>
 pt x4 0 c_3 fun c4_3 =>
 gA Q5 c4_3 fun v => some (.ret v, s_2)) := by intros; unfold Q1t; exact (Qa _ _ _ _ _ _).trans (by kernel_rfl)
theorem Qd3 (a0 : AV) (a1 : AV) (s : St) : cw (.f Q0z) [a0, a1] s =
 ca Q1P [(.val a0)] s fun v9 s_1 =>
 bn Q1 .gtr v9 (iv 8192) fun v10 =>
 condS v10 (
 bd Q5 [(0, Qx, (iv 4))] fun v11 =>
 bx Q5 v11 fun c =>
 pZ Q5 c fun c4 =>
 gA Q5 c4 fun v => some (.ret v, s_1)) (
 bn Q1 .gtr (.val a1) (iv 100) fun v13 =>
 condS v13 (
 bd Q5 [(0, Qx, (iv 7))] fun v14 =>
 bx Q5 v14 fun c_1 =>
 pZ Q5 c_1 fun c4_1 =>
 gA Q5 c4_1 fun v => some (.ret v, s_1)) (
 Q1t (.val a0) ((List.map .val (C.ti Q5).zero)) (iv 0) s_1)) := (Q4 _ _ _).trans (by kernel_rfl)
noncomputable def Q2T : Slot → Slot → Slot → St → Res := fun x0 x3 x4 s => lpD Q3u [.seqR, .seqR, .seqL, .seqR, .block] Tryz.f44 [(0, .s x0), (3, .s x3), (4, .s x4)] s
theorem Q7I : ∀ x0 x3 x4 s_1, Q2T x0 x3 x4 s_1 =
 ln Qq x0 fun v7 =>
 bn Q1 .lss x4 v7 fun v8 =>
 condS v8 (
 ix Qg x0 x4 fun v14 =>
 ld Qg s_1 v14 fun v15 =>
 ca Q00 [v15, (bv false)] s_1 fun v16 s_2 =>
 ap Qc s_2 x3 v16 fun v17 s_3 =>
 nx x4 fun v10 =>
 Q2T x0 v17 v10 s_3) (
 some (.ret x3, s_1)) := by intros; unfold Q2T; exact (Qa _ _ _ _ _ _).trans (by kernel_rfl)
theorem Qg7 (a0 : AV) (s : St) : cw (.f Q3u) [a0] s =
 Q2T (.val a0) (.val (.nils)) (iv 0) s := (Q4 _ _ _).trans (by kernel_rfl)
noncomputable def Q0G : Slot → Slot → Slot → Slot → Slot → St → Res := fun x0_3 x3_3 x4_3 x5_2 x8 s => lpD Zv [.seqR, .seqR, .seqL, .seqR, .block, .loop, .seqR, .seqL, .block, .seqR, .seqR, .seqR, .seqL, .seqR, .block] Tryz.f45 [(0, .s x0_3), (3, .s x3_3), (4, .s x4_3), (5, .s x5_2), (8, .s x8)] s
noncomputable def Q1U : Slot → Slot → Slot → Slot → Slot → St → Res := fun x0_2 x3_2 x4_2 x5_1 x7 s => lpD Zv [.seqR, .seqR, .seqL, .seqR, .block, .loop, .seqR, .seqL, .block, .seqR, .seqR, .seqL, .seqR, .block] Tryz.f45 [(0, .s x0_2), (3, .s x3_2), (4, .s x4_2), (5, .s x5_1), (7, .s x7)] s
noncomputable def Q1T : Slot → Slot → Slot → Slot → Slot → St → Res := fun x0_1 x3_1 x4_1 x5 x6 s => lpD Zv [.seqR, .seqR, .seqL, .seqR, .block, .loop, .seqR, .seqL, .block, .seqR, .seqL, .seqR, .block] Tryz.f45 [(0, .s x0_1), (3, .s x3_1), (4, .s x4_1), (5, .s x5), (6, .s x6)] s
noncomputable def ZH : Slot → Slot → Slot → St → Res := fun x0 x3 x4 s => lpD Zv [.seqR, .seqR, .seqL, .seqR, .block] Tryz.f45 [(0, .s x0), (3, .s x3), (4, .s x4)] s
theorem Q65 : ∀ x0_3 x3_3 x4_3 x5_2 x8 s_8, Q0G x0_3 x3_3 x4_3 x5_2 x8 s_8 =
 ix Qg x0_3 x4_3 fun v84 =>
 fa 4 v84 fun v85 =>
 ld Qy s_8 v85 fun v86 =>
 ln Qy v86 fun v87 =>
 bn Q1 .lss x8 v87 fun v88 =>
 condS v88 (
 ix Qg x0_3 x4_3 fun v93 =>
 fa 4 v93 fun v94 =>
 ld Qy s_8 v94 fun v95 =>
 ix Zl v95 x8 fun v97 =>
 fa 2 v97 fun v98 =>
 ld Ql s_8 v98 fun v99 =>
 condS v99 (
 ix Qg x0_3 x4_3 fun v103 =>
 fa 4 v103 fun v104 =>
 ld Qy s_8 v104 fun v105 =>
 ix Zl v105 x8 fun v107 =>
 fa 3 v107 fun v108 =>
 ld Q7 s_8 v108 fun v109 =>
 ca Q0f [v109] s_8 fun v110 s_9 =>
 bind1 (max2 x5_2 v110) fun v111 =>
 nx x8 fun v90 =>
 Q0G x0_3 x3_3 x4_3 v111 v90 s_9) (
 nx x8 fun v90_1 =>
 Q0G x0_3 x3_3 x4_3 x5_2 v90_1 s_8)) (
 nx x5_2 fun v114 =>
 bind1 (max2 x3_3 v114) fun v115 =>
 nx x4_3 fun v14 =>
 ZH x0_3 v115 v14 s_8) := by intros; unfold Q0G; exact (Qa _ _ _ _ _ _).trans (by kernel_rfl)
theorem Q64 : ∀ x0_2 x3_2 x4_2 x5_1 x7 s_5, Q1U x0_2 x3_2 x4_2 x5_1 x7 s_5 =
 ix Qg x0_2 x4_2 fun v50 =>
 fa 6 v50 fun v51 =>
 ld Qu s_5 v51 fun v52 =>
 ln Qu v52 fun v53 =>
 bn Q1 .lss x7 v53 fun v54 =>
 condS v54 (
 ix Qg x0_2 x4_2 fun v60 =>
 fa 6 v60 fun v61 =>
 bind1 (ldV (C.ti Qu) true s_5 v61) fun v62 =>
 ix QW v62 x7 fun v64 =>
 fa 2 v64 fun v65 =>
 fa 0 v65 fun v66 =>
 bind1 (ldV (C.ti Qo) true s_5 v66) fun v67 =>
 cn Za [v67] s_5 fun v68 s_6 =>
 ix Qg x0_2 x4_2 fun v71 =>
 fa 6 v71 fun v72 =>
 bind1 (ldV (C.ti Qu) true s_6 v72) fun v73 =>
 ix QW v73 x7 fun v75 =>
 fa 2 v75 fun v76 =>
 fa 5 v76 fun v77 =>
 bind1 (ldV (C.ti Qj) true s_6 v77) fun v78 =>
 cn QS [v78] s_6 fun v79 s_7 =>
 bind1 (max3 x5_1 v68 v79) fun v80 =>
 nx x7 fun v56 =>
 Q1U x0_2 x3_2 x4_2 v80 v56 s_7) (
 Q0G x0_2 x3_2 x4_2 x5_1 (iv 0) s_5) := by intros; unfold Q1U; exact (Qa _ _ _ _ _ _).trans (by kernel_rfl)
theorem Q63 : ∀ x0_1 x3_1 x4_1 x5 x6 s_2, Q1T x0_1 x3_1 x4_1 x5 x6 s_2 =
 ix Qg x0_1 x4_1 fun v18 =>
 fa 5 v18 fun v19 =>
 ld Qb s_2 v19 fun v20 =>
 ln Qb v20 fun v21 =>
 bn Q1 .lss x6 v21 fun v22 =>
 condS v22 (
 ix Qg x0_1 x4_1 fun v28 =>
 fa 5 v28 fun v29 =>
 bind1 (ldV (C.ti Qb) true s_2 v29) fun v30 =>
 ix Qp v30 x6 fun v32 =>
 fa 0 v32 fun v33 =>
 bind1 (ldV (C.ti Qo) true s_2 v33) fun v34 =>
 cn Za [v34] s_2 fun v35 s_3 =>
 ix Qg x0_1 x4_1 fun v38 =>
 fa 5 v38 fun v39 =>
 bind1 (ldV (C.ti Qb) true s_3 v39) fun v40 =>
 ix Qp v40 x6 fun v42 =>
 fa 5 v42 fun v43 =>
 bind1 (ldV (C.ti Qj) true s_3 v43) fun v44 =>
 cn QS [v44] s_3 fun v45 s_4 =>
 bind1 (max3 x5 v35 v45) fun v46 =>
 nx x6 fun v24 =>
 Q1T x0_1 x3_1 x4_1 v46 v24 s_4) (
 Q1U x0_1 x3_1 x4_1 x5 (iv 0) s_2) := by intros; unfold Q1T; exact (Qa _ _ _ _ _ _).trans (by kernel_rfl)
theorem Q62 : ∀ x0 x3 x4 s_1, ZH x0 x3 x4 s_1 =
 ln Qq x0 fun v11 =>
 bn Q1 .lss x4 v11 fun v12 =>
 condS v12 (
 Q1T x0 x3 x4 (iv 0) (iv 0) s_1) (
 some (.ret x3, s_1)) := by intros; unfold ZH; exact (Qa _ _ _ _ _ _).trans (by kernel_rfl)
theorem Q8H (a0 : AV) (s : St) : cw (.f Zv) [a0] s =
 ZH (.val a0) (iv 0) (iv 0) s := (Q4 _ _ _).trans (by kernel_rfl)
noncomputable def Q0m : Slot → Slot → Slot → St → Res := fun x0 x3 x4 s => lpD Q1P [.seqR, .seqR, .seqL, .seqR, .block] Tryz.f46 [(0, .s x0), (3, .s x3), (4, .s x4)] s
theorem Q5g : ∀ x0 x3 x4 s_1, Q0m x0 x3 x4 s_1 =
 ln ZN x0 fun v7 =>
 bn Q1 .lss x4 v7 fun v8 =>
 condS v8 (
 ix Qc x0 x4 fun v13 =>
 fa 0 v13 fun v14 =>
 ld Q1 s_1 v14 fun v15 =>
 bn Q1 .leq v15 (iv 4) fun v16 =>
 condS v16 (
 nx x3 fun v18 =>
 nx x4 fun v10 =>
 Q0m x0 v18 v10 s_1) (
 nx x4 fun v10_1 =>
 Q0m x0 x3 v10_1 s_1)) (
 some (.ret x3, s_1)) := by intros; unfold Q0m; exact (Qa _ _ _ _ _ _).trans (by kernel_rfl)
theorem Qd0 (a0 : AV) (s : St) : cw (.f Q1P) [a0] s =
 Q0m (.val a0) (iv 0) (iv 0) s := (Q4 _ _ _).trans (by kernel_rfl)
noncomputable def Q53 (x4 : Slot) : Am.Obj := .loop .ready none Q2k [(4, .s x4)] [16] (rngAsg (codeAt [.seqR, .seqR, .seqR, .seqL, .seqR, .block] (body Tryz.f47))) (rngBody (codeAt [.seqR, .seqR, .seqR, .seqL, .seqR, .block] (body Tryz.f47)))
theorem Qbg (x4 : Slot) (y16 : AV) (loc : Nat) (s_5 : St) : yldR C (Q53 x4) loc [y16] s_5 = noPan (
 bx QM (.val y16) fun c_2 =>
 pZ QM c_2 fun c5 =>
 bindS (beginL loc s_5) fun s_6 =>
 gA QM c5 fun v17 =>
 ca Q0O [v17] s_6 fun v18 s_7 =>
 bx Q5 v18 fun c_3 =>
 pZ Q5 c_3 fun c6 =>
 gC Qx 0 c6 fun v20 =>
 bn Qx .neq v20 (iv 0) fun v21 =>
 condS v21 (
 gA Q5 c6 fun v22 =>
 bx Q5 v22 fun c_4 =>
 sto s_7 x4 c_4 fun s_8 =>
 bindS (setLoop loc .done (some .ret) s_8) fun s_9 =>
 some (.ret (bv false), s_9)) (
 bindS (setLoop loc .ready none s_7) fun s_10 =>
 some (.ret (bv true), s_10))) := by kernel_rfl
theorem Qej (a0 : AV) (a1 : AV) (s : St) : cw (.f Q2k) [a0, a1] s =
 ca Q3z [(.val a0), (iv 8193)] (St.addLoc s (.var (List.map .val (C.ti Q5).zero))) fun v8 s_1 =>
 bn Q1 .gtr v8 (iv 8192) fun v9 =>
 condS v9 (
 bd Q5 [(0, Qx, (iv 4))] fun v10 =>
 bx Q5 v10 fun c =>
 sto s_1 (.val (.vp s.locs.length 0)) c fun s_2 =>
 bind1 (ldV (C.ti Q5) false s_2 (.val (.vp s.locs.length 0))) fun v => some (.ret v, s_2)) (
 back (cal cw true (tgtV (.val a1) []) s_1) fun v12 s_3 =>
 bn Q1 .gtr v12 (iv 100) fun v13 =>
 condS v13 (
 bd Q5 [(0, Qx, (iv 7))] fun v14 =>
 bx Q5 v14 fun c_1 =>
 sto s_3 (.val (.vp s.locs.length 0)) c_1 fun s_4 =>
 bind1 (ldV (C.ti Q5) false s_4 (.val (.vp s.locs.length 0))) fun v => some (.ret v, s_4)) (
 rangeC C cw (.val a0) s_3.locs.length (St.addLoc s_3 (Q53 (.val (.vp s.locs.length 0)))) fun s_11 =>
 endX s_3.locs.length s_11 (fun s_12 =>
 bd Q5 [] fun v23 =>
 bx Q5 v23 fun c_5 =>
 sto s_12 (.val (.vp s.locs.length 0)) c_5 fun s_15 =>
 bind1 (ldV (C.ti Q5) false s_15 (.val (.vp s.locs.length 0))) fun v => some (.ret v, s_15)) (fun s_13 =>
 bind1 (ldV (C.ti Q5) false s_13 (.val (.vp s.locs.length 0))) fun v => some (.ret v, s_13)) (fun j s_14 =>
 bif Nat.beq j 0 then (
 bd Q5 [] fun v23_1 =>
 bx Q5 v23_1 fun c_6 =>
 sto s_14 (.val (.vp s.locs.length 0)) c_6 fun s_16 =>
 bind1 (ldV (C.ti Q5) false s_16 (.val (.vp s.locs.length 0))) fun v => some (.ret v, s_16)) else (
(none : Res))))) := (Q4 _ _ _).trans (by kernel_rfl)
theorem Qch (a0 : AV) (s : St) : cw (.f Q4o) [a0] s =
 bx Qq (.val a0) fun c1 =>
 bindA (avs c1) fun l1 =>
 bind1 (fnS Q3c [(.val (.cp l1))]) fun v3 =>
 some (.ret v3, s) := (Q4 _ _ _).trans (by kernel_rfl)
theorem Qca (a0 : AV) (s : St) : cw (.f Q4m) [a0] s =
 ld Qq s (.val a0) fun v2 =>
 ca Zc [v2] s fun v3 s_1 =>
 some (.ret v3, s_1) := (Q4 _ _ _).trans (by kernel_rfl)
noncomputable def ZP : Slot → Slot → Slot → Slot → Slot → Slot → Slot → Slot → St → Res := fun x3_2 x6_1 x11_2 x12_2 x13_2 x35 x36 x37 s => lpD Zc [.seqR, .seqR, .seqL, .seqR, .block, .loop, .seqR, .seqR, .seqL, .block, .seqR, .seqR, .seqR, .seqL, .seqR, .block] Tryz.f50 [(3, .s x3_2), (6, .s x6_1), (11, .s x11_2), (12, .s x12_2), (13, .s x13_2), (35, .s x35), (36, .s x36), (37, .s x37)] s
noncomputable def Q0x : Slot → List Slot → Slot → Slot → Slot → Slot → Slot → Slot → Slot → St → Res := fun x3_1 x5 x6 x11_1 x12_1 x13_1 x21 x22 x23 s => lpD Zc [.seqR, .seqR, .seqL, .seqR, .block, .loop, .seqR, .seqR, .seqL, .block, .seqR, .seqR, .seqL, .seqR, .block] Tryz.f50 [(3, .s x3_1), (5, .var x5), (6, .s x6), (11, .s x11_1), (12, .s x12_1), (13, .s x13_1), (21, .s x21), (22, .s x22), (23, .s x23)] s
noncomputable def Zo : Slot → Slot → Slot → Slot → St → Res := fun x3 x11 x12 x13 s => lpD Zc [.seqR, .seqR, .seqL, .seqR, .block] Tryz.f50 [(3, .s x3), (11, .s x11), (12, .s x12), (13, .s x13)] s
theorem Q4g : ∀ x3_2 x6_1 x11_2 x12_2 x13_2 x35 x36 x37 s_5, ZP x3_2 x6_1 x11_2 x12_2 x13_2 x35 x36 x37 s_5 =
 bn Q1 .lss x37 x36 fun v38 =>
 condS v38 (
 ix Zl x35 x37 fun v39 =>
 ld Zl s_5 v39 fun v40 =>
 bx Zl v40 fun c_2 =>
 pZ Zl c_2 fun c10 =>
 gC Ql 2 c10 fun v42 =>
 condS v42 (
 gC Q7 3 c10 fun v45 =>
 ca Q0C [v45] s_5 fun v46 s_6 =>
 bind1 (max2 x6_1 v46) fun v47 =>
 nx x37 fun v48 =>
 ZP x3_2 v47 x11_2 x12_2 x13_2 x35 x36 v48 s_6) (
 nx x37 fun v48_1 =>
 ZP x3_2 x6_1 x11_2 x12_2 x13_2 x35 x36 v48_1 s_5)) (
 nx x6_1 fun v51 =>
 bind1 (max2 x3_2 v51) fun v52 =>
 nx x13_2 fun v53 =>
 Zo v52 x11_2 x12_2 v53 s_5) := by intros; unfold ZP; exact (Qa _ _ _ _ _ _).trans (by kernel_rfl)
theorem Q4f : ∀ x3_1 x5 x6 x11_1 x12_1 x13_1 x21 x22 x23 s_3, Q0x x3_1 x5 x6 x11_1 x12_1 x13_1 x21 x22 x23 s_3 =
 bn Q1 .lss x23 x22 fun v24 =>
 condS v24 (
 ix QW x21 x23 fun v25 =>
 ld QW s_3 v25 fun v26 =>
 bx QW v26 fun c_1 =>
 pZ QW c_1 fun c8 =>
 gC Qp 2 c8 fun v29 =>
 bs Qp [v29] fun v30 =>
 ca Zn [v30] s_3 fun v31 s_4 =>
 bind1 (max2 x6 v31) fun v32 =>
 nx x23 fun v33 =>
 Q0x x3_1 x5 v32 x11_1 x12_1 x13_1 x21 x22 v33 s_4) (
 gC Qy 4 x5 fun v35 =>
 ln Qy v35 fun v36 =>
 ZP x3_1 x6 x11_1 x12_1 x13_1 v35 v36 (iv 0) s_3) := by intros; unfold Q0x; exact (Qa _ _ _ _ _ _).trans (by kernel_rfl)
theorem Q4e : ∀ x3 x11 x12 x13 s_1, Zo x3 x11 x12 x13 s_1 =
 bn Q1 .lss x13 x12 fun v14 =>
 condS v14 (
 ix Qg x11 x13 fun v15 =>
 ld Qg s_1 v15 fun v16 =>
 bx Qg v16 fun c =>
 pZ Qg c fun c5 =>
 gC Qb 5 c5 fun v18 =>
 ca Zn [v18] s_1 fun v19 s_2 =>
 gC Qu 6 c5 fun v21 =>
 ln Qu v21 fun v22 =>
 Q0x x3 c5 v19 x11 x12 x13 v21 v22 (iv 0) s_2) (
 some (.ret x3, s_1)) := by intros; unfold Zo; exact (Qa _ _ _ _ _ _).trans (by kernel_rfl)
theorem Q6t (a0 : AV) (s : St) : cw (.f Zc) [a0] s =
 ln Qq (.val a0) fun v12 =>
 Zo (iv 0) (.val a0) v12 (iv 0) s := (Q4 _ _ _).trans (by kernel_rfl)
theorem QdW (a0 : AV) (a1 : AV) (a2 : AV) (a3 : AV) (s : St) : cw (.f ZR) [a0, a1, a2, a3] s =
 ca Q4p [(.val a1), (.val (.nils))] s fun v14 s_1 =>
 bd Q1H [(1, Q7, v14)] fun v15 =>
 bd Qi [(0, Q2, (.val a0)), (1, Q2, (.val a1)), (2, Q1, (.val a2)), (3, Q1, (.val a3)), (5, Q1H, v15)] fun v16 =>
 bx Qi v16 fun c =>
 pZ Qi c fun c8 =>
 gA Qi c8 fun v => some (.ret v, s_1) := (Q4 _ _ _).trans (by kernel_rfl)
noncomputable def Q1Q : List Slot → List Slot → Slot → Slot → Slot → St → Res := fun x1 x2 x10 x11 x12 s => lpD Q14 [.seqR, .seqR, .seqL, .seqR, .block] Tryz.f52 [(1, .var x1), (2, .var x2), (10, .s x10), (11, .s x11), (12, .s x12)] s
theorem Q1K : ∀ x1 x2 x10 x11 x12 s_2, Q1Q x1 x2 x10 x11 x12 s_2 =
 bn Q1 .lss x12 x11 fun v13 =>
 condS v13 (
 ix Q7 x10 x12 fun v15 =>
 ld Q7 s_2 v15 fun v16 =>
 bx Q7 v16 fun c_1 =>
 pZ Q7 c_1 fun c4 =>
 gC Qm 3 x1 fun v18 =>
 gA Q7 c4 fun v20 =>
 cn Q14 [v20] s_2 fun v21 s_3 =>
 ix Q7 v18 x12 fun v22 =>
 bx Q7 v21 fun c_2 =>
 sto s_3 v22 c_2 fun s_4 =>
 nx x12 fun v23 =>
 Q1Q x1 x2 x10 x11 v23 s_4) (
 bindLS (frzSlots C.ti x1 s_2) fun c1_2 s_5 =>
 gA Q7 c1_2 fun v24 =>
 bx Q7 v24 fun c_3 =>
 pt x2 0 c_3 fun c2 =>
 gA Q7 c2 fun v => some (.ret v, s_5)) := by intros; unfold Q1Q; exact (Qa _ _ _ _ _ _).trans (by kernel_rfl)
theorem QdU (a0 : AV) (s : St) : cw (.f Q14) [a0] s =
 bx Q7 (.val a0) fun c1 =>
 gC Qm 3 c1 fun v6 =>
 ca Zp [v6] s fun v7 s_1 =>
 bx Qm v7 fun c =>
 pt c1 3 c fun c1_1 =>
 gC Qm 3 c1_1 fun v10 =>
 ln Qm v10 fun v11 =>
 Q1Q c1_1 ((List.map .val (C.ti Q7).zero)) v10 v11 (iv 0) s_1 := (Q4 _ _ _).trans (by kernel_rfl)
noncomputable def Q05 : Slot → Slot → Slot → Slot → Slot → St → Res := fun x0_2 x2_2 x44 x45 x46 s => lpD QU [.seqR, .seqR, .seqR, .block] Tryz.f53 [(0, .s x0_2), (2, .s x2_2), (44, .s x44), (45, .s x45), (46, .s x46)] s
noncomputable def Z9 : Slot → Slot → List Slot → St → Res := fun x0_1 x2_1 x4_1 s => pwD QU [.seqR, .seqR] Tryz.f53 [(0, .s x0_1), (2, .s x2_1), (4, .var x4_1)] s
noncomputable def Q04 : Slot → Slot → List Slot → Slot → Slot → St → Res := fun x0 x2 x4 x9 x10 s => pwD QU [.seqR, .seqL, .seqR, .block, .seqR] Tryz.f53 [(0, .s x0), (2, .s x2), (4, .var x4), (9, .s x9), (10, .s x10)] s
theorem Q3X : ∀ x0_2 x2_2 x44 x45 x46 s_5, Q05 x0_2 x2_2 x44 x45 x46 s_5 =
 bn Q1 .lss x46 x45 fun v47 =>
 condS v47 (
 ix Qo x44 x46 fun v48 =>
 ld Qo s_5 v48 fun v49 =>
 bx Qo v49 fun c =>
 pZ Qo c fun c7 =>
 gA Qo c7 fun v51 =>
 ca QU [x0_2, v51, x2_2] s_5 fun v53 s_6 =>
 nx x46 fun v54 =>
 Q05 x0_2 x2_2 x44 x45 v54 s_6) (
 rt [] s_5) := by intros; unfold Q05; exact (Qa _ _ _ _ _ _).trans (by kernel_rfl)
theorem Q8k : ∀ x0_1 x2_1 x4_1 s_4, Z9 x0_1 x2_1 x4_1 s_4 =
 gC Qt 4 x4_1 fun v44 =>
 ln Qt v44 fun v45 =>
 Q05 x0_1 x2_1 v44 v45 (iv 0) s_4 := by intros; unfold Z9; exact (Zx _).trans (by kernel_rfl)
theorem Q8j : ∀ x0 x2 x4 x9 x10 s_1, Q04 x0 x2 x4 x9 x10 s_1 =
 condS x10 (
 gC Q2 2 x4 fun v15 =>
 lk Q2 Q1 s_1 x2 v15 false fun v16 =>
 nx v16 fun v17 =>
 upd2 Q2 Q1 s_1 x2 v15 v17 fun _ s_2 =>
 gC Q2 2 x4 fun v20 =>
 lk Q2 Q1 s_2 x2 v20 false fun v21 =>
 bn Q1 .gtr v21 (iv 1) fun v22 =>
 condS v22 (
 gC Q1 1 x4 fun v25 =>
 gC Q2 2 x4 fun v27 =>
 ca QJ [x0, (iv 9), v25, v27] s_2 fun v28 s_3 =>
 Z9 x0 x2 x4 s_3) (
 Z9 x0 x2 x4 s_2)) (
 bn Qf .eql x9 (iv 4) fun v30 =>
 condS v30 (
 bind1 (nilCheckV x0) fun v32 =>
 fa 4 v32 fun v33 =>
 ld Qv s_1 v33 fun v34 =>
 gC Q2 2 x4 fun v36 =>
 gC Q1 1 x4 fun v38 =>
 gC Qt 4 x4 fun v40 =>
 ln Qt v40 fun v41 =>
 back (noPan (cal cw true (tgtV v34 [v36, v38, v41]) s_1)) fun v42 s_7 =>
 Z9 x0 x2 x4 s_7) (
 Z9 x0 x2 x4 s_1)) := by intros; unfold Q04; exact (Zx _).trans (by kernel_rfl)
theorem Qa8 (a0 : AV) (a1 : AV) (a2 : AV) (s : St) : cw (.f QU) [a0, a1, a2] s =
 bx Qo (.val a1) fun c4 =>
 gC Qf 0 c4 fun v9 =>
 bn Qf .eql v9 (iv 2) fun v11 =>
 condS v11 (
 Q04 (.val a0) (.val a2) c4 v9 v11 s) (
 bn Qf .eql v9 (iv 6) fun v12 =>
 Q04 (.val a0) (.val a2) c4 v9 v12 s) := (Q4 _ _ _).trans (by kernel_rfl)
noncomputable def ZU : Slot → Slot → Slot → Slot → Slot → St → Res := fun x2 x3 x7 x8 x9 s => lpD Z8 [.seqR, .seqL, .seqR, .block] Tryz.f54 [(2, .s x2), (3, .s x3), (7, .s x7), (8, .s x8), (9, .s x9)] s
theorem Q3n : ∀ x2 x3 x7 x8 x9 s_1, ZU x2 x3 x7 x8 x9 s_1 =
 bn Q1 .lss x9 x8 fun v10 =>
 condS v10 (
 ix Q2 x7 x9 fun v11 =>
 ld Q2 s_1 v11 fun v12 =>
 ld QL s_1 x2 fun v13 =>
 bind1 (nilCheckV v13) fun v14 =>
 fa 0 v14 fun v15 =>
 ld Qw s_1 v15 fun v16 =>
 lk Q2 Q1 s_1 v16 v12 false fun v18 =>
 nx v18 fun v19 =>
 upd2 Q2 Q1 s_1 v16 v12 v19 fun _ s_2 =>
 nx x9 fun v20 =>
 ZU x2 x3 x7 x8 v20 s_2) (
 bind1 (fnS QD [x3, x2]) fun v21 =>
 some (.ret v21, s_1)) := by intros; unfold ZU; exact (Qa _ _ _ _ _ _).trans (by kernel_rfl)
theorem Q9z (a0 : AV) (a1 : AV) (s : St) : cw (.f Z8) [a0, a1] s =
 bx QL (.val a0) fun c2 =>
 bindA (avs c2) fun l2 =>
 bx Qe (.val a1) fun c3 =>
 bindA (avs c3) fun l3 =>
 ld Qe s (.val (.cp l3)) fun v7 =>
 ln Qe v7 fun v8 =>
 ZU (.val (.cp l2)) (.val (.cp l3)) v7 v8 (iv 0) s := (Q4 _ _ _).trans (by kernel_rfl)
theorem Q9A (a0 : AV) (a1 : AV) (s : St) : cw (.f Q03) [a0, a1] s =
 bx Qp (.val a1) fun c3 =>
 gC Qo 0 c3 fun v7 =>
 ca QU [(.val a0), v7, (.val (.mp s.locs.length))] (St.addLoc s (.map [] 0)) fun v9 s_1 =>
 gC Qo 0 c3 fun v12 =>
 ca Q2O [v12] s_1 fun v13 s_2 =>
 ca Z8 [(.val a0), v13] s_2 fun v14 s_3 =>
 gC Qj 5 c3 fun v17 =>
 ca QC [(.val a0), v17] s_3 fun v18 s_4 =>
 back (cal cw true (tgtV v14 []) s_4) fun v20 s_5 =>
 rt [] s_5 := (Q4 _ _ _).trans (by kernel_rfl)
theorem Q8U (s : St) : cw (.f Q0M) [] s =
 rt [] s := (Q4 _ _ _).trans (by kernel_rfl)
noncomputable def Q1e : Slot → Slot → Slot → Slot → St → Res := fun x3 x9 x10 x11 s => lpD Q32 [.seqR, .seqR, .seqL, .seqR, .block] Tryz.f57 [(3, .s x3), (9, .s x9), (10, .s x10), (11, .s x11)] s
theorem Q57 : ∀ x3 x9 x10 x11 s_2, Q1e x3 x9 x10 x11 s_2 =
 bn Q1 .lss x11 x10 fun v12 =>
 condS v12 (
 ix Qi x9 x11 fun v13 =>
 ld Qi s_2 v13 fun v14 =>
 bx Qi v14 fun c =>
 pZ Qi c fun c5 =>
 gC Q7 6 c5 fun v17 =>
 ca Q14 [v17] s_2 fun v18 s_3 =>
 bx Q7 v18 fun c_1 =>
 pt c5 6 c_1 fun c5_1 =>
 gA Qi c5_1 fun v22 =>
 bs Qi [v22] fun v23 =>
 ap Qi s_3 x3 v23 fun v24 s_4 =>
 nx x11 fun v25 =>
 Q1e v24 x9 x10 v25 s_4) (
 some (.ret x3, s_2)) := by intros; unfold Q1e; exact (Qa _ _ _ _ _ _).trans (by kernel_rfl)
theorem QcJ (a0 : AV) (s : St) : cw (.f Q32) [a0] s =
 ln Zr (.val a0) fun v7 =>
 bind2 (makeS Qi (C.ti Qi) s (iv 0) v7) fun v8 s_1 =>
 ln Zr (.val a0) fun v10 =>
 Q1e v8 (.val a0) v10 (iv 0) s_1 := (Q4 _ _ _).trans (by kernel_rfl)
noncomputable def Q0E : Slot → Slot → Slot → Slot → St → Res := fun x3 x10 x11 x12 s => lpD Q3r [.seqR, .seqR, .seqL, .seqR, .block] Tryz.f58 [(3, .s x3), (10, .s x10), (11, .s x11), (12, .s x12)] s
theorem Q5V : ∀ x3 x10 x11 x12 s_8, Q0E x3 x10 x11 x12 s_8 =
 bn Q1 .lss x12 x11 fun v13 =>
 condS v13 (
 ix Qi x10 x12 fun v14 =>
 ld Qi s_8 v14 fun v15 =>
 bx Qi v15 fun c =>
 pZ Qi c fun c5 =>
 gC Q2 1 c5 fun v19 =>
 lk Q2 Q1 s_8 x3 v19 true fun v20 =>
 ex v20 0 fun v21 =>
 ex v20 1 fun v22 =>
 nt v22 fun v24 =>
 condS v24 (
 gC Q2 1 c5 fun v27 =>
 gC Q1 5 c5 fun v30 =>
 upd2 Q2 Q1 s_8 x3 v27 v30 fun _ s_9 =>
 nx x12 fun v31 =>
 Q0E x3 x10 x11 v31 s_9) (
 nx x12 fun v31_1 =>
 Q0E x3 x10 x11 v31_1 s_8)) (
 some (.ret x3, s_8)) := by intros; unfold Q0E; exact (Qa _ _ _ _ _ _).trans (by kernel_rfl)
theorem QdV (a0 : AV) (s : St) : cw (.f Q3r) [a0] s =
 upd2 Q2 Q1 (St.addLoc s (.map [] 0)) (.val (.mp s.locs.length)) (sv [105, 110, 116]) (iv (-1)) fun _ s_1 =>
 upd2 Q2 Q1 s_1 (.val (.mp s.locs.length)) (sv [98, 111, 111, 108]) (iv (-1)) fun _ s_2 =>
 upd2 Q2 Q1 s_2 (.val (.mp s.locs.length)) (sv [117, 110, 105, 116]) (iv (-1)) fun _ s_3 =>
 upd2 Q2 Q1 s_3 (.val (.mp s.locs.length)) (sv [101, 120, 110]) (iv (-1)) fun _ s_4 =>
 upd2 Q2 Q1 s_4 (.val (.mp s.locs.length)) (sv [114, 101, 102]) (iv (-1)) fun _ s_5 =>
 upd2 Q2 Q1 s_5 (.val (.mp s.locs.length)) (sv [45, 62]) (iv (-1)) fun _ s_6 =>
 upd2 Q2 Q1 s_6 (.val (.mp s.locs.length)) (sv [42]) (iv (-1)) fun _ s_7 =>
 ln Zr (.val a0) fun v11 =>
 Q0E (.val (.mp s.locs.length)) (.val a0) v11 (iv 0) s_7 := (Q4 _ _ _).trans (by kernel_rfl)
noncomputable def Q1f : List Slot → List Slot → Slot → Slot → Slot → St → Res := fun x1 x2 x4 x11 x12 s => lpD Q2N [.seqR, .seqR, .seqR, .seqL, .seqR, .block] Tryz.f59 [(1, .var x1), (2, .var x2), (4, .s x4), (11, .s x11), (12, .s x12)] s
theorem Q6M : ∀ x1 x2 x4 x11 x12 s_2, Q1f x1 x2 x4 x11 x12 s_2 =
 bn Q1 .lss x12 x11 fun v13 =>
 condS v13 (
 bd Q7 [(0, Qr, (iv 1)), (1, Q1, x12)] fun v17 =>
 bs Q7 [v17] fun v18 =>
 ap Q7 s_2 x4 v18 fun v19 s_3 =>
 nx x12 fun v20 =>
 Q1f x1 x2 v19 x11 v20 s_3) (
 gC Q2 2 x1 fun v22 =>
 cn Q4p [v22, x4] s_2 fun v24 s_4 =>
 gC Q1 3 x1 fun v26 =>
 bx Q7 v24 fun c_1 =>
 pt x2 0 c_1 fun c2_1 =>
 rt [(ofSlots (C.ti Q7) (List.take (C.ti Q7).size c2_1)), (some v26)] s_4) := by intros; unfold Q1f; exact (Qa _ _ _ _ _ _).trans (by kernel_rfl)
theorem Q5U (a0 : AV) (s : St) : cw (.f Q2N) [a0] s =
 bx Qg (.val a0) fun c1 =>
 gC Qd 0 c1 fun v7 =>
 bn Qd .eql v7 (iv 4) fun v8 =>
 condS v8 (
 ca Q4p [(sv [101, 120, 110]), (.val (.nils))] s fun v9 s_1 =>
 bx Q7 v9 fun c =>
 pZ Q7 c fun c2 =>
 rt [(ofSlots (C.ti Q7) (List.take (C.ti Q7).size c2)), (some (iv 0))] s_1) (
 gC Q1 3 c1 fun v11 =>
 Q1f c1 ((List.map .val (C.ti Q7).zero)) (.val (.nils)) v11 (iv 0) s) := (Q4 _ _ _).trans (by kernel_rfl)
theorem QdX (a0 : AV) (a1 : AV) (a2 : AV) (s : St) : cw (.f Q5L) [a0, a1, a2] s =
 bx Qw (.val a0) fun c3 =>
 bindA (avs c3) fun l3 =>
 bx Q1 (.val a1) fun c4 =>
 bindA (avs c4) fun l4 =>
 bx Q7 (.val a2) fun c5 =>
 bind1 (fnS Q15 [(.val (.cp l4)), (.val (.cp l3)), (.val (.vp s.locs.length 0))]) fun v9 =>
 bx Qn v9 fun c =>
 sto (St.addLoc s (.var (List.map .val (C.ti Qn).zero))) (.val (.vp s.locs.length 0)) c fun s_1 =>
 ld Qn s_1 (.val (.vp s.locs.length 0)) fun v10 =>
 gA Q7 c5 fun v11 =>
 back (cal cw true (tgtV v10 [v11]) s_1) fun v12 s_2 =>
 ex v12 0 fun v13 =>
 ex v12 1 fun v14 =>
 rt [(some v13), (some v14)] s_2 := (Q4 _ _ _).trans (by kernel_rfl)
theorem Qie (a0 : AV) (a1 : AV) (s : St) : cw (.f QaK) [a0, a1] s =
 bx Q7 (.val a0) fun c2 =>
 bx Qm (.val a1) fun c3 =>
 bindA (avs c3) fun l3 =>
 gA Q7 c2 fun v5 =>
 bind1 (fnS Q7Y [(.val (.cp l3))]) fun v6 =>
 ca Q2P [v5, v6] s fun v7 s_1 =>
 bx Q7 v7 fun c =>
 pZ Q7 c fun c4 =>
 gA Q7 c4 fun v => some (.ret v, s_1) := (Q4 _ _ _).trans (by kernel_rfl)
theorem Qj7 (a0 : AV) (a1 : AV) (s : St) : cw (.f Qct) [a0, a1] s =
 bx Q7 (.val a0) fun c2 =>
 bx Q7 (.val a1) fun c3 =>
 gA Q7 c2 fun v5 =>
 gA Q7 c3 fun v6 =>
 bs Q7 [v5, v6] fun v7 =>
 ca Q4p [(sv [45, 62]), v7] s fun v8 s_1 =>
 bx Q7 v8 fun c =>
 pZ Q7 c fun c4 =>
 gA Q7 c4 fun v => some (.ret v, s_1) := (Q4 _ _ _).trans (by kernel_rfl)
noncomputable def Q1X : List Slot → Slot → Slot → St → Res := fun x1_1 x3_1 x4 s => lpD Zw [.seqR, .seqR, .seqR, .seqL, .seqR, .block] Tryz.f67 [(1, .var x1_1), (3, .s x3_1), (4, .s x4)] s
noncomputable def Q1W : List Slot → Slot → St → Res := fun x1 x3 s => pwD Zw [.seqR, .seqR, .seqR] Tryz.f67 [(1, .var x1), (3, .s x3)] s
theorem Q69 : ∀ x1_1 x3_1 x4 s_3, Q1X x1_1 x3_1 x4 s_3 =
 gC Qt 4 x1_1 fun v20 =>
 ln Qt v20 fun v21 =>
 bn Q1 .lss x4 v21 fun v22 =>
 condS v22 (
 gC Qt 4 x1_1 fun v27 =>
 ix Qo v27 x4 fun v29 =>
 ld Qo s_3 v29 fun v30 =>
 ca Zw [v30] s_3 fun v31 s_4 =>
 ap Q2 s_4 x3_1 v31 fun v32 s_5 =>
 nx x4 fun v24 =>
 Q1X x1_1 v32 v24 s_5) (
 some (.ret x3_1, s_3)) := by intros; unfold Q1X; exact (Qa _ _ _ _ _ _).trans (by kernel_rfl)
theorem Qb0 : ∀ x1 x3 s_2, Q1W x1 x3 s_2 =
 Q1X x1 x3 (iv 0) s_2 := by intros; unfold Q1W; exact (Zx _).trans (by kernel_rfl)
theorem Qe5 (a0 : AV) (s : St) : cw (.f Zw) [a0] s =
 bx Qo (.val a0) fun c1 =>
 gC Qf 0 c1 fun v6 =>
 bn Qf .eql v6 (iv 2) fun v7 =>
 iF v7 fun w =>
 iF v7 fun w_1 =>
 gG w_1 w Qf 0 c1 fun v10 =>
 iF v7 fun w_2 =>
 gB w_2 Qf .eql v10 (iv 6) fun v11 =>
 pk v7 (bv true) v11 fun v12 =>
 condS v12 (
 gC Q2 2 c1 fun v15 =>
 bs Q2 [v15] fun v16 =>
 ap Q2 s (.val (.nils)) v16 fun v17 s_1 =>
 Q1W c1 v17 s_1) (
 Q1W c1 (.val (.nils)) s) := (Q4 _ _ _).trans (by kernel_rfl)
noncomputable def Q1V : Slot → List Slot → Slot → Slot → St → Res := fun x1 x2 x5 x6 s => lpD Q17 [.seqR, .seqR, .seqL, .seqR, .block] Tryz.f73 [(1, .s x1), (2, .var x2), (5, .s x5), (6, .s x6)] s
theorem Q68 : ∀ x1 x2 x5 x6 s_1, Q1V x1 x2 x5 x6 s_1 =
 gC Qm 3 x2 fun v13 =>
 ln Qm v13 fun v14 =>
 bn Q1 .lss x6 v14 fun v15 =>
 condS v15 (
 gC Qm 3 x2 fun v20 =>
 ix Q7 v20 x6 fun v22 =>
 ld Q7 s_1 v22 fun v23 =>
 ca Q17 [v23, x1] s_1 fun v25 s_2 =>
 ap Qc s_2 x5 v25 fun v26 s_3 =>
 nx x6 fun v17 =>
 Q1V x1 x2 v26 v17 s_3) (
 some (.ret x5, s_1)) := by intros; unfold Q1V; exact (Qa _ _ _ _ _ _).trans (by kernel_rfl)
theorem Qe3 (a0 : AV) (a1 : AV) (s : St) : cw (.f Q17) [a0, a1] s =
 bx Q7 (.val a0) fun c2 =>
 gA Q7 c2 fun v7 =>
 bd Qc [(0, Q1, (iv 4)), (22, Q7, v7), (2, Q1, (.val a1))] fun v9 =>
 bs Qc [v9] fun v10 =>
 Q1V (.val a1) c2 v10 (iv 0) s := (Q4 _ _ _).trans (by kernel_rfl)
theorem Q9G (a0 : AV) (s : St) : cw (.f Q2H) [a0] s =
 bx Qj (.val a0) fun c1 =>
 bindA (avs c1) fun l1 =>
 bind1 (fnS Q2b [(.val (.cp l1))]) fun v3 =>
 some (.ret v3, s) := (Q4 _ _ _).trans (by kernel_rfl)
theorem Q9D (a0 : AV) (s : St) : cw (.f Q2G) [a0] s =
 ld Qj s (.val a0) fun v2 =>
 ca ZM [v2] s fun v3 s_1 =>
 some (.ret v3, s_1) := (Q4 _ _ _).trans (by kernel_rfl)
noncomputable def Q0W : Slot → Slot → Slot → Slot → St → Res := fun x3 x14 x15 x16 s => lpD ZM [.seqR, .seqR, .seqL, .seqR, .block] Tryz.f78 [(3, .s x3), (14, .s x14), (15, .s x15), (16, .s x16)] s
theorem Q4U : ∀ x3 x14 x15 x16 s_3, Q0W x3 x14 x15 x16 s_3 =
 bn Q1 .lss x16 x15 fun v17 =>
 condS v17 (
 ix Qj x14 x16 fun v18 =>
 ld Qj s_3 v18 fun v19 =>
 bx Qj v19 fun c =>
 pZ Qj c fun c5 =>
 gA Qj c5 fun v21 =>
 ca ZM [v21] s_3 fun v22 s_4 =>
 bind1 (max2 x3 v22) fun v23 =>
 nx x16 fun v24 =>
 Q0W v23 x14 x15 v24 s_4) (
 nx x3 fun v26 =>
 some (.ret v26, s_3)) := by intros; unfold Q0W; exact (Qa _ _ _ _ _ _).trans (by kernel_rfl)
theorem Qce (a0 : AV) (s : St) : cw (.f ZM) [a0] s =
 bx Qj (.val a0) fun c1 =>
 gC Qq 6 c1 fun v7 =>
 cn Zc [v7] s fun v8 s_1 =>
 gC Qb 5 c1 fun v10 =>
 cn Zn [v10] s_1 fun v11 s_2 =>
 bind1 (max2 v8 v11) fun v12 =>
 gC Qs 4 c1 fun v14 =>
 ln Qs v14 fun v15 =>
 Q0W v12 v14 v15 (iv 0) s_2 := (Q4 _ _ _).trans (by kernel_rfl)
noncomputable def QP : Slot → Slot → Slot → Slot → St → Res := fun x0 x1 x7 x8 s => lpD Z2 [.seqR, .seqL, .seqR, .block] Tryz.f79 [(0, .s x0), (1, .s x1), (7, .s x7), (8, .s x8)] s
theorem Q0d : ∀ x0 x1 x7 x8 s_1, QP x0 x1 x7 x8 s_1 =
 bn Q1 .lss x8 x7 fun v9 =>
 condS v9 (
 ix Q2 x0 x8 fun v14 =>
 ld Q2 s_1 v14 fun v15 =>
 bn Q2 .eql x1 v15 fun v16 =>
 condS v16 (
 some (.ret x8, s_1)) (
 nx x8 fun v18 =>
 QP x0 x1 x7 v18 s_1)) (
 some (.ret (iv (-1)), s_1)) := by intros; unfold QP; exact (Qa _ _ _ _ _ _).trans (by kernel_rfl)
theorem Q3Y (a0 : AV) (a1 : AV) (s : St) : cw (.f Z2) [a0, a1] s =
 ln Qe (.val a0) fun v7 =>
 QP (.val a0) (.val a1) v7 (iv 0) s := (Q4 _ _ _).trans (by kernel_rfl)
noncomputable def Q1p : List Slot → Slot → Slot → St → Res := fun x1_2 x3_2 x6 s => lpD Zk [.seqR, .seqR, .seqR, .seqR, .seqL, .seqR, .block] Tryz.f80 [(1, .var x1_2), (3, .s x3_2), (6, .s x6)] s
noncomputable def Q1o : List Slot → Slot → Slot → St → Res := fun x1_1 x3_1 x5 s => lpD Zk [.seqR, .seqR, .seqR, .seqL, .seqR, .block] Tryz.f80 [(1, .var x1_1), (3, .s x3_1), (5, .s x5)] s
noncomputable def Q1n : List Slot → Slot → Slot → St → Res := fun x1 x3 x4 s => lpD Zk [.seqR, .seqR, .seqL, .seqR, .block] Tryz.f80 [(1, .var x1), (3, .s x3), (4, .s x4)] s
theorem Q5d : ∀ x1_2 x3_2 x6 s_7, Q1p x1_2 x3_2 x6 s_7 =
 gC Qb 5 x1_2 fun v44 =>
 ln Qb v44 fun v45 =>
 bn Q1 .lss x6 v45 fun v46 =>
 condS v46 (
 gC Qb 5 x1_2 fun v51 =>
 ix Qp v51 x6 fun v53 =>
 ld Qp s_7 v53 fun v54 =>
 ca Q16 [v54] s_7 fun v55 s_8 =>
 ap Qc s_8 x3_2 v55 fun v56 s_9 =>
 nx x6 fun v48 =>
 Q1p x1_2 v56 v48 s_9) (
 some (.ret x3_2, s_7)) := by intros; unfold Q1p; exact (Qa _ _ _ _ _ _).trans (by kernel_rfl)
theorem Q5c : ∀ x1_1 x3_1 x5 s_4, Q1o x1_1 x3_1 x5 s_4 =
 gC Qs 4 x1_1 fun v29 =>
 ln Qs v29 fun v30 =>
 bn Q1 .lss x5 v30 fun v31 =>
 condS v31 (
 gC Qs 4 x1_1 fun v36 =>
 ix Qj v36 x5 fun v38 =>
 ld Qj s_4 v38 fun v39 =>
 ca Zk [v39] s_4 fun v40 s_5 =>
 ap Qc s_5 x3_1 v40 fun v41 s_6 =>
 nx x5 fun v33 =>
 Q1o x1_1 v41 v33 s_6) (
 Q1p x1_1 x3_1 (iv 0) s_4) := by intros; unfold Q1o; exact (Qa _ _ _ _ _ _).trans (by kernel_rfl)
theorem Q5b : ∀ x1 x3 x4 s_1, Q1n x1 x3 x4 s_1 =
 gC Qq 6 x1 fun v14 =>
 ln Qq v14 fun v15 =>
 bn Q1 .lss x4 v15 fun v16 =>
 condS v16 (
 gC Qq 6 x1 fun v21 =>
 ix Qg v21 x4 fun v23 =>
 ld Qg s_1 v23 fun v24 =>
 ca Q00 [v24, (bv true)] s_1 fun v25 s_2 =>
 ap Qc s_2 x3 v25 fun v26 s_3 =>
 nx x4 fun v18 =>
 Q1n x1 v26 v18 s_3) (
 Q1o x1 x3 (iv 0) s_1) := by intros; unfold Q1n; exact (Qa _ _ _ _ _ _).trans (by kernel_rfl)
theorem QcV (a0 : AV) (s : St) : cw (.f Zk) [a0] s =
 bx Qj (.val a0) fun c1 =>
 gA Qj c1 fun v7 =>
 gC Q1 1 c1 fun v9 =>
 bd Qc [(0, Q1, (iv 2)), (10, Qj, v7), (2, Q1, v9)] fun v10 =>
 bs Qc [v10] fun v11 =>
 Q1n c1 v11 (iv 0) s := (Q4 _ _ _).trans (by kernel_rfl)
noncomputable def Q0v : List Slot → Slot → Slot → St → Res := fun x1_1 x3_1 x5 s => lpD QS [.seqR, .seqR, .seqR, .seqL, .seqR, .block] Tryz.f81 [(1, .var x1_1), (3, .s x3_1), (5, .s x5)] s
noncomputable def Q0u : List Slot → Slot → Slot → St → Res := fun x1 x3 x4 s => lpD QS [.seqR, .seqR, .seqL, .seqR, .block] Tryz.f81 [(1, .var x1), (3, .s x3), (4, .s x4)] s
theorem Q43 : ∀ x1_1 x3_1 x5 s_4, Q0v x1_1 x3_1 x5 s_4 =
 gC Qb 5 x1_1 fun v26 =>
 ln Qb v26 fun v27 =>
 bn Q1 .lss x5 v27 fun v28 =>
 condS v28 (
 gC Qb 5 x1_1 fun v33 =>
 ix Qp v33 x5 fun v35 =>
 fa 0 v35 fun v36 =>
 bind1 (ldV (C.ti Qo) true s_4 v36) fun v37 =>
 cn Za [v37] s_4 fun v38 s_5 =>
 gC Qb 5 x1_1 fun v40 =>
 ix Qp v40 x5 fun v42 =>
 fa 5 v42 fun v43 =>
 bind1 (ldV (C.ti Qj) true s_5 v43) fun v44 =>
 cn QS [v44] s_5 fun v45 s_6 =>
 bind1 (max3 x3_1 v38 v45) fun v46 =>
 nx x5 fun v30 =>
 Q0v x1_1 v46 v30 s_6) (
 nx x3_1 fun v48 =>
 some (.ret v48, s_4)) := by intros; unfold Q0v; exact (Qa _ _ _ _ _ _).trans (by kernel_rfl)
theorem Q42 : ∀ x1 x3 x4 s_2, Q0u x1 x3 x4 s_2 =
 gC Qs 4 x1 fun v11 =>
 ln Qs v11 fun v12 =>
 bn Q1 .lss x4 v12 fun v13 =>
 condS v13 (
 gC Qs 4 x1 fun v18 =>
 ix Qj v18 x4 fun v20 =>
 ld Qj s_2 v20 fun v21 =>
 ca QS [v21] s_2 fun v22 s_3 =>
 bind1 (max2 x3 v22) fun v23 =>
 nx x4 fun v15 =>
 Q0u x1 v23 v15 s_3) (
 Q0v x1 x3 (iv 0) s_2) := by intros; unfold Q0u; exact (Qa _ _ _ _ _ _).trans (by kernel_rfl)
theorem QaX (a0 : AV) (s : St) : cw (.f QS) [a0] s =
 bx Qj (.val a0) fun c1 =>
 gC Qq 6 c1 fun v7 =>
 ca Zv [v7] s fun v8 s_1 =>
 Q0u c1 v8 (iv 0) s_1 := (Q4 _ _ _).trans (by kernel_rfl)
theorem Q6o (a0 : AV) (a1 : AV) (s : St) : cw (.f Zb) [a0, a1] s =
 ld Qe s (.val a1) fun v3 =>
 ca QV [v3, (.val a0)] s fun v5 s_1 =>
 nt v5 fun v6 =>
 condS v6 (
 ld Qe s_1 (.val a1) fun v7 =>
 bs Q2 [(.val a0)] fun v9 =>
 ap Q2 s_1 v7 v9 fun v10 s_2 =>
 bx Qe v10 fun c =>
 sto s_2 (.val a1) c fun s_3 =>
 rt [] s_3) (
 rt [] s_1) := (Q4 _ _ _).trans (by kernel_rfl)
noncomputable def Q6s (x3 : Slot) : Am.Obj := .loop .ready none Q2O [(3, .s x3)] [7] (rngAsg (codeAt [.seqR, .seqR, .seqL, .seqR, .block] (body Tryz.f83))) (rngBody (codeAt [.seqR, .seqR, .seqL, .seqR, .block] (body Tryz.f83)))
theorem Qcb (x3 : Slot) (y7 : AV) (loc : Nat) (s_2 : St) : yldR C (Q6s x3) loc [y7] s_2 = noPan (
 bx QM (.val y7) fun c =>
 pZ QM c fun c4 =>
 bindS (beginL loc s_2) fun s_3 =>
 gC Q0i 5 c4 fun v9 =>
 bind1 (nilCheckV v9) fun v10 =>
 fa 0 v10 fun v11 =>
 ld Qf s_3 v11 fun v12 =>
 bn Qf .eql v12 (iv 2) fun v13 =>
 iF v13 fun w =>
 iF v13 fun w_1 =>
 gG w_1 w Q0i 5 c4 fun v16 =>
 iF v13 fun w_2 =>
 bind1 (gd w_2 (nilCheckV v16)) fun v17 =>
 iF v13 fun w_3 =>
 bind1 (gd w_3 (faV 0 v17)) fun v18 =>
 iF v13 fun w_4 =>
 bind1 (gd w_4 (ldV (C.ti Qf) false s_3 v18)) fun v19 =>
 iF v13 fun w_5 =>
 gB w_5 Qf .eql v19 (iv 6) fun v20 =>
 pk v13 (bv true) v20 fun v21 =>
 condS v21 (
 ld Qe s_3 x3 fun v22 =>
 gC Q0i 5 c4 fun v24 =>
 bind1 (nilCheckV v24) fun v25 =>
 fa 2 v25 fun v26 =>
 ld Q2 s_3 v26 fun v27 =>
 bs Q2 [v27] fun v28 =>
 ap Q2 s_3 v22 v28 fun v29 s_4 =>
 bx Qe v29 fun c_1 =>
 sto s_4 x3 c_1 fun s_5 =>
 bindS (setLoop loc .ready none s_5) fun s_6 =>
 some (.ret (bv true), s_6)) (
 bindS (setLoop loc .ready none s_3) fun s_7 =>
 some (.ret (bv true), s_7))) := by kernel_rfl
theorem Qfy (a0 : AV) (s : St) : cw (.f Q2O) [a0] s =
 bx Qo (.val a0) fun c1 =>
 gA Qo c1 fun v5 =>
 ca Q4n [v5] (St.addLoc s (.var (List.map .val (C.ti Qe).zero))) fun v6 s_1 =>
 rangeC C cw v6 s_1.locs.length (St.addLoc s_1 (Q6s (.val (.vp s.locs.length 0)))) fun s_8 =>
 endX s_1.locs.length s_8 (fun s_9 =>
 ld Qe s_9 (.val (.vp s.locs.length 0)) fun v30 =>
 some (.ret v30, s_9)) (fun s_10 =>
 some (.ret (.val (.nils)), s_10)) (fun j s_11 =>
 bif Nat.beq j 0 then (
 ld Qe s_11 (.val (.vp s.locs.length 0)) fun v30_1 =>
 some (.ret v30_1, s_11)) else (
(none : Res))) := (Q4 _ _ _).trans (by kernel_rfl)
theorem Qd6 (a0 : AV) (s : St) : cw (.f Q4Z) [a0] s =
 bx Qc (.val a0) fun c1 =>
 gC Q1 0 c1 fun v5 =>
 bn Q1 .eql v5 (iv 1) fun v7 =>
 condS v7 (
 gC Qg 3 c1 fun v9 =>
 gC Ql 1 c1 fun v11 =>
 cn Q7d [v9, v11] s fun v12 s_1 =>
 gC Q2 5 c1 fun v15 =>
 rt [(some v12), (some v15)] s_1) (
 bn Q1 .eql v5 (iv 2) fun v17 =>
 condS v17 (
 gC Qj 10 c1 fun v19 =>
 cn Q7e [v19] s fun v20 s_2 =>
 gC Q2 12 c1 fun v23 =>
 rt [(some v20), (some v23)] s_2) (
 bn Q1 .eql v5 (iv 3) fun v25 =>
 condS v25 (
 gC Qo 17 c1 fun v27 =>
 cn Q7f [v27] s fun v28 s_3 =>
 gC Q2 19 c1 fun v31 =>
 rt [(some v28), (some v31)] s_3) (
 bn Q1 .eql v5 (iv 4) fun v33 =>
 condS v33 (
 gC Q7 22 c1 fun v35 =>
 cn Q7X [v35] s fun v36 s_4 =>
 gC Q2 24 c1 fun v39 =>
 rt [(some v36), (some v39)] s_4) (
 bn Q1 .eql v5 (iv 5) fun v41 =>
 condS v41 (
 gC Q2 26 c1 fun v44 =>
 ca Q0Z [v44] s fun v45 s_5 =>
 nt v45 fun v46 =>
 condS v46 (
 gC Q2 26 c1 fun v49 =>
 rt [(some (iv 8)), (some v49)] s_5) (
 rt [(some (iv 0)), (some (sv []))] s_5)) (
 gC Ql 42 c1 fun v52 =>
 nt v52 fun v53 =>
 iT v53 fun w =>
 iT v53 fun w_1 =>
 chkP w w_1 fun _ =>
 iT v53 fun w_2 =>
 bind1 (gd w_2 (bif (w && w_1) then (ofSlots (C.ti Q7) (List.take (C.ti Q7).size (List.drop 43 c1))) else none)) fun v57 =>
 iT v53 fun w_3 =>
 cg w_3 Q4l [v57] s fun v58 s_6 =>
 iT v53 fun w_4 =>
 gN w_4 v58 fun v59 =>
 pk v53 v59 (bv false) fun v60 =>
 condS v60 (
 rt [(some (iv 29)), (some (sv []))] s_6) (
 gC Q2 40 c1 fun v63 =>
 ca Q2f [v63] s_6 fun v64 s_7 =>
 nt v64 fun v65 =>
 condS v65 (
 gC Q2 40 c1 fun v68 =>
 rt [(some (iv 8)), (some v68)] s_7) (
 rt [(some (iv 0)), (some (sv []))] s_7))))))) := (Q4 _ _ _).trans (by kernel_rfl)
noncomputable def Q0l : List Slot → Slot → Slot → St → Res := fun x2_2 x5_2 x8 s => lpD Q00 [.seqR, .seqR, .seqR, .seqR, .seqL, .seqR, .block] Tryz.f85 [(2, .var x2_2), (5, .s x5_2), (8, .s x8)] s
noncomputable def Q1m : List Slot → Slot → Slot → St → Res := fun x2_1 x5_1 x7 s => lpD Q00 [.seqR, .seqR, .seqR, .seqL, .seqR, .block] Tryz.f85 [(2, .var x2_1), (5, .s x5_1), (7, .s x7)] s
noncomputable def Q1l : List Slot → Slot → Slot → St → Res := fun x2 x5 x6 s => lpD Q00 [.seqR, .seqR, .seqL, .seqR, .block] Tryz.f85 [(2, .var x2), (5, .s x5), (6, .s x6)] s
theorem Q2J : ∀ x2_2 x5_2 x8 s_8, Q0l x2_2 x5_2 x8 s_8 =
 gC Qy 4 x2_2 fun v64 =>
 ln Qy v64 fun v65 =>
 bn Q1 .lss x8 v65 fun v66 =>
 condS v66 (
 gC Qy 4 x2_2 fun v70 =>
 ix Zl v70 x8 fun v72 =>
 ld Zl s_8 v72 fun v73 =>
 bx Zl v73 fun c =>
 pZ Zl c fun c9 =>
 gA Zl c9 fun v75 =>
 gC Q1 1 c9 fun v77 =>
 bd Qc [(0, Q1, (iv 6)), (40, Zl, v75), (2, Q1, v77)] fun v78 =>
 bs Qc [v78] fun v79 =>
 ap Qc s_8 x5_2 v79 fun v80 s_9 =>
 gC Ql 2 c9 fun v82 =>
 condS v82 (
 gC Q7 3 c9 fun v85 =>
 gC Q1 1 c9 fun v87 =>
 ca Q17 [v85, v87] s_9 fun v88 s_10 =>
 ap Qc s_10 v80 v88 fun v89 s_11 =>
 nx x8 fun v68 =>
 Q0l x2_2 v89 v68 s_11) (
 nx x8 fun v68_1 =>
 Q0l x2_2 v80 v68_1 s_9)) (
 some (.ret x5_2, s_8)) := by intros; unfold Q0l; exact (Qa _ _ _ _ _ _).trans (by kernel_rfl)
theorem Q5a : ∀ x2_1 x5_1 x7 s_4, Q1m x2_1 x5_1 x7 s_4 =
 gC Qu 6 x2_1 fun v33 =>
 ln Qu v33 fun v34 =>
 bn Q1 .lss x7 v34 fun v35 =>
 condS v35 (
 gC Qu 6 x2_1 fun v40 =>
 ix QW v40 x7 fun v42 =>
 ld QW s_4 v42 fun v43 =>
 gC Qu 6 x2_1 fun v45 =>
 ix QW v45 x7 fun v47 =>
 fa 1 v47 fun v48 =>
 ld Q1 s_4 v48 fun v49 =>
 bd Qc [(0, Q1, (iv 5)), (26, QW, v43), (2, Q1, v49)] fun v50 =>
 bs Qc [v50] fun v51 =>
 ap Qc s_4 x5_1 v51 fun v52 s_5 =>
 gC Qu 6 x2_1 fun v55 =>
 ix QW v55 x7 fun v57 =>
 fa 2 v57 fun v58 =>
 ld Qp s_5 v58 fun v59 =>
 ca Q16 [v59] s_5 fun v60 s_6 =>
 ap Qc s_6 v52 v60 fun v61 s_7 =>
 nx x7 fun v37 =>
 Q1m x2_1 v61 v37 s_7) (
 Q0l x2_1 x5_1 (iv 0) s_4) := by intros; unfold Q1m; exact (Qa _ _ _ _ _ _).trans (by kernel_rfl)
theorem Q59 : ∀ x2 x5 x6 s_1, Q1l x2 x5 x6 s_1 =
 gC Qb 5 x2 fun v18 =>
 ln Qb v18 fun v19 =>
 bn Q1 .lss x6 v19 fun v20 =>
 condS v20 (
 gC Qb 5 x2 fun v25 =>
 ix Qp v25 x6 fun v27 =>
 ld Qp s_1 v27 fun v28 =>
 ca Q16 [v28] s_1 fun v29 s_2 =>
 ap Qc s_2 x5 v29 fun v30 s_3 =>
 nx x6 fun v22 =>
 Q1l x2 v30 v22 s_3) (
 Q1m x2 x5 (iv 0) s_1) := by intros; unfold Q1l; exact (Qa _ _ _ _ _ _).trans (by kernel_rfl)
theorem QcU (a0 : AV) (a1 : AV) (s : St) : cw (.f Q00) [a0, a1] s =
 bx Qg (.val a0) fun c2 =>
 gA Qg c2 fun v10 =>
 gC Q1 1 c2 fun v12 =>
 bd Qc [(0, Q1, (iv 1)), (3, Qg, v10), (2, Q1, v12), (1, Ql, (.val a1))] fun v14 =>
 bs Qc [v14] fun v15 =>
 Q1l c2 v15 (iv 0) s := (Q4 _ _ _).trans (by kernel_rfl)
noncomputable def Q0w : List Slot → Slot → Slot → St → Res := fun x1 x3 x4 s => lpD Za [.seqR, .seqR, .seqL, .seqR, .block] Tryz.f86 [(1, .var x1), (3, .s x3), (4, .s x4)] s
theorem Q49 : ∀ x1 x3 x4 s_1, Q0w x1 x3 x4 s_1 =
 gC Qt 4 x1 fun v7 =>
 ln Qt v7 fun v8 =>
 bn Q1 .lss x4 v8 fun v9 =>
 condS v9 (
 gC Qt 4 x1 fun v14 =>
 ix Qo v14 x4 fun v16 =>
 ld Qo s_1 v16 fun v17 =>
 ca Za [v17] s_1 fun v18 s_2 =>
 bind1 (max2 x3 v18) fun v19 =>
 nx x4 fun v11 =>
 Q0w x1 v19 v11 s_2) (
 nx x3 fun v21 =>
 some (.ret v21, s_1)) := by intros; unfold Q0w; exact (Qa _ _ _ _ _ _).trans (by kernel_rfl)
theorem Qb4 (a0 : AV) (s : St) : cw (.f Za) [a0] s =
 bx Qo (.val a0) fun c1 =>
 Q0w c1 (iv 0) (iv 0) s := (Q4 _ _ _).trans (by kernel_rfl)
noncomputable def Q0V : List Slot → Slot → Slot → St → Res := fun x1 x3 x4 s => lpD Q0f [.seqR, .seqR, .seqL, .seqR, .block] Tryz.f87 [(1, .var x1), (3, .s x3), (4, .s x4)] s
theorem Q4Q : ∀ x1 x3 x4 s_1, Q0V x1 x3 x4 s_1 =
 gC Qm 3 x1 fun v7 =>
 ln Qm v7 fun v8 =>
 bn Q1 .lss x4 v8 fun v9 =>
 condS v9 (
 gC Qm 3 x1 fun v14 =>
 ix Q7 v14 x4 fun v16 =>
 ld Q7 s_1 v16 fun v17 =>
 ca Q0f [v17] s_1 fun v18 s_2 =>
 bind1 (max2 x3 v18) fun v19 =>
 nx x4 fun v11 =>
 Q0V x1 v19 v11 s_2) (
 nx x3 fun v21 =>
 some (.ret v21, s_1)) := by intros; unfold Q0V; exact (Qa _ _ _ _ _ _).trans (by kernel_rfl)
theorem QbX (a0 : AV) (s : St) : cw (.f Q0f) [a0] s =
 bx Q7 (.val a0) fun c1 =>
 Q0V c1 (iv 0) (iv 0) s := (Q4 _ _ _).trans (by kernel_rfl)
noncomputable def Q52 (x3 : Slot) (x5 : Slot) : Am.Obj := .loop .ready none Q3z [(3, .s x3), (5, .s x5)] [8] (rngAsg (codeAt [.seqR, .seqR, .seqL, .seqR, .block] (body Tryz.f88))) (rngBody (codeAt [.seqR, .seqR, .seqL, .seqR, .block] (body Tryz.f88)))
theorem Qbf (x3 : Slot) (x5 : Slot) (y8 : AV) (loc : Nat) (s_2 : St) : yldR C (Q52 x3 x5) loc [y8] s_2 = noPan (
 bx QM (.val y8) fun c_1 =>
 pZ QM c_1 fun c6 =>
 bindS (beginL loc s_2) fun s_3 =>
 gA QM c6 fun v9 =>
 ca Q2I [v9] s_3 fun v10 s_4 =>
 condS v10 (
 ld Q1 s_4 x5 fun v11 =>
 nx v11 fun v12 =>
 bx Q1 v12 fun c_2 =>
 sto s_4 x5 c_2 fun s_5 =>
 ld Q1 s_5 x5 fun v13 =>
 ld Q1 s_5 x3 fun v14 =>
 bn Q1 .geq v13 v14 fun v15 =>
 condS v15 (
 bindS (setLoop loc .done (some (.exit 0)) s_5) fun s_6 =>
 some (.ret (bv false), s_6)) (
 bindS (setLoop loc .ready none s_5) fun s_7 =>
 some (.ret (bv true), s_7))) (
 ld Q1 s_4 x5 fun v13_1 =>
 ld Q1 s_4 x3 fun v14_1 =>
 bn Q1 .geq v13_1 v14_1 fun v15_1 =>
 condS v15_1 (
 bindS (setLoop loc .done (some (.exit 0)) s_4) fun s_8 =>
 some (.ret (bv false), s_8)) (
 bindS (setLoop loc .ready none s_4) fun s_9 =>
 some (.ret (bv true), s_9)))) := by kernel_rfl
theorem Qeg (a0 : AV) (a1 : AV) (s : St) : cw (.f Q3z) [a0, a1] s =
 bx Q1 (.val a1) fun c3 =>
 bindA (avs c3) fun l3 =>
 bx Q1 (iv 0) fun c =>
 sto (St.addLoc s (.var (List.map .val (C.ti Q1).zero))) (.val (.vp s.locs.length 0)) c fun s_1 =>
 rangeC C cw (.val a0) s_1.locs.length (St.addLoc s_1 (Q52 (.val (.cp l3)) (.val (.vp s.locs.length 0)))) fun s_10 =>
 endX s_1.locs.length s_10 (fun s_11 =>
 ld Q1 s_11 (.val (.vp s.locs.length 0)) fun v16 =>
 some (.ret v16, s_11)) (fun s_12 =>
 some (.ret (iv 0), s_12)) (fun j s_13 =>
 bif Nat.beq j 0 then (
 ld Q1 s_13 (.val (.vp s.locs.length 0)) fun v16_1 =>
 some (.ret v16_1, s_13)) else (
(none : Res))) := (Q4 _ _ _).trans (by kernel_rfl)
noncomputable def QB : List Slot → List Slot → Slot → Slot → St → Res := fun x1 x2 x3 x4 s => pwD Q0O [.seqR, .seqR, .seqR, .seqR] Tryz.f89 [(1, .var x1), (2, .var x2), (3, .s x3), (4, .s x4)] s
theorem Q7o : ∀ x1 x2 x3 x4 s_2, QB x1 x2 x3 x4 s_2 =
 bn Qx .eql x3 (iv 0) fun v82 =>
 condS v82 (
 bd Q5 [] fun v83 =>
 bx Q5 v83 fun c =>
 pt x2 0 c fun c2 =>
 gA Q5 c2 fun v => some (.ret v, s_2)) (
 bn Qx .neq x3 (iv 8) fun v86 =>
 condS v86 (
 gC Q1 7 x1 fun v89 =>
 bd Q5 [(0, Qx, x3), (1, Q1, v89), (2, Q2, (sv []))] fun v91 =>
 bx Q5 v91 fun c_1 =>
 pt x2 0 c_1 fun c2_1 =>
 gA Q5 c2_1 fun v => some (.ret v, s_2)) (
 gC Q1 7 x1 fun v89_1 =>
 bd Q5 [(0, Qx, x3), (1, Q1, v89_1), (2, Q2, x4)] fun v91_1 =>
 bx Q5 v91_1 fun c_2 =>
 pt x2 0 c_2 fun c2_2 =>
 gA Q5 c2_2 fun v => some (.ret v, s_2))) := by intros; unfold QB; exact (Zx _).trans (by kernel_rfl)
theorem Q8W (a0 : AV) (s : St) : cw (.f Q0O) [a0] s =
 bx QM (.val a0) fun c1 =>
 gC Q24 0 c1 fun v17 =>
 bn Q24 .neq v17 (.val (.nilp)) fun v18 =>
 condS v18 (
 gA QM c1 fun v19 =>
 cn ZV [v19] s fun v20 s_1 =>
 gC Q24 0 c1 fun v22 =>
 bind1 (nilCheckV v22) fun v23 =>
 fa 2 v23 fun v24 =>
 bind1 (ldV (C.ti Q2) true s_1 v24) fun v25 =>
 QB c1 ((List.map .val (C.ti Q5).zero)) v20 v25 s_1) (
 gC Q1c 2 c1 fun v28 =>
 bn Q1c .neq v28 (.val (.nilp)) fun v29 =>
 condS v29 (
 gC Q1c 2 c1 fun v31 =>
 bind1 (nilCheckV v31) fun v32 =>
 fa 0 v32 fun v33 =>
 ld Q2 s v33 fun v34 =>
 ca Q1G [v34] s fun v36 s_3 =>
 nt v36 fun v37 =>
 condS v37 (
 QB c1 ((List.map .val (C.ti Q5).zero)) (iv 8) v34 s_3) (
 QB c1 ((List.map .val (C.ti Q5).zero)) (iv 0) v34 s_3)) (
 gC Q0D 3 c1 fun v40 =>
 bn Q0D .neq v40 (.val (.nilp)) fun v41 =>
 condS v41 (
 gC Q0D 3 c1 fun v43 =>
 bind1 (nilCheckV v43) fun v44 =>
 bind1 (ldV (C.ti Zl) true s v44) fun v45 =>
 cn Q3E [v45] s fun v46 s_4 =>
 gC Q0D 3 c1 fun v48 =>
 bind1 (nilCheckV v48) fun v49 =>
 fa 0 v49 fun v50 =>
 bind1 (ldV (C.ti Q2) true s_4 v50) fun v51 =>
 QB c1 ((List.map .val (C.ti Q5).zero)) v46 v51 s_4) (
 gC Q25 4 c1 fun v54 =>
 bn Q25 .neq v54 (.val (.nilp)) fun v55 =>
 condS v55 (
 gC Q25 4 c1 fun v57 =>
 bind1 (nilCheckV v57) fun v58 =>
 bind1 (ldV (C.ti Qj) true s v58) fun v59 =>
 cn Q3F [v59] s fun v60 s_5 =>
 gC Q25 4 c1 fun v62 =>
 bind1 (nilCheckV v62) fun v63 =>
 fa 2 v63 fun v64 =>
 bind1 (ldV (C.ti Q2) true s_5 v64) fun v65 =>
 QB c1 ((List.map .val (C.ti Q5).zero)) v60 v65 s_5) (
 gC Q0i 5 c1 fun v68 =>
 bn Q0i .neq v68 (.val (.nilp)) fun v69 =>
 condS v69 (
 gC Q0i 5 c1 fun v71 =>
 bind1 (nilCheckV v71) fun v72 =>
 bind1 (ldV (C.ti Qo) true s v72) fun v73 =>
 cn Q2g [v73] s fun v74 s_6 =>
 gC Q0i 5 c1 fun v76 =>
 bind1 (nilCheckV v76) fun v77 =>
 fa 2 v77 fun v78 =>
 bind1 (ldV (C.ti Q2) true s_6 v78) fun v79 =>
 QB c1 ((List.map .val (C.ti Q5).zero)) v74 v79 s_6) (
 gC Q4J 6 c1 fun v6 =>
 bind1 (nilCheckV v6) fun v7 =>
 bind1 (ldV (C.ti Q7) true s v7) fun v8 =>
 cn Q1b [v8] s fun v9 s_7 =>
 gC Q4J 6 c1 fun v11 =>
 bind1 (nilCheckV v11) fun v12 =>
 fa 2 v12 fun v13 =>
 bind1 (ldV (C.ti Q2) true s_7 v13) fun v14 =>
 QB c1 ((List.map .val (C.ti Q5).zero)) v9 v14 s_7))))) := (Q4 _ _ _).trans (by kernel_rfl)
theorem Qab (a0 : AV) (a1 : AV) (s : St) : cw (.f Q3c) [a0, a1] s =
 bd Qz [(0, Qk, (.val a0))] fun v4 =>
 ld Qq s (.val a1) fun v5 =>
 ca Z4 [v4, v5, (bv false)] s fun v6 s_1 =>
 rt [] s_1 := (Q4 _ _ _).trans (by kernel_rfl)
noncomputable def ZJ : Slot → Slot → List Slot → Slot → Slot → Slot → Slot → Slot → St → Res := fun x1_2 x2_2 x3_2 x8_1 x14_2 x15_2 x80 x81 s => lpD Z4 [.seqR, .seqL, .seqR, .block, .loop, .seqR, .seqR, .seqL, .block, .seqR, .seqR, .seqR, .seqR, .seqR, .block] Tryz.f91 [(1, .s x1_2), (2, .s x2_2), (3, .var x3_2), (8, .s x8_1), (14, .s x14_2), (15, .s x15_2), (80, .s x80), (81, .s x81)] s
noncomputable def ZI : Slot → Slot → List Slot → Slot → Slot → Slot → Slot → Slot → St → Res := fun x1_1 x2_1 x3_1 x8 x14_1 x15_1 x45 x46 s => lpD Z4 [.seqR, .seqL, .seqR, .block, .loop, .seqR, .seqR, .seqL, .block, .seqR, .seqR, .seqR, .seqL, .seqR, .block] Tryz.f91 [(1, .s x1_1), (2, .s x2_1), (3, .var x3_1), (8, .s x8), (14, .s x14_1), (15, .s x15_1), (45, .s x45), (46, .s x46)] s
noncomputable def Z1 : Slot → Slot → List Slot → Slot → Slot → St → Res := fun x1 x2 x3 x14 x15 s => lpD Z4 [.seqR, .seqL, .seqR, .block] Tryz.f91 [(1, .s x1), (2, .s x2), (3, .var x3), (14, .s x14), (15, .s x15)] s
theorem Q30 : ∀ x1_2 x2_2 x3_2 x8_1 x14_2 x15_2 x80 x81 s_7, ZJ x1_2 x2_2 x3_2 x8_1 x14_2 x15_2 x80 x81 s_7 =
 bn Q1 .lss x81 x80 fun v82 =>
 condS v82 (
 bind1 (nilCheckV x8_1) fun v85 =>
 fa 4 v85 fun v86 =>
 ld Qy s_7 v86 fun v87 =>
 ix Zl v87 x81 fun v89 =>
 gC Qk 0 x3_2 fun v91 =>
 bind1 (nilCheckV v89) fun v94 =>
 fa 1 v94 fun v95 =>
 ld Q1 s_7 v95 fun v96 =>
 bd QM [(3, Q0D, v89), (7, Q1, v96)] fun v97 =>
 back (noPan (cal cw true (tgtV v91 [v97]) s_7)) fun v98 s_8 =>
 nt v98 fun v99 =>
 iF v99 fun w_15 =>
 iF v99 fun w_16 =>
 bind1 (gd w_16 (nilCheckV (gdV w_15 v89))) fun v102 =>
 iF v99 fun w_17 =>
 bind1 (gd w_17 (faV 2 v102)) fun v103 =>
 iF v99 fun w_18 =>
 bind1 (gd w_18 (ldV (C.ti Ql) false s_8 v103)) fun v104 =>
 iF v99 fun w_19 =>
 bindB (Slot.isB (gdV w_19 v104) true) fun w_20 =>
 bind1 (gd w_20 (ofSlots (C.ti Qz) (List.take (C.ti Qz).size x3_2))) fun v106 =>
 bindB (Slot.isB (gdV w_19 v104) true) fun w_21 =>
 bindB (Slot.isB (gdV w_19 v104) true) fun w_22 =>
 bind1 (gd w_22 (nilCheckV (gdV w_21 v89))) fun v108 =>
 bindB (Slot.isB (gdV w_19 v104) true) fun w_23 =>
 bind1 (gd w_23 (faV 3 v108)) fun v109 =>
 bindB (Slot.isB (gdV w_19 v104) true) fun w_24 =>
 bindB (Slot.isB (gdV w_19 v104) true) fun w_25 =>
 bind1 (gd w_25 (nilCheckV (gdV w_24 v89))) fun v111 =>
 bindB (Slot.isB (gdV w_19 v104) true) fun w_26 =>
 bind1 (gd w_26 (faV 1 v111)) fun v112 =>
 bindB (Slot.isB (gdV w_19 v104) true) fun w_27 =>
 bind1 (gd w_27 (ldV (C.ti Q1) false s_8 v112)) fun v113 =>
 bindB (Slot.isB (gdV w_19 v104) true) fun w_28 =>
 back (noPan (cal cw w_28 (tgtV (.val (.fn Zf [])) [v106, v109, v113]) s_8)) fun v114 s_9 =>
 bindB (Slot.isB (gdV w_19 v104) true) fun w_29 =>
 gN w_29 v114 fun v115 =>
 iF v99 fun w_30 =>
 bind1 (gd w_30 (pickS (gdV w_19 v104) v115 (bv false))) fun v116 =>
 pk v99 (bv true) v116 fun v117 =>
 condS v117 (
 some (.ret (bv false), s_9)) (
 nx x81 fun v118 =>
 ZJ x1_2 x2_2 x3_2 x8_1 x14_2 x15_2 x80 v118 s_9)) (
 nx x15_2 fun v119 =>
 Z1 x1_2 x2_2 x3_2 x14_2 v119 s_7) := by intros; unfold ZJ; exact (Qa _ _ _ _ _ _).trans (by kernel_rfl)
theorem Q2Z : ∀ x1_1 x2_1 x3_1 x8 x14_1 x15_1 x45 x46 s_4, ZI x1_1 x2_1 x3_1 x8 x14_1 x15_1 x45 x46 s_4 =
 bn Q1 .lss x46 x45 fun v47 =>
 condS v47 (
 bind1 (nilCheckV x8) fun v50 =>
 fa 6 v50 fun v51 =>
 ld Qu s_4 v51 fun v52 =>
 ix QW v52 x46 fun v54 =>
 gC Qk 0 x3_1 fun v56 =>
 bind1 (nilCheckV v54) fun v59 =>
 fa 1 v59 fun v60 =>
 ld Q1 s_4 v60 fun v61 =>
 bd QM [(2, Q1c, v54), (7, Q1, v61)] fun v62 =>
 back (noPan (cal cw true (tgtV v56 [v62]) s_4)) fun v63 s_5 =>
 nt v63 fun v64 =>
 iF v64 fun w_7 =>
 bind1 (gd w_7 (ofSlots (C.ti Qz) (List.take (C.ti Qz).size x3_1))) fun v66 =>
 iF v64 fun w_8 =>
 iF v64 fun w_9 =>
 bind1 (gd w_9 (nilCheckV (gdV w_8 v54))) fun v68 =>
 iF v64 fun w_10 =>
 bind1 (gd w_10 (faV 2 v68)) fun v69 =>
 iF v64 fun w_11 =>
 bind1 (gd w_11 (ldV (C.ti Qp) false s_5 v69)) fun v70 =>
 iF v64 fun w_12 =>
 bind1 (gd w_12 (bslF (C.ti Qp).size [v70])) fun v71 =>
 iF v64 fun w_13 =>
 back (noPan (cal cw w_13 (tgtV (.val (.fn Ze [])) [v66, v71]) s_5)) fun v72 s_6 =>
 iF v64 fun w_14 =>
 gN w_14 v72 fun v73 =>
 pk v64 (bv true) v73 fun v74 =>
 condS v74 (
 some (.ret (bv false), s_6)) (
 nx x46 fun v75 =>
 ZI x1_1 x2_1 x3_1 x8 x14_1 x15_1 x45 v75 s_6)) (
 bind1 (nilCheckV x8) fun v77 =>
 fa 4 v77 fun v78 =>
 ld Qy s_4 v78 fun v79 =>
 ln Qy v79 fun v80 =>
 ZJ x1_1 x2_1 x3_1 x8 x14_1 x15_1 v80 (iv 0) s_4) := by intros; unfold ZI; exact (Qa _ _ _ _ _ _).trans (by kernel_rfl)
theorem Q2Y : ∀ x1 x2 x3 x14 x15 s_1, Z1 x1 x2 x3 x14 x15 s_1 =
 bn Q1 .lss x15 x14 fun v16 =>
 condS v16 (
 ix Qg x1 x15 fun v20 =>
 gC Qk 0 x3 fun v22 =>
 bind1 (nilCheckV v20) fun v26 =>
 fa 1 v26 fun v27 =>
 ld Q1 s_1 v27 fun v28 =>
 bd QM [(0, Q24, v20), (1, Ql, x2), (7, Q1, v28)] fun v29 =>
 back (noPan (cal cw true (tgtV v22 [v29]) s_1)) fun v30 s_2 =>
 nt v30 fun v31 =>
 iF v31 fun w =>
 bind1 (gd w (ofSlots (C.ti Qz) (List.take (C.ti Qz).size x3))) fun v33 =>
 iF v31 fun w_1 =>
 iF v31 fun w_2 =>
 bind1 (gd w_2 (nilCheckV (gdV w_1 v20))) fun v35 =>
 iF v31 fun w_3 =>
 bind1 (gd w_3 (faV 5 v35)) fun v36 =>
 iF v31 fun w_4 =>
 bind1 (gd w_4 (ldV (C.ti Qb) false s_2 v36)) fun v37 =>
 iF v31 fun w_5 =>
 back (noPan (cal cw w_5 (tgtV (.val (.fn Ze [])) [v33, v37]) s_2)) fun v38 s_3 =>
 iF v31 fun w_6 =>
 gN w_6 v38 fun v39 =>
 pk v31 (bv true) v39 fun v40 =>
 condS v40 (
 some (.ret (bv false), s_3)) (
 bind1 (nilCheckV v20) fun v42 =>
 fa 6 v42 fun v43 =>
 ld Qu s_3 v43 fun v44 =>
 ln Qu v44 fun v45 =>
 ZI x1 x2 x3 v20 x14 x15 v45 (iv 0) s_3)) (
 some (.ret (bv true), s_1)) := by intros; unfold Z1; exact (Qa _ _ _ _ _ _).trans (by kernel_rfl)
theorem Q4h (a0 : AV) (a1 : AV) (a2 : AV) (s : St) : cw (.f Z4) [a0, a1, a2] s =
 bx Qz (.val a0) fun c3 =>
 ln Qq (.val a1) fun v14 =>
 Z1 (.val a1) (.val a2) c3 v14 (iv 0) s := (Q4 _ _ _).trans (by kernel_rfl)
noncomputable def Q06 : Slot → Slot → Slot → Slot → St → Res := fun x3 x6 x7 x8 s => lpD Zn [.seqR, .seqR, .seqL, .seqR, .block] Tryz.f92 [(3, .s x3), (6, .s x6), (7, .s x7), (8, .s x8)] s
theorem Q40 : ∀ x3 x6 x7 x8 s_1, Q06 x3 x6 x7 x8 s_1 =
 bn Q1 .lss x8 x7 fun v9 =>
 condS v9 (
 ix Qp x6 x8 fun v10 =>
 ld Qp s_1 v10 fun v11 =>
 bx Qp v11 fun c =>
 pZ Qp c fun c5 =>
 gC Qo 0 c5 fun v14 =>
 cn Q0h [v14] s_1 fun v15 s_2 =>
 gC Qj 5 c5 fun v17 =>
 cn ZM [v17] s_2 fun v18 s_3 =>
 bind1 (max3 x3 v15 v18) fun v19 =>
 nx x8 fun v20 =>
 Q06 v19 x6 x7 v20 s_3) (
 some (.ret x3, s_1)) := by intros; unfold Q06; exact (Qa _ _ _ _ _ _).trans (by kernel_rfl)
theorem Q5r (a0 : AV) (s : St) : cw (.f Zn) [a0] s =
 ln Qb (.val a0) fun v7 =>
 Q06 (iv 0) (.val a0) v7 (iv 0) s := (Q4 _ _ _).trans (by kernel_rfl)
noncomputable def Q1B : Slot → Slot → Slot → Slot → St → Res := fun x3 x7 x8 x9 s => lpD Q0C [.seqR, .seqR, .seqL, .seqR, .block] Tryz.f93 [(3, .s x3), (7, .s x7), (8, .s x8), (9, .s x9)] s
theorem Q5v : ∀ x3 x7 x8 x9 s_1, Q1B x3 x7 x8 x9 s_1 =
 bn Q1 .lss x9 x8 fun v10 =>
 condS v10 (
 ix Q7 x7 x9 fun v11 =>
 ld Q7 s_1 v11 fun v12 =>
 bx Q7 v12 fun c =>
 pZ Q7 c fun c5 =>
 gA Q7 c5 fun v14 =>
 ca Q0C [v14] s_1 fun v15 s_2 =>
 bind1 (max2 x3 v15) fun v16 =>
 nx x9 fun v17 =>
 Q1B v16 x7 x8 v17 s_2) (
 nx x3 fun v19 =>
 some (.ret v19, s_1)) := by intros; unfold Q1B; exact (Qa _ _ _ _ _ _).trans (by kernel_rfl)
theorem Qdc (a0 : AV) (s : St) : cw (.f Q0C) [a0] s =
 bx Q7 (.val a0) fun c1 =>
 gC Qm 3 c1 fun v7 =>
 ln Qm v7 fun v8 =>
 Q1B (iv 0) v7 v8 (iv 0) s := (Q4 _ _ _).trans (by kernel_rfl)
noncomputable def Q6w : List Slot → List Slot → Slot → Slot → Slot → St → Res := fun x4 x5 x10 x11 x12 s => lpD Q4p [.seqR, .seqR, .seqL, .seqR, .block] Tryz.f94 [(4, .var x4), (5, .var x5), (10, .s x10), (11, .s x11), (12, .s x12)] s
theorem Qaz : ∀ x4 x5 x10 x11 x12 s_1, Q6w x4 x5 x10 x11 x12 s_1 =
 bn Q1 .lss x12 x11 fun v13 =>
 condS v13 (
 ix Q7 x10 x12 fun v14 =>
 ld Q7 s_1 v14 fun v15 =>
 bx Q7 v15 fun c_1 =>
 pZ Q7 c_1 fun c7 =>
 gC Qm 3 x5 fun v17 =>
 gA Q7 c7 fun v18 =>
 cn Q4q [v18] s_1 fun v19 s_2 =>
 bs Q7 [v19] fun v20 =>
 ap Q7 s_2 v17 v20 fun v21 s_3 =>
 bx Qm v21 fun c_2 =>
 pt x5 3 c_2 fun c5_1 =>
 nx x12 fun v23 =>
 Q6w x4 c5_1 x10 x11 v23 s_3) (
 gA Q7 x5 fun v24 =>
 bx Q7 v24 fun c_3 =>
 pt x4 0 c_3 fun c4 =>
 gA Q7 c4 fun v => some (.ret v, s_1)) := by intros; unfold Q6w; exact (Qa _ _ _ _ _ _).trans (by kernel_rfl)
theorem Qj8 (a0 : AV) (a1 : AV) (s : St) : cw (.f Q4p) [a0, a1] s =
 bd Q7 [(0, Qr, (iv 2)), (2, Q2, (.val a0))] fun v9 =>
 bx Q7 v9 fun c =>
 pZ Q7 c fun c5 =>
 ln Qm (.val a1) fun v11 =>
 Q6w ((List.map .val (C.ti Q7).zero)) c5 (.val a1) v11 (iv 0) s := (Q4 _ _ _).trans (by kernel_rfl)
theorem Q13 (a0 : AV) (s : St) : cw (.f Zp) [a0] s =
 bn Qm .eql (.val a0) (.val (.nils)) fun v4 =>
 condS v4 (
 some (.ret (.val (.nils)), s)) (
 bs Q7 [] fun v5 =>
 bind2 (appendV Q7 (C.ti Q7) s v5 (.val a0)) fun v7 s_1 =>
 some (.ret v7, s_1)) := (Q4 _ _ _).trans (by kernel_rfl)
noncomputable def Zy : Slot → Slot → Slot → Slot → St → Res := fun x1 x4 x5 x6 s => lpD QD [.seqR, .block] Tryz.f96 [(1, .s x1), (4, .s x4), (5, .s x5), (6, .s x6)] s
theorem Q2C : ∀ x1 x4 x5 x6 s_1, Zy x1 x4 x5 x6 s_1 =
 bn Q1 .lss x6 x5 fun v7 =>
 condS v7 (
 ix Q2 x4 x6 fun v8 =>
 ld Q2 s_1 v8 fun v9 =>
 ld QL s_1 x1 fun v10 =>
 bind1 (nilCheckV v10) fun v11 =>
 fa 0 v11 fun v12 =>
 ld Qw s_1 v12 fun v13 =>
 lk Q2 Q1 s_1 v13 v9 false fun v15 =>
 bn Q1 .sub v15 (iv 1) fun v16 =>
 upd2 Q2 Q1 s_1 v13 v9 v16 fun _ s_2 =>
 nx x6 fun v17 =>
 Zy x1 x4 x5 v17 s_2) (
 rt [] s_1) := by intros; unfold Zy; exact (Qa _ _ _ _ _ _).trans (by kernel_rfl)
theorem Q8h (a0 : AV) (a1 : AV) (s : St) : cw (.f QD) [a0, a1] s =
 ld Qe s (.val a0) fun v4 =>
 ln Qe v4 fun v5 =>
 Zy (.val a1) v4 v5 (iv 0) s := (Q4 _ _ _).trans (by kernel_rfl)
noncomputable def Q0R : Slot → Slot → Slot → Slot → St → Res := fun x3 x45 x46 x47 s => lpD Q15 [.seqR, .seqR, .seqR, .seqR, .seqL, .seqR, .block] Tryz.f97 [(3, .s x3), (45, .s x45), (46, .s x46), (47, .s x47)] s
theorem Q4K : ∀ x3 x45 x46 x47 s_1, Q0R x3 x45 x46 x47 s_1 =
 bn Q1 .lss x47 x46 fun v48 =>
 condS v48 (
 ix Q7 x45 x47 fun v49 =>
 ld Q7 s_1 v49 fun v50 =>
 bx Q7 v50 fun c =>
 pZ Q7 c fun c10 =>
 ld Qn s_1 x3 fun v52 =>
 gA Q7 c10 fun v53 =>
 back (cal cw true (tgtV v52 [v53]) s_1) fun v54 s_2 =>
 ex v54 0 fun v55 =>
 ex v54 1 fun v56 =>
 bn Qx .neq v55 (iv 0) fun v58 =>
 condS v58 (
 rt [(some v55), (some v56)] s_2) (
 nx x47 fun v61 =>
 Q0R x3 x45 x46 v61 s_2)) (
 rt [(some (iv 0)), (some (sv []))] s_1) := by intros; unfold Q0R; exact (Qa _ _ _ _ _ _).trans (by kernel_rfl)
theorem Qby (a0 : AV) (a1 : AV) (a2 : AV) (a3 : AV) (s : St) : cw (.f Q15) [a0, a1, a2, a3] s =
 bx Q7 (.val a0) fun c4 =>
 gC Qr 0 c4 fun v14 =>
 bn Qr .eql v14 (iv 1) fun v15 =>
 condS v15 (
 gC Q1 1 c4 fun v17 =>
 ld Q1 s (.val a1) fun v18 =>
 bn Q1 .geq v17 v18 fun v19 =>
 condS v19 (
 rt [(some (iv 16)), (some (sv []))] s) (
 rt [(some (iv 0)), (some (sv []))] s)) (
 ld Qw s (.val a2) fun v21 =>
 gC Q2 2 c4 fun v23 =>
 lk Q2 Q1 s v21 v23 true fun v24 =>
 ex v24 0 fun v25 =>
 ex v24 1 fun v26 =>
 nt v26 fun v29 =>
 condS v29 (
 gC Q2 2 c4 fun v31 =>
 rt [(some (iv 8)), (some v31)] s) (
 bn Q1 .geq v25 (iv 0) fun v34 =>
 iT v34 fun w =>
 iT v34 fun w_1 =>
 iT v34 fun w_2 =>
 gG w_2 w_1 Qm 3 c4 fun v38 =>
 iT v34 fun w_3 =>
 gL w_3 Qm v38 fun v39 =>
 iT v34 fun w_4 =>
 gB w_4 Q1 .neq (gdV w v25) v39 fun v40 =>
 pk v34 v40 (bv false) fun v41 =>
 condS v41 (
 gC Q2 2 c4 fun v43 =>
 rt [(some (iv 19)), (some v43)] s) (
 gC Qm 3 c4 fun v45 =>
 ln Qm v45 fun v46 =>
 Q0R (.val a3) v45 v46 (iv 0) s))) := (Q4 _ _ _).trans (by kernel_rfl)
noncomputable def Q2s : Slot → List Slot → List Slot → Slot → Slot → Slot → St → Res := fun x1 x4 x5 x23 x24 x25 s => lpD Q2P [.seqR, .seqR, .seqR, .seqL, .seqR, .block] Tryz.f98 [(1, .s x1), (4, .var x4), (5, .var x5), (23, .s x23), (24, .s x24), (25, .s x25)] s
theorem Q7c : ∀ x1 x4 x5 x23 x24 x25 s_2, Q2s x1 x4 x5 x23 x24 x25 s_2 =
 bn Q1 .lss x25 x24 fun v26 =>
 condS v26 (
 ix Q7 x23 x25 fun v27 =>
 ld Q7 s_2 v27 fun v28 =>
 bx Q7 v28 fun c_2 =>
 pZ Q7 c_2 fun c7 =>
 gC Qm 3 x5 fun v30 =>
 gA Q7 c7 fun v31 =>
 cn Q2P [v31, x1] s_2 fun v33 s_3 =>
 bs Q7 [v33] fun v34 =>
 ap Q7 s_3 v30 v34 fun v35 s_4 =>
 bx Qm v35 fun c_3 =>
 pt x5 3 c_3 fun c5_1 =>
 nx x25 fun v37 =>
 Q2s x1 x4 c5_1 x23 x24 v37 s_4) (
 gA Q7 x5 fun v38 =>
 bx Q7 v38 fun c_4 =>
 pt x4 0 c_4 fun c4_1 =>
 gA Q7 c4_1 fun v => some (.ret v, s_2)) := by intros; unfold Q2s; exact (Qa _ _ _ _ _ _).trans (by kernel_rfl)
theorem QfA (a0 : AV) (a1 : AV) (s : St) : cw (.f Q2P) [a0, a1] s =
 bx Q7 (.val a0) fun c2 =>
 gC Qr 0 c2 fun v9 =>
 bn Qr .eql v9 (iv 1) fun v10 =>
 condS v10 (
 gC Q1 1 c2 fun v13 =>
 back (cal cw true (tgtV (.val a1) [v13]) s) fun v14 s_1 =>
 bx Q7 v14 fun c =>
 pZ Q7 c fun c4 =>
 gA Q7 c4 fun v => some (.ret v, s_1)) (
 gC Qr 0 c2 fun v16 =>
 gC Q1 1 c2 fun v18 =>
 gC Q2 2 c2 fun v20 =>
 bd Q7 [(0, Qr, v16), (1, Q1, v18), (2, Q2, v20)] fun v21 =>
 bx Q7 v21 fun c_1 =>
 pZ Q7 c_1 fun c5 =>
 gC Qm 3 c2 fun v23 =>
 ln Qm v23 fun v24 =>
 Q2s (.val a1) ((List.map .val (C.ti Q7).zero)) c5 v23 v24 (iv 0) s) := (Q4 _ _ _).trans (by kernel_rfl)
theorem QaA (a0 : AV) (a1 : AV) (s : St) : cw (.f Q7Y) [a0, a1] s =
 bn Q1 .geq (.val a0) (iv 0) fun v5 =>
 iT v5 fun w =>
 iT v5 fun w_1 =>
 bind1 (gd w_1 (ldV (C.ti Qm) false s (.val a1))) fun v8 =>
 iT v5 fun w_2 =>
 gL w_2 Qm v8 fun v9 =>
 iT v5 fun w_3 =>
 gB w_3 Q1 .lss (gdV w (.val a0)) v9 fun v10 =>
 pk v5 v10 (bv false) fun v11 =>
 condS v11 (
 ld Qm s (.val a1) fun v12 =>
 ix Q7 v12 (.val a0) fun v14 =>
 ld Q7 s v14 fun v15 =>
 ca Q4q [v15] s fun v16 s_1 =>
 bx Q7 v16 fun c =>
 pZ Q7 c fun c3 =>
 gA Q7 c3 fun v => some (.ret v, s_1)) (
 bd Q7 [(0, Qr, (iv 1)), (1, Q1, (.val a0))] fun v18 =>
 bx Q7 v18 fun c_1 =>
 pZ Q7 c_1 fun c3_1 =>
 gA Q7 c3_1 fun v => some (.ret v, s)) := (Q4 _ _ _).trans (by kernel_rfl)
noncomputable def Q4W : List Slot → List Slot → Slot → Slot → Slot → St → Res := fun x2 x3 x9 x10 x11 s => lpD Q4q [.seqR, .seqR, .seqR, .seqL, .seqR, .block] Tryz.f100 [(2, .var x2), (3, .var x3), (9, .s x9), (10, .s x10), (11, .s x11)] s
theorem Q9O : ∀ x2 x3 x9 x10 x11 s_1, Q4W x2 x3 x9 x10 x11 s_1 =
 bn Q1 .lss x11 x10 fun v12 =>
 condS v12 (
 ix Q7 x9 x11 fun v13 =>
 ld Q7 s_1 v13 fun v14 =>
 bx Q7 v14 fun c_2 =>
 pZ Q7 c_2 fun c5 =>
 gC Qm 3 x3 fun v16 =>
 gA Q7 c5 fun v17 =>
 cn Q4q [v17] s_1 fun v18 s_2 =>
 bs Q7 [v18] fun v19 =>
 ap Q7 s_2 v16 v19 fun v20 s_3 =>
 bx Qm v20 fun c_3 =>
 pt x3 3 c_3 fun c3_2 =>
 nx x11 fun v22 =>
 Q4W x2 c3_2 x9 x10 v22 s_3) (
 gA Q7 x3 fun v23 =>
 bx Q7 v23 fun c_4 =>
 pt x2 0 c_4 fun c2 =>
 gA Q7 c2 fun v => some (.ret v, s_1)) := by intros; unfold Q4W; exact (Qa _ _ _ _ _ _).trans (by kernel_rfl)
theorem Qif (a0 : AV) (s : St) : cw (.f Q4q) [a0] s =
 bx Q7 (.val a0) fun c1 =>
 gA Q7 c1 fun v6 =>
 bx Q7 v6 fun c =>
 pZ Q7 c fun c3 =>
 bx Qm (.val (.nils)) fun c_1 =>
 pt c3 3 c_1 fun c3_1 =>
 gC Qm 3 c1 fun v9 =>
 ln Qm v9 fun v10 =>
 Q4W ((List.map .val (C.ti Q7).zero)) c3_1 v9 v10 (iv 0) s := (Q4 _ _ _).trans (by kernel_rfl)
theorem Q8m (a0 : AV) (a1 : AV) (s : St) : cw (.f Q2b) [a0, a1] s =
 bd Qz [(0, Qk, (.val a0))] fun v4 =>
 ca Zq [v4, (.val a1)] s fun v5 s_1 =>
 rt [] s_1 := (Q4 _ _ _).trans (by kernel_rfl)
noncomputable def ZK : Slot → List Slot → Slot → Slot → St → Res := fun x1 x2 x29 x30 s => lpD Zq [.seqR, .seqR, .seqL, .seqR, .block] Tryz.f105 [(1, .s x1), (2, .var x2), (29, .s x29), (30, .s x30)] s
theorem Q31 : ∀ x1 x2 x29 x30 s_3, ZK x1 x2 x29 x30 s_3 =
 bn Q1 .lss x30 x29 fun v31 =>
 condS v31 (
 gA Qz x2 fun v33 =>
 bind1 (nilCheckV x1) fun v35 =>
 fa 4 v35 fun v36 =>
 ld Qs s_3 v36 fun v37 =>
 ix Qj v37 x30 fun v39 =>
 cn Zq [v33, v39] s_3 fun v40 s_4 =>
 nt v40 fun v41 =>
 condS v41 (
 some (.ret (bv false), s_4)) (
 nx x30 fun v42 =>
 ZK x1 x2 x29 v42 s_4)) (
 gA Qz x2 fun v43 =>
 bind1 (nilCheckV x1) fun v45 =>
 fa 5 v45 fun v46 =>
 ld Qb s_3 v46 fun v47 =>
 cn Ze [v43, v47] s_3 fun v48 s_5 =>
 some (.ret v48, s_5)) := by intros; unfold ZK; exact (Qa _ _ _ _ _ _).trans (by kernel_rfl)
theorem Q8X (a0 : AV) (a1 : AV) (s : St) : cw (.f Zq) [a0, a1] s =
 bx Qz (.val a0) fun c2 =>
 gC Qk 0 c2 fun v7 =>
 bind1 (nilCheckV (.val a1)) fun v10 =>
 fa 1 v10 fun v11 =>
 ld Q1 s v11 fun v12 =>
 bd QM [(4, Q25, (.val a1)), (7, Q1, v12)] fun v13 =>
 back (noPan (cal cw true (tgtV v7 [v13]) s)) fun v14 s_1 =>
 nt v14 fun v15 =>
 iF v15 fun w =>
 bind1 (gd w (ofSlots (C.ti Qz) (List.take (C.ti Qz).size c2))) fun v17 =>
 iF v15 fun w_1 =>
 iF v15 fun w_2 =>
 bind1 (gd w_2 (nilCheckV (gdV w_1 (.val a1)))) fun v19 =>
 iF v15 fun w_3 =>
 bind1 (gd w_3 (faV 6 v19)) fun v20 =>
 iF v15 fun w_4 =>
 bind1 (gd w_4 (ldV (C.ti Qq) false s_1 v20)) fun v21 =>
 iF v15 fun w_5 =>
 back (noPan (cal cw w_5 (tgtV (.val (.fn Z4 [])) [v17, v21, (bv true)]) s_1)) fun v22 s_2 =>
 iF v15 fun w_6 =>
 gN w_6 v22 fun v23 =>
 pk v15 (bv true) v23 fun v24 =>
 condS v24 (
 some (.ret (bv false), s_2)) (
 bind1 (nilCheckV (.val a1)) fun v26 =>
 fa 4 v26 fun v27 =>
 ld Qs s_2 v27 fun v28 =>
 ln Qs v28 fun v29 =>
 ZK (.val a1) c2 v29 (iv 0) s_2) := (Q4 _ _ _).trans (by kernel_rfl)
theorem QbU (a0 : AV) (s : St) : cw (.f Q16) [a0] s =
 bx Qp (.val a0) fun c1 =>
 gC Qo 0 c1 fun v4 =>
 cn Q0y [v4] s fun v5 s_1 =>
 gC Qj 5 c1 fun v7 =>
 cn Zk [v7] s_1 fun v8 s_2 =>
 ap Qc s_2 v5 v8 fun v9 s_3 =>
 some (.ret v9, s_3) := (Q4 _ _ _).trans (by kernel_rfl)
theorem Qcg (a0 : AV) (s : St) : cw (.f Q4n) [a0] s =
 bx Qo (.val a0) fun c1 =>
 bindA (avs c1) fun l1 =>
 bind1 (fnS Z3 [(.val (.cp l1))]) fun v3 =>
 some (.ret v3, s) := (Q4 _ _ _).trans (by kernel_rfl)
theorem Qfm (a0 : AV) (a1 : AV) (s : St) : cw (.f Q7d) [a0, a1] s =
 bx Qg (.val a0) fun c2 =>
 gC Qd 0 c2 fun v10 =>
 bn Qd .eql v10 (iv 1) fun v11 =>
 gC Qd 0 c2 fun v13 =>
 bn Qd .eql v13 (iv 2) fun v14 =>
 gC Qd 0 c2 fun v16 =>
 bn Qd .eql v16 (iv 3) fun v17 =>
 gC Qd 0 c2 fun v19 =>
 bn Qd .eql v19 (iv 4) fun v20 =>
 nt v11 fun v22 =>
 iT v22 fun w =>
 iT v22 fun w_1 =>
 bind1 (gd w_1 (unS .not (gdV w v14))) fun v25 =>
 pk v22 v25 (bv false) fun v26 =>
 iT v26 fun w_2 =>
 iT v26 fun w_3 =>
 bind1 (gd w_3 (unS .not (gdV w_2 v17))) fun v29 =>
 pk v26 v29 (bv false) fun v30 =>
 iT v30 fun w_4 =>
 iT v30 fun w_5 =>
 bind1 (gd w_5 (unS .not (gdV w_4 v20))) fun v33 =>
 pk v30 v33 (bv false) fun v34 =>
 iF v34 fun w_6 =>
 iF v34 fun w_7 =>
 bindB (Slot.isB (gdV w_7 (gdV w_6 (.val a1))) true) fun w_8 =>
 bindB (Slot.isB (gdV w_7 (gdV w_6 (.val a1))) true) fun w_9 =>
 bind1 (gd w_9 (unS .not (gdV w_8 v11))) fun v39 =>
 iF v34 fun w_10 =>
 bind1 (gd w_10 (pickS (gdV w_7 (gdV w_6 (.val a1))) v39 (bv false))) fun v40 =>
 iF v34 fun w_11 =>
 bindB (Slot.isB (gdV w_11 v40) true) fun w_12 =>
 bindB (Slot.isB (gdV w_11 v40) true) fun w_13 =>
 bind1 (gd w_13 (unS .not (gdV w_12 v14))) fun v43 =>
 iF v34 fun w_14 =>
 bind1 (gd w_14 (pickS (gdV w_11 v40) v43 (bv false))) fun v44 =>
 pk v34 (bv true) v44 fun v45 =>
 condS v45 (
 some (.ret (iv 29), s)) (
 nt v11 fun v47 =>
 iT v47 fun w_15 =>
 iT v47 fun w_16 =>
 gG w_16 w_15 Qb 5 c2 fun v50 =>
 iT v47 fun w_17 =>
 gL w_17 Qb v50 fun v51 =>
 iT v47 fun w_18 =>
 gB w_18 Q1 .gtr v51 (iv 0) fun v52 =>
 pk v47 v52 (bv false) fun v53 =>
 iF v53 fun w_19 =>
 iF v53 fun w_20 =>
 bind1 (gd w_20 (unS .not (gdV w_19 v14))) fun v56 =>
 iF v53 fun w_21 =>
 bindB (Slot.isB (gdV w_21 v56) true) fun w_22 =>
 bindB (Slot.isB (gdV w_21 v56) true) fun w_23 =>
 gG w_23 w_22 Qu 6 c2 fun v59 =>
 bindB (Slot.isB (gdV w_21 v56) true) fun w_24 =>
 gL w_24 Qu v59 fun v60 =>
 bindB (Slot.isB (gdV w_21 v56) true) fun w_25 =>
 gB w_25 Q1 .gtr v60 (iv 0) fun v61 =>
 iF v53 fun w_26 =>
 bind1 (gd w_26 (pickS (gdV w_21 v56) v61 (bv false))) fun v62 =>
 pk v53 (bv true) v62 fun v63 =>
 iF v63 fun w_27 =>
 iF v63 fun w_28 =>
 bind1 (gd w_28 (unS .not (gdV w_27 v17))) fun v66 =>
 iF v63 fun w_29 =>
 bindB (Slot.isB (gdV w_29 v66) true) fun w_30 =>
 bindB (Slot.isB (gdV w_29 v66) true) fun w_31 =>
 gG w_31 w_30 Q2 2 c2 fun v69 =>
 bindB (Slot.isB (gdV w_29 v66) true) fun w_32 =>
 gB w_32 Q2 .neq v69 (sv []) fun v70 =>
 bindB (Slot.isB (gdV w_29 v66) true) fun w_33 =>
 bindB (Slot.isB (gdV w_33 v70) false) fun w_34 =>
 bindB (Slot.isB (gdV w_33 v70) false) fun w_35 =>
 gG w_35 w_34 Q1 3 c2 fun v73 =>
 bindB (Slot.isB (gdV w_33 v70) false) fun w_36 =>
 gB w_36 Q1 .neq v73 (iv 0) fun v74 =>
 bindB (Slot.isB (gdV w_29 v66) true) fun w_37 =>
 bind1 (gd w_37 (pickS (gdV w_33 v70) (bv true) v74)) fun v75 =>
 iF v63 fun w_38 =>
 bind1 (gd w_38 (pickS (gdV w_29 v66) v75 (bv false))) fun v76 =>
 pk v63 (bv true) v76 fun v77 =>
 iF v77 fun w_39 =>
 iF v77 fun w_40 =>
 bind1 (gd w_40 (unS .not (gdV w_39 v17))) fun v80 =>
 iF v77 fun w_41 =>
 bindB (Slot.isB (gdV w_41 v80) true) fun w_42 =>
 bindB (Slot.isB (gdV w_41 v80) true) fun w_43 =>
 bind1 (gd w_43 (unS .not (gdV w_42 v20))) fun v83 =>
 iF v77 fun w_44 =>
 bind1 (gd w_44 (pickS (gdV w_41 v80) v83 (bv false))) fun v84 =>
 iF v77 fun w_45 =>
 bindB (Slot.isB (gdV w_45 v84) true) fun w_46 =>
 bindB (Slot.isB (gdV w_45 v84) true) fun w_47 =>
 gG w_47 w_46 Qy 4 c2 fun v87 =>
 bindB (Slot.isB (gdV w_45 v84) true) fun w_48 =>
 gL w_48 Qy v87 fun v88 =>
 bindB (Slot.isB (gdV w_45 v84) true) fun w_49 =>
 gB w_49 Q1 .gtr v88 (iv 0) fun v89 =>
 iF v77 fun w_50 =>
 bind1 (gd w_50 (pickS (gdV w_45 v84) v89 (bv false))) fun v90 =>
 pk v77 (bv true) v90 fun v91 =>
 condS v91 (
 some (.ret (iv 29), s)) (
 iT v17 fun w_51 =>
 iT v17 fun w_52 =>
 gG w_52 w_51 Q2 2 c2 fun v95 =>
 iT v17 fun w_53 =>
 cg w_53 Q0Z [v95] s fun v96 s_1 =>
 iT v17 fun w_54 =>
 gN w_54 v96 fun v97 =>
 pk v17 v97 (bv false) fun v98 =>
 condS v98 (
 some (.ret (iv 8), s_1)) (
 iT v11 fun w_55 =>
 iT v11 fun w_56 =>
 gG w_56 w_55 Qb 5 c2 fun v102 =>
 iT v11 fun w_57 =>
 gL w_57 Qb v102 fun v103 =>
 iT v11 fun w_58 =>
 gB w_58 Q1 .neq v103 (iv 1) fun v104 =>
 pk v11 v104 (bv false) fun v105 =>
 iF v105 fun w_59 =>
 iF v105 fun w_60 =>
 bindB (Slot.isB (gdV w_60 (gdV w_59 v14)) true) fun w_61 =>
 bindB (Slot.isB (gdV w_60 (gdV w_59 v14)) true) fun w_62 =>
 gG w_62 w_61 Qu 6 c2 fun v110 =>
 bindB (Slot.isB (gdV w_60 (gdV w_59 v14)) true) fun w_63 =>
 gL w_63 Qu v110 fun v111 =>
 bindB (Slot.isB (gdV w_60 (gdV w_59 v14)) true) fun w_64 =>
 gB w_64 Q1 .lss v111 (iv 1) fun v112 =>
 iF v105 fun w_65 =>
 bind1 (gd w_65 (pickS (gdV w_60 (gdV w_59 v14)) v112 (bv false))) fun v113 =>
 pk v105 (bv true) v113 fun v114 =>
 iF v114 fun w_66 =>
 iF v114 fun w_67 =>
 bindB (Slot.isB (gdV w_67 (gdV w_66 v17)) true) fun w_68 =>
 bindB (Slot.isB (gdV w_67 (gdV w_66 v17)) true) fun w_69 =>
 gG w_69 w_68 Q1 3 c2 fun v119 =>
 bindB (Slot.isB (gdV w_67 (gdV w_66 v17)) true) fun w_70 =>
 cg w_70 Q0J [v119, (iv 0), (iv 8)] s_1 fun v120 s_2 =>
 bindB (Slot.isB (gdV w_67 (gdV w_66 v17)) true) fun w_71 =>
 gN w_71 v120 fun v121 =>
 bindB (Slot.isB (gdV w_67 (gdV w_66 v17)) true) fun w_72 =>
 bindB (Slot.isB (gdV w_72 v121) false) fun w_73 =>
 bindB (Slot.isB (gdV w_72 v121) false) fun w_74 =>
 gG w_74 w_73 Qy 4 c2 fun v124 =>
 bindB (Slot.isB (gdV w_72 v121) false) fun w_75 =>
 gL w_75 Qy v124 fun v125 =>
 bindB (Slot.isB (gdV w_72 v121) false) fun w_76 =>
 cg w_76 Q0J [v125, (iv 1), (iv 64)] s_2 fun v126 s_3 =>
 bindB (Slot.isB (gdV w_72 v121) false) fun w_77 =>
 gN w_77 v126 fun v127 =>
 bindB (Slot.isB (gdV w_67 (gdV w_66 v17)) true) fun w_78 =>
 bind1 (gd w_78 (pickS (gdV w_72 v121) (bv true) v127)) fun v128 =>
 iF v114 fun w_79 =>
 bind1 (gd w_79 (pickS (gdV w_67 (gdV w_66 v17)) v128 (bv false))) fun v129 =>
 pk v114 (bv true) v129 fun v130 =>
 iF v130 fun w_80 =>
 iF v130 fun w_81 =>
 bindB (Slot.isB (gdV w_81 (gdV w_80 v20)) true) fun w_82 =>
 bindB (Slot.isB (gdV w_81 (gdV w_80 v20)) true) fun w_83 =>
 gG w_83 w_82 Qy 4 c2 fun v135 =>
 bindB (Slot.isB (gdV w_81 (gdV w_80 v20)) true) fun w_84 =>
 gL w_84 Qy v135 fun v136 =>
 bindB (Slot.isB (gdV w_81 (gdV w_80 v20)) true) fun w_85 =>
 gB w_85 Q1 .neq v136 (iv 1) fun v137 =>
 iF v130 fun w_86 =>
 bind1 (gd w_86 (pickS (gdV w_81 (gdV w_80 v20)) v137 (bv false))) fun v138 =>
 pk v130 (bv true) v138 fun v139 =>
 condS v139 (
 some (.ret (iv 19), s_3)) (
 some (.ret (iv 0), s_3))))) := (Q4 _ _ _).trans (by kernel_rfl)
theorem Qfn (a0 : AV) (s : St) : cw (.f Q7e) [a0] s =
 bindL (boxCells (C.ti Qj) (.val a0)) fun c1 =>
 bind1 (ofSlots (C.ti Q3) (List.take (C.ti Q3).size (List.drop 0 c1))) fun v10 =>
 bind1 (binS (C.ti Q3) .lss v10 (.val (.int .i64 1))) fun v12 =>
 bindB (Slot.isB v12 false) fun w =>
 bindB (Slot.isB v12 false) fun w_1 =>
 bind1 (gd w_1 (binS (C.ti Q3) .gtr (gdV w v10) (.val (.int .i64 20)))) fun v15 =>
 bind1 (pickS v12 (.val (.bool true)) v15) fun v16 =>
 condS v16 (
 some (.ret (.val (.int .i64 29)), s)) (
 back (cal cw true (tgtV (.val (.fn Q18 [])) [v10]) s) fun v19 s_1 =>
 bind1 (extractS v19 0) fun v20 =>
 bind1 (extractS v19 1) fun v21 =>
 bind1 (extractS v19 2) fun v22 =>
 bind1 (binS (C.ti Q3) .eql v10 (.val (.int .i64 5))) fun v24 =>
 bindB (Slot.isB v24 false) fun w_2 =>
 bindB (Slot.isB v24 false) fun w_3 =>
 bind1 (gd w_3 (binS (C.ti Q3) .eql (gdV w_2 v10) (.val (.int .i64 9)))) fun v27 =>
 bind1 (pickS v24 (.val (.bool true)) v27) fun v28 =>
 bindB (Slot.isB v28 false) fun w_4 =>
 bindB (Slot.isB v28 false) fun w_5 =>
 bind1 (gd w_5 (binS (C.ti Q3) .eql (gdV w_4 v10) (.val (.int .i64 11)))) fun v31 =>
 bind1 (pickS v28 (.val (.bool true)) v31) fun v32 =>
 bind1 (binS (C.ti Q3) .eql v10 (.val (.int .i64 2))) fun v34 =>
 bindB (Slot.isB v34 false) fun w_6 =>
 bindB (Slot.isB v34 false) fun w_7 =>
 bind1 (gd w_7 (binS (C.ti Q3) .eql (gdV w_6 v10) (.val (.int .i64 3)))) fun v37 =>
 bind1 (pickS v34 (.val (.bool true)) v37) fun v38 =>
 bind1 (unS .not v38) fun v40 =>
 bindB (Slot.isB v40 true) fun w_8 =>
 bindB (Slot.isB v40 true) fun w_9 =>
 bind1 (gd w_9 (bif w_8 then (ofSlots (C.ti Q2) (List.take (C.ti Q2).size (List.drop 2 c1))) else none)) fun v43 =>
 bindB (Slot.isB v40 true) fun w_10 =>
 bind1 (gd w_10 (binS (C.ti Q2) .neq v43 (.val (.str [])))) fun v44 =>
 bind1 (pickS v40 v44 (.val (.bool false))) fun v45 =>
 bindB (Slot.isB v45 false) fun w_11 =>
 bindB (Slot.isB v45 false) fun w_12 =>
 bind1 (gd w_12 (binS (C.ti Q3) .neq (gdV w_11 v10) (.val (.int .i64 1)))) fun v48 =>
 bindB (Slot.isB v45 false) fun w_13 =>
 bindB (Slot.isB (gdV w_13 v48) true) fun w_14 =>
 bindB (Slot.isB (gdV w_13 v48) true) fun w_15 =>
 bind1 (gd w_15 (binS (C.ti Q3) .neq (gdV w_14 v10) (.val (.int .i64 13)))) fun v51 =>
 bindB (Slot.isB v45 false) fun w_16 =>
 bind1 (gd w_16 (pickS (gdV w_13 v48) v51 (.val (.bool false)))) fun v52 =>
 bindB (Slot.isB v45 false) fun w_17 =>
 bindB (Slot.isB (gdV w_17 v52) true) fun w_18 =>
 bindB (Slot.isB (gdV w_17 v52) true) fun w_19 =>
 bind1 (gd w_19 (bif w_18 then (ofSlots (C.ti Q1) (List.take (C.ti Q1).size (List.drop 3 c1))) else none)) fun v55 =>
 bindB (Slot.isB (gdV w_17 v52) true) fun w_20 =>
 bind1 (gd w_20 (binS (C.ti Q1) .neq v55 (.val (.int .i64 0)))) fun v56 =>
 bindB (Slot.isB v45 false) fun w_21 =>
 bind1 (gd w_21 (pickS (gdV w_17 v52) v56 (.val (.bool false)))) fun v57 =>
 bind1 (pickS v45 (.val (.bool true)) v57) fun v58 =>
 bindB (Slot.isB v58 false) fun w_22 =>
 bindB (Slot.isB v58 false) fun w_23 =>
 bind1 (gd w_23 (unS .not (gdV w_22 v22))) fun v61 =>
 bindB (Slot.isB v58 false) fun w_24 =>
 bindB (Slot.isB (gdV w_24 v61) true) fun w_25 =>
 bindB (Slot.isB (gdV w_24 v61) true) fun w_26 =>
 bind1 (gd w_26 (bif w_25 then (ofSlots (C.ti Qs) (List.take (C.ti Qs).size (List.drop 4 c1))) else none)) fun v64 =>
 bindB (Slot.isB (gdV w_24 v61) true) fun w_27 =>
 bind1 (gd w_27 (lenS (C.ti Qs) v64)) fun v65 =>
 bindB (Slot.isB (gdV w_24 v61) true) fun w_28 =>
 bind1 (gd w_28 (binS (C.ti Q1) .gtr v65 (.val (.int .i64 0)))) fun v66 =>
 bindB (Slot.isB v58 false) fun w_29 =>
 bind1 (gd w_29 (pickS (gdV w_24 v61) v66 (.val (.bool false)))) fun v67 =>
 bind1 (pickS v58 (.val (.bool true)) v67) fun v68 =>
 bindB (Slot.isB v68 false) fun w_30 =>
 bindB (Slot.isB v68 false) fun w_31 =>
 bind1 (gd w_31 (unS .not (gdV w_30 v32))) fun v71 =>
 bindB (Slot.isB v68 false) fun w_32 =>
 bindB (Slot.isB (gdV w_32 v71) true) fun w_33 =>
 bindB (Slot.isB (gdV w_32 v71) true) fun w_34 =>
 bind1 (gd w_34 (bif w_33 then (ofSlots (C.ti Qb) (List.take (C.ti Qb).size (List.drop 5 c1))) else none)) fun v74 =>
 bindB (Slot.isB (gdV w_32 v71) true) fun w_35 =>
 bind1 (gd w_35 (lenS (C.ti Qb) v74)) fun v75 =>
 bindB (Slot.isB (gdV w_32 v71) true) fun w_36 =>
 bind1 (gd w_36 (binS (C.ti Q1) .gtr v75 (.val (.int .i64 0)))) fun v76 =>
 bindB (Slot.isB v68 false) fun w_37 =>
 bind1 (gd w_37 (pickS (gdV w_32 v71) v76 (.val (.bool false)))) fun v77 =>
 bind1 (pickS v68 (.val (.bool true)) v77) fun v78 =>
 bindB (Slot.isB v78 false) fun w_38 =>
 bindB (Slot.isB v78 false) fun w_39 =>
 bind1 (gd w_39 (binS (C.ti Q3) .neq (gdV w_38 v10) (.val (.int .i64 7)))) fun v81 =>
 bindB (Slot.isB v78 false) fun w_40 =>
 bindB (Slot.isB (gdV w_40 v81) true) fun w_41 =>
 bindB (Slot.isB (gdV w_40 v81) true) fun w_42 =>
 bind1 (gd w_42 (bif w_41 then (ofSlots (C.ti Qq) (List.take (C.ti Qq).size (List.drop 6 c1))) else none)) fun v84 =>
 bindB (Slot.isB (gdV w_40 v81) true) fun w_43 =>
 bind1 (gd w_43 (lenS (C.ti Qq) v84)) fun v85 =>
 bindB (Slot.isB (gdV w_40 v81) true) fun w_44 =>
 bind1 (gd w_44 (binS (C.ti Q1) .gtr v85 (.val (.int .i64 0)))) fun v86 =>
 bindB (Slot.isB v78 false) fun w_45 =>
 bind1 (gd w_45 (pickS (gdV w_40 v81) v86 (.val (.bool false)))) fun v87 =>
 bind1 (pickS v78 (.val (.bool true)) v87) fun v88 =>
 condS v88 (
 some (.ret (.val (.int .i64 29)), s_1)) (
 bind1 (binS (C.ti Q3) .eql v10 (.val (.int .i64 2))) fun v90 =>
 bindB (Slot.isB v90 true) fun w_46 =>
 bindB (Slot.isB v90 true) fun w_47 =>
 bind1 (gd w_47 (bif w_46 then (ofSlots (C.ti Q2) (List.take (C.ti Q2).size (List.drop 2 c1))) else none)) fun v93 =>
 bindB (Slot.isB v90 true) fun w_48 =>
 back (cal cw w_48 (tgtV (.val (.fn Q0Z [])) [v93]) s_1) fun v94 s_2 =>
 bindB (Slot.isB v90 true) fun w_49 =>
 bind1 (gd w_49 (unS .not v94)) fun v95 =>
 bind1 (pickS v90 v95 (.val (.bool false))) fun v96 =>
 bindB (Slot.isB v96 false) fun w_50 =>
 bindB (Slot.isB v96 false) fun w_51 =>
 bind1 (gd w_51 (binS (C.ti Q3) .eql (gdV w_50 v10) (.val (.int .i64 3)))) fun v99 =>
 bindB (Slot.isB v96 false) fun w_52 =>
 bindB (Slot.isB (gdV w_52 v99) true) fun w_53 =>
 bindB (Slot.isB (gdV w_52 v99) true) fun w_54 =>
 bind1 (gd w_54 (bif w_53 then (ofSlots (C.ti Q2) (List.take (C.ti Q2).size (List.drop 2 c1))) else none)) fun v102 =>
 bindB (Slot.isB (gdV w_52 v99) true) fun w_55 =>
 back (cal cw w_55 (tgtV (.val (.fn Q4C [])) [v102]) s_2) fun v103 s_3 =>
 bindB (Slot.isB (gdV w_52 v99) true) fun w_56 =>
 bind1 (gd w_56 (unS .not v103)) fun v104 =>
 bindB (Slot.isB v96 false) fun w_57 =>
 bind1 (gd w_57 (pickS (gdV w_52 v99) v104 (.val (.bool false)))) fun v105 =>
 bind1 (pickS v96 (.val (.bool true)) v105) fun v106 =>
 condS v106 (
 some (.ret (.val (.int .i64 8)), s_3)) (
 bind1 (binS (C.ti Q3) .eql v10 (.val (.int .i64 1))) fun v108 =>
 bindB (Slot.isB v108 true) fun w_58 =>
 bindB (Slot.isB v108 true) fun w_59 =>
 bind1 (gd w_59 (bif w_58 then (ofSlots (C.ti Q1) (List.take (C.ti Q1).size (List.drop 3 c1))) else none)) fun v111 =>
 bindB (Slot.isB v108 true) fun w_60 =>
 back (cal cw w_60 (tgtV (.val (.fn Q35 [])) [v111]) s_3) fun v112 s_4 =>
 bindB (Slot.isB v108 true) fun w_61 =>
 bind1 (gd w_61 (unS .not v112)) fun v113 =>
 bind1 (pickS v108 v113 (.val (.bool false))) fun v114 =>
 bindB (Slot.isB v114 false) fun w_62 =>
 bindB (Slot.isB v114 false) fun w_63 =>
 bind1 (gd w_63 (binS (C.ti Q3) .eql (gdV w_62 v10) (.val (.int .i64 13)))) fun v117 =>
 bindB (Slot.isB v114 false) fun w_64 =>
 bindB (Slot.isB (gdV w_64 v117) true) fun w_65 =>
 bindB (Slot.isB (gdV w_64 v117) true) fun w_66 =>
 bind1 (gd w_66 (bif w_65 then (ofSlots (C.ti Q1) (List.take (C.ti Q1).size (List.drop 3 c1))) else none)) fun v120 =>
 bindB (Slot.isB (gdV w_64 v117) true) fun w_67 =>
 back (cal cw w_67 (tgtV (.val (.fn Q0J [])) [v120, (.val (.int .i64 1)), (.val (.int .i64 9))]) s_4) fun v121 s_5 =>
 bindB (Slot.isB (gdV w_64 v117) true) fun w_68 =>
 bind1 (gd w_68 (unS .not v121)) fun v122 =>
 bindB (Slot.isB v114 false) fun w_69 =>
 bind1 (gd w_69 (pickS (gdV w_64 v117) v122 (.val (.bool false)))) fun v123 =>
 bind1 (pickS v114 (.val (.bool true)) v123) fun v124 =>
 condS v124 (
 some (.ret (.val (.int .i64 2)), s_5)) (
 bindB (Slot.isB v22 true) fun w_70 =>
 bindB (Slot.isB v22 true) fun w_71 =>
 bind1 (gd w_71 (bif w_70 then (ofSlots (C.ti Qs) (List.take (C.ti Qs).size (List.drop 4 c1))) else none)) fun v128 =>
 bindB (Slot.isB v22 true) fun w_72 =>
 bind1 (gd w_72 (lenS (C.ti Qs) v128)) fun v129 =>
 bindB (Slot.isB v22 true) fun w_73 =>
 bindB (Slot.isB v22 true) fun w_74 =>
 bindB (Slot.isB v22 true) fun w_75 =>
 back (cal cw w_75 (tgtV (.val (.fn Q0J [])) [v129, (gdV w_73 v20), (gdV w_74 v21)]) s_5) fun v132 s_6 =>
 bindB (Slot.isB v22 true) fun w_76 =>
 bind1 (gd w_76 (unS .not v132)) fun v133 =>
 bind1 (pickS v22 v133 (.val (.bool false))) fun v134 =>
 bindB (Slot.isB v134 false) fun w_77 =>
 bindB (Slot.isB v134 false) fun w_78 =>
 bindB (Slot.isB (gdV w_78 (gdV w_77 v32)) true) fun w_79 =>
 bindB (Slot.isB (gdV w_78 (gdV w_77 v32)) true) fun w_80 =>
 bind1 (gd w_80 (bif w_79 then (ofSlots (C.ti Qb) (List.take (C.ti Qb).size (List.drop 5 c1))) else none)) fun v139 =>
 bindB (Slot.isB (gdV w_78 (gdV w_77 v32)) true) fun w_81 =>
 bind1 (gd w_81 (lenS (C.ti Qb) v139)) fun v140 =>
 bindB (Slot.isB (gdV w_78 (gdV w_77 v32)) true) fun w_82 =>
 bind1 (gd w_82 (binS (C.ti Q1) .lss v140 (.val (.int .i64 1)))) fun v141 =>
 bindB (Slot.isB v134 false) fun w_83 =>
 bind1 (gd w_83 (pickS (gdV w_78 (gdV w_77 v32)) v141 (.val (.bool false)))) fun v142 =>
 bind1 (pickS v134 (.val (.bool true)) v142) fun v143 =>
 bindB (Slot.isB v143 false) fun w_84 =>
 bindB (Slot.isB v143 false) fun w_85 =>
 bind1 (gd w_85 (binS (C.ti Q3) .eql (gdV w_84 v10) (.val (.int .i64 7)))) fun v146 =>
 bindB (Slot.isB v143 false) fun w_86 =>
 bindB (Slot.isB (gdV w_86 v146) true) fun w_87 =>
 bindB (Slot.isB (gdV w_86 v146) true) fun w_88 =>
 bind1 (gd w_88 (bif w_87 then (ofSlots (C.ti Qq) (List.take (C.ti Qq).size (List.drop 6 c1))) else none)) fun v149 =>
 bindB (Slot.isB (gdV w_86 v146) true) fun w_89 =>
 bind1 (gd w_89 (lenS (C.ti Qq) v149)) fun v150 =>
 bindB (Slot.isB (gdV w_86 v146) true) fun w_90 =>
 bind1 (gd w_90 (binS (C.ti Q1) .lss v150 (.val (.int .i64 1)))) fun v151 =>
 bindB (Slot.isB v143 false) fun w_91 =>
 bind1 (gd w_91 (pickS (gdV w_86 v146) v151 (.val (.bool false)))) fun v152 =>
 bind1 (pickS v143 (.val (.bool true)) v152) fun v153 =>
 condS v153 (
 some (.ret (.val (.int .i64 19)), s_6)) (
 some (.ret (.val (.int .i64 0)), s_6)))))) := (Q4 _ _ _).trans (by kernel_rfl)
theorem Qfo (a0 : AV) (s : St) : cw (.f Q7f) [a0] s =
 bx Qo (.val a0) fun c1 =>
 gC Qf 0 c1 fun v7 =>
 bn Qf .lss v7 (iv 1) fun v9 =>
 iF v9 fun w =>
 iF v9 fun w_1 =>
 gB w_1 Qf .gtr (gdV w v7) (iv 6) fun v12 =>
 pk v9 (bv true) v12 fun v13 =>
 condS v13 (
 some (.ret (iv 29), s)) (
 bn Qf .eql v7 (iv 2) fun v15 =>
 iF v15 fun w_2 =>
 iF v15 fun w_3 =>
 gB w_3 Qf .eql (gdV w_2 v7) (iv 4) fun v18 =>
 pk v15 (bv true) v18 fun v19 =>
 iF v19 fun w_4 =>
 iF v19 fun w_5 =>
 gB w_5 Qf .eql (gdV w_4 v7) (iv 6) fun v22 =>
 pk v19 (bv true) v22 fun v23 =>
 bn Qf .eql v7 (iv 4) fun v25 =>
 iF v25 fun w_6 =>
 iF v25 fun w_7 =>
 gB w_7 Qf .eql (gdV w_6 v7) (iv 5) fun v28 =>
 pk v25 (bv true) v28 fun v29 =>
 iF v29 fun w_8 =>
 iF v29 fun w_9 =>
 gB w_9 Qf .eql (gdV w_8 v7) (iv 6) fun v32 =>
 pk v29 (bv true) v32 fun v33 =>
 nt v23 fun v35 =>
 iT v35 fun w_10 =>
 iT v35 fun w_11 =>
 gG w_11 w_10 Q2 2 c1 fun v38 =>
 iT v35 fun w_12 =>
 gB w_12 Q2 .neq v38 (sv []) fun v39 =>
 pk v35 v39 (bv false) fun v40 =>
 iF v40 fun w_13 =>
 iF v40 fun w_14 =>
 gB w_14 Qf .neq (gdV w_13 v7) (iv 3) fun v43 =>
 iF v40 fun w_15 =>
 bindB (Slot.isB (gdV w_15 v43) true) fun w_16 =>
 bindB (Slot.isB (gdV w_15 v43) true) fun w_17 =>
 gG w_17 w_16 Q1 3 c1 fun v46 =>
 bindB (Slot.isB (gdV w_15 v43) true) fun w_18 =>
 gB w_18 Q1 .neq v46 (iv 0) fun v47 =>
 iF v40 fun w_19 =>
 bind1 (gd w_19 (pickS (gdV w_15 v43) v47 (bv false))) fun v48 =>
 pk v40 (bv true) v48 fun v49 =>
 iF v49 fun w_20 =>
 iF v49 fun w_21 =>
 bind1 (gd w_21 (unS .not (gdV w_20 v33))) fun v52 =>
 iF v49 fun w_22 =>
 bindB (Slot.isB (gdV w_22 v52) true) fun w_23 =>
 bindB (Slot.isB (gdV w_22 v52) true) fun w_24 =>
 gG w_24 w_23 Qt 4 c1 fun v55 =>
 bindB (Slot.isB (gdV w_22 v52) true) fun w_25 =>
 gL w_25 Qt v55 fun v56 =>
 bindB (Slot.isB (gdV w_22 v52) true) fun w_26 =>
 gB w_26 Q1 .gtr v56 (iv 0) fun v57 =>
 iF v49 fun w_27 =>
 bind1 (gd w_27 (pickS (gdV w_22 v52) v57 (bv false))) fun v58 =>
 pk v49 (bv true) v58 fun v59 =>
 condS v59 (
 some (.ret (iv 29), s)) (
 bn Qf .eql v7 (iv 4) fun v61 =>
 iT v61 fun w_28 =>
 iT v61 fun w_29 =>
 gG w_29 w_28 Q2 2 c1 fun v64 =>
 iT v61 fun w_30 =>
 cg w_30 Q4C [v64] s fun v65 s_1 =>
 iT v61 fun w_31 =>
 gN w_31 v65 fun v66 =>
 pk v61 v66 (bv false) fun v67 =>
 iF v67 fun w_32 =>
 iF v67 fun w_33 =>
 bindB (Slot.isB (gdV w_33 (gdV w_32 v23)) true) fun w_34 =>
 bindB (Slot.isB (gdV w_33 (gdV w_32 v23)) true) fun w_35 =>
 gB w_35 Qf .neq (gdV w_34 v7) (iv 4) fun v72 =>
 iF v67 fun w_36 =>
 bind1 (gd w_36 (pickS (gdV w_33 (gdV w_32 v23)) v72 (bv false))) fun v73 =>
 iF v67 fun w_37 =>
 bindB (Slot.isB (gdV w_37 v73) true) fun w_38 =>
 bindB (Slot.isB (gdV w_37 v73) true) fun w_39 =>
 gG w_39 w_38 Q2 2 c1 fun v76 =>
 bindB (Slot.isB (gdV w_37 v73) true) fun w_40 =>
 cg w_40 Q0Z [v76] s_1 fun v77 s_2 =>
 bindB (Slot.isB (gdV w_37 v73) true) fun w_41 =>
 gN w_41 v77 fun v78 =>
 iF v67 fun w_42 =>
 bind1 (gd w_42 (pickS (gdV w_37 v73) v78 (bv false))) fun v79 =>
 pk v67 (bv true) v79 fun v80 =>
 condS v80 (
 some (.ret (iv 8), s_2)) (
 bn Qf .eql v7 (iv 3) fun v82 =>
 iT v82 fun w_43 =>
 iT v82 fun w_44 =>
 gG w_44 w_43 Q1 3 c1 fun v85 =>
 iT v82 fun w_45 =>
 cg w_45 Q35 [v85] s_2 fun v86 s_3 =>
 iT v82 fun w_46 =>
 gN w_46 v86 fun v87 =>
 pk v82 v87 (bv false) fun v88 =>
 condS v88 (
 some (.ret (iv 2), s_3)) (
 bn Qf .eql v7 (iv 4) fun v90 =>
 iT v90 fun w_47 =>
 iT v90 fun w_48 =>
 gG w_48 w_47 Qt 4 c1 fun v93 =>
 iT v90 fun w_49 =>
 gL w_49 Qt v93 fun v94 =>
 iT v90 fun w_50 =>
 gB w_50 Q1 .gtr v94 (iv 1) fun v95 =>
 pk v90 v95 (bv false) fun v96 =>
 iF v96 fun w_51 =>
 iF v96 fun w_52 =>
 gB w_52 Qf .eql (gdV w_51 v7) (iv 5) fun v99 =>
 iF v96 fun w_53 =>
 bindB (Slot.isB (gdV w_53 v99) true) fun w_54 =>
 bindB (Slot.isB (gdV w_53 v99) true) fun w_55 =>
 gG w_55 w_54 Qt 4 c1 fun v102 =>
 bindB (Slot.isB (gdV w_53 v99) true) fun w_56 =>
 gL w_56 Qt v102 fun v103 =>
 bindB (Slot.isB (gdV w_53 v99) true) fun w_57 =>
 cg w_57 Q0J [v103, (iv 2), (iv 8)] s_3 fun v104 s_4 =>
 bindB (Slot.isB (gdV w_53 v99) true) fun w_58 =>
 gN w_58 v104 fun v105 =>
 iF v96 fun w_59 =>
 bind1 (gd w_59 (pickS (gdV w_53 v99) v105 (bv false))) fun v106 =>
 pk v96 (bv true) v106 fun v107 =>
 iF v107 fun w_60 =>
 iF v107 fun w_61 =>
 gB w_61 Qf .eql (gdV w_60 v7) (iv 6) fun v110 =>
 iF v107 fun w_62 =>
 bindB (Slot.isB (gdV w_62 v110) true) fun w_63 =>
 bindB (Slot.isB (gdV w_62 v110) true) fun w_64 =>
 gG w_64 w_63 Qt 4 c1 fun v113 =>
 bindB (Slot.isB (gdV w_62 v110) true) fun w_65 =>
 gL w_65 Qt v113 fun v114 =>
 bindB (Slot.isB (gdV w_62 v110) true) fun w_66 =>
 gB w_66 Q1 .neq v114 (iv 1) fun v115 =>
 iF v107 fun w_67 =>
 bind1 (gd w_67 (pickS (gdV w_62 v110) v115 (bv false))) fun v116 =>
 pk v107 (bv true) v116 fun v117 =>
 condS v117 (
 some (.ret (iv 19), s_4)) (
 some (.ret (iv 0), s_4)))))) := (Q4 _ _ _).trans (by kernel_rfl)
theorem Qg9 (a0 : AV) (s : St) : cw (.f Q7X) [a0] s =
 bx Q7 (.val a0) fun c1 =>
 gC Qr 0 c1 fun v6 =>
 bn Qr .eql v6 (iv 1) fun v7 =>
 condS v7 (
 gC Q2 2 c1 fun v9 =>
 bn Q2 .neq v9 (sv []) fun v10 =>
 iF v10 fun w =>
 iF v10 fun w_1 =>
 gG w_1 w Qm 3 c1 fun v13 =>
 iF v10 fun w_2 =>
 gL w_2 Qm v13 fun v14 =>
 iF v10 fun w_3 =>
 gB w_3 Q1 .gtr v14 (iv 0) fun v15 =>
 pk v10 (bv true) v15 fun v16 =>
 condS v16 (
 some (.ret (iv 29), s)) (
 gC Q1 1 c1 fun v18 =>
 bn Q1 .lss v18 (iv 0) fun v19 =>
 condS v19 (
 some (.ret (iv 2), s)) (
 some (.ret (iv 0), s)))) (
 gC Qr 0 c1 fun v21 =>
 bn Qr .neq v21 (iv 2) fun v22 =>
 iF v22 fun w_4 =>
 iF v22 fun w_5 =>
 gG w_5 w_4 Q1 1 c1 fun v25 =>
 iF v22 fun w_6 =>
 gB w_6 Q1 .neq v25 (iv 0) fun v26 =>
 pk v22 (bv true) v26 fun v27 =>
 condS v27 (
 some (.ret (iv 29), s)) (
 gC Q2 2 c1 fun v29 =>
 bn Q2 .neq v29 (sv [114, 101, 102]) fun v30 =>
 iT v30 fun w_7 =>
 iT v30 fun w_8 =>
 gG w_8 w_7 Q2 2 c1 fun v33 =>
 iT v30 fun w_9 =>
 gB w_9 Q2 .neq v33 (sv [45, 62]) fun v34 =>
 pk v30 v34 (bv false) fun v35 =>
 iT v35 fun w_10 =>
 iT v35 fun w_11 =>
 gG w_11 w_10 Q2 2 c1 fun v38 =>
 iT v35 fun w_12 =>
 gB w_12 Q2 .neq v38 (sv [42]) fun v39 =>
 pk v35 v39 (bv false) fun v40 =>
 iT v40 fun w_13 =>
 iT v40 fun w_14 =>
 gG w_14 w_13 Q2 2 c1 fun v43 =>
 iT v40 fun w_15 =>
 cg w_15 Q0Z [v43] s fun v44 s_1 =>
 iT v40 fun w_16 =>
 gN w_16 v44 fun v45 =>
 pk v40 v45 (bv false) fun v46 =>
 condS v46 (
 some (.ret (iv 8), s_1)) (
 gC Q2 2 c1 fun v49 =>
 ca Q3t [v49] s_1 fun v50 s_2 =>
 ex v50 0 fun v51 =>
 ex v50 1 fun v52 =>
 gC Qm 3 c1 fun v54 =>
 ln Qm v54 fun v55 =>
 ca Q0J [v55, v51, v52] s_2 fun v58 s_3 =>
 nt v58 fun v59 =>
 condS v59 (
 some (.ret (iv 19), s_3)) (
 some (.ret (iv 0), s_3))))) := (Q4 _ _ _).trans (by kernel_rfl)
theorem Qfl (a0 : AV) (s : St) : cw (.f Q0Z) [a0] s =
 ca Q19 [(.val a0), (bv false)] s fun v4 s_1 =>
 iT v4 fun w =>
 iT v4 fun w_1 =>
 gB w_1 Q2 .neq (gdV w (.val a0)) (sv [95]) fun v7 =>
 pk v4 v7 (bv false) fun v8 =>
 iT v8 fun w_2 =>
 iT v8 fun w_3 =>
 gB w_3 Q2 .neq (gdV w_2 (.val a0)) (sv [116, 114, 117, 101]) fun v11 =>
 pk v8 v11 (bv false) fun v12 =>
 iT v12 fun w_4 =>
 iT v12 fun w_5 =>
 gB w_5 Q2 .neq (gdV w_4 (.val a0)) (sv [102, 97, 108, 115, 101]) fun v15 =>
 pk v12 v15 (bv false) fun v16 =>
 iT v16 fun w_6 =>
 iT v16 fun w_7 =>
 cg w_7 Q4Y [] s_1 fun v19 s_2 =>
 iT v16 fun w_8 =>
 cg w_8 Q34 [(gdV w_6 (.val a0)), v19] s_2 fun v20 s_3 =>
 iT v16 fun w_9 =>
 gN w_9 v20 fun v21 =>
 pk v16 v21 (bv false) fun v22 =>
 some (.ret v22, s_3) := (Q4 _ _ _).trans (by kernel_rfl)
theorem Qc1 (a0 : AV) (s : St) : cw (.f Q4l) [a0] s =
 bx Q7 (.val a0) fun c1 =>
 gC Qr 0 c1 fun v4 =>
 bn Qr .eql v4 (iv 0) fun v5 =>
 iT v5 fun w =>
 iT v5 fun w_1 =>
 gG w_1 w Q1 1 c1 fun v8 =>
 iT v5 fun w_2 =>
 gB w_2 Q1 .eql v8 (iv 0) fun v9 =>
 pk v5 v9 (bv false) fun v10 =>
 iT v10 fun w_3 =>
 iT v10 fun w_4 =>
 gG w_4 w_3 Q2 2 c1 fun v13 =>
 iT v10 fun w_5 =>
 gB w_5 Q2 .eql v13 (sv []) fun v14 =>
 pk v10 v14 (bv false) fun v15 =>
 iT v15 fun w_6 =>
 iT v15 fun w_7 =>
 gG w_7 w_6 Qm 3 c1 fun v18 =>
 iT v15 fun w_8 =>
 gL w_8 Qm v18 fun v19 =>
 iT v15 fun w_9 =>
 gB w_9 Q1 .eql v19 (iv 0) fun v20 =>
 pk v15 v20 (bv false) fun v21 =>
 some (.ret v21, s) := (Q4 _ _ _).trans (by kernel_rfl)
theorem QaW (a0 : AV) (s : St) : cw (.f Q2f) [a0] s =
 ca Q19 [(.val a0), (bv true)] s fun v4 s_1 =>
 some (.ret v4, s_1) := (Q4 _ _ _).trans (by kernel_rfl)
theorem Q9H (a0 : AV) (s : St) : cw (.f Q2I) [a0] s =
 bx QM (.val a0) fun c1 =>
 gC Q1c 2 c1 fun v4 =>
 bn Q1c .eql v4 (.val (.nilp)) fun v5 =>
 iT v5 fun w =>
 iT v5 fun w_1 =>
 gG w_1 w Q0D 3 c1 fun v8 =>
 iT v5 fun w_2 =>
 gB w_2 Q0D .eql v8 (.val (.nilp)) fun v9 =>
 pk v5 v9 (bv false) fun v10 =>
 some (.ret v10, s) := (Q4 _ _ _).trans (by kernel_rfl)
end Go.Proofs.YtinphnakebeloaaGreat