/- A part of the proof: G2. -/
import Derived.Test.YtinphnakebeloaaGreatM4
set_option linter.unusedVariables false
set_option linter.unusedSimpArgs false
namespace Go.Proofs.YtinphnakebeloaaGreat
open Go Go.Am
set_option linter.unusedVariables false
theorem Q9e (a0 : AV) (s : St) : cw (.f Q2u) [a0] s =
 ca Q8d [(.val a0)] s fun v4 s_1 =>
 nt v4 fun v5 =>
 condS v5 (
 ca Q3y [] s_1 fun v6 s_2 =>
 some (.ret v6, s_2)) (
 ca Q08 [(.val a0)] s_1 fun v8 s_3 =>
 ca Q3D [(.val a0)] s_3 fun v10 s_4 =>
 bn Q3 .eql v8 v10 fun v11 =>
 iT v11 fun w =>
 cg w Q3y [] s_4 fun v13 s_5 =>
 pk v11 v13 (bv false) fun v14 =>
 some (.ret v14, s_5)) := (Q5 _ _ _).trans (by kernel_rfl)
theorem Qgy (a0 : AV) (s : St) : cw (.f Q8d) [a0] s =
 ln Qs (.val a0) fun v4 =>
 bn Q2 .leq v4 (iv 12) fun v5 =>
 iT v5 fun w =>
 iT v5 fun w_1 =>
 cg w_1 Q6F [(gdV w (.val a0))] s fun v8 s_1 =>
 iT v5 fun w_2 =>
 gB w_2 Q2 .leq v8 (iv 300) fun v9 =>
 pk v5 v9 (bv false) fun v10 =>
 some (.ret v10, s_1) := (Q5 _ _ _).trans (by kernel_rfl)
theorem Qe4 (s : St) : cw (.f Q3y) [] s =
 bd Qp [(0, Qg, (iv 2)), (2, Q1, (sv [120]))] fun v5 =>
 bd Qn [(0, Q4, (iv 2)), (1, Q2, (iv 8)), (2, Q1, (sv [120]))] fun v6 =>
 bx Qp v5 fun c =>
 pZ Qp c fun c1 =>
 bx Qn v6 fun c_1 =>
 pZ Qn c_1 fun c2 =>
 gA Qp c1 fun v7 =>
 gA Qn c2 fun v8 =>
 ca Q2l [v7, v8] s fun v9 s_1 =>
 bs Qi [v9] fun v10 =>
 ca Q08 [v10] s_1 fun v11 s_2 =>
 bx Q3 v11 fun c_2 =>
 pZ Q3 c_2 fun c3 =>
 gA Qp c1 fun v12 =>
 bd Qn [(0, Q4, (iv 1))] fun v13 =>
 cn Q2l [v12, v13] s_2 fun v14 s_3 =>
 gA Qp c1 fun v15 =>
 gA Qn c2 fun v16 =>
 cn Q2l [v15, v16] s_3 fun v17 s_4 =>
 bs Qi [v14, v17] fun v18 =>
 cn Q08 [v18] s_4 fun v19 s_5 =>
 bx Q3 v19 fun c_3 =>
 pZ Q3 c_3 fun c4 =>
 gA Q3 c3 fun v20 =>
 bd Q3 [(0, Qo, (iv 16)), (1, Q2, (iv 8)), (2, Q1, (sv [120]))] fun v21 =>
 bn Q3 .eql v20 v21 fun v22 =>
 iT v22 fun w =>
 iT v22 fun w_1 =>
 gG w_1 w Qo 0 c4 fun v25 =>
 iT v22 fun w_2 =>
 gB w_2 Qo .eql v25 (iv 0) fun v26 =>
 pk v22 v26 (bv false) fun v27 =>
 iT v27 fun w_3 =>
 bind1 (gd w_3 (ofSlots (C.ti Qn) (List.take (C.ti Qn).size c2))) fun v29 =>
 iT v27 fun w_4 =>
 cg w_4 Q6H [v29] s_5 fun v30 s_6 =>
 iT v27 fun w_5 =>
 bind1 (gd w_5 (bslF (C.ti Q1).size [(sv [120])])) fun v31 =>
 iT v27 fun w_6 =>
 cg w_6 Q2E [v30, v31] s_6 fun v32 s_7 =>
 pk v27 v32 (bv false) fun v33 =>
 iT v33 fun w_7 =>
 bind1 (gd w_7 (ofSlots (C.ti Qp) (List.take (C.ti Qp).size c1))) fun v35 =>
 iT v33 fun w_8 =>
 bind1 (gd w_8 (ofSlots (C.ti Qn) (List.take (C.ti Qn).size c2))) fun v36 =>
 iT v33 fun w_9 =>
 cg w_9 Q2l [v35, v36] s_7 fun v37 s_8 =>
 iT v33 fun w_10 =>
 cg w_10 Q5K [v37] s_8 fun v38 s_9 =>
 iT v33 fun w_11 =>
 bind1 (gd w_11 (bslF (C.ti Q1).size [(sv [120])])) fun v39 =>
 iT v33 fun w_12 =>
 cg w_12 Q2E [v38, v39] s_9 fun v40 s_10 =>
 pk v33 v40 (bv false) fun v41 =>
 some (.ret v41, s_10) := (Q5 _ _ _).trans (by kernel_rfl)
noncomputable def Q1M : List Slot → Slot → Slot → Slot → Slot → Slot → St → Res := fun x2 x6 x7 x37 x38 x39 s => lpD Q08 [.seqR, .seqR, .seqR, .seqR, .seqR, .seqR, .seqR, .seqL, .seqR, .block] Tryz.f8 [(2, .var x2), (6, .s x6), (7, .s x7), (37, .s x37), (38, .s x38), (39, .s x39)] s
theorem Q6d : ∀ x2 x6 x7 x37 x38 x39 s_8, Q1M x2 x6 x7 x37 x38 x39 s_8 =
 bn Q2 .lss x39 x38 fun v40 =>
 condS v40 (
 ix Qi x37 x39 fun v41 =>
 ld Qi s_8 v41 fun v42 =>
 bx Qi v42 fun c_8 =>
 pZ Qi c_8 fun c9 =>
 ld QM s_8 x7 fun v43 =>
 gA Qi c9 fun v44 =>
 ca ZQ [v43, v44] s_8 fun v45 s_9 =>
 ld Z5 s_9 x6 fun v47 =>
 gA Qi c9 fun v48 =>
 ca ZB [v47, v48] s_9 fun v49 s_10 =>
 ex v49 0 fun v50 =>
 ex v49 1 fun v51 =>
 bx Z5 v50 fun c_9 =>
 sto s_10 x6 c_9 fun s_11 =>
 nx x39 fun v52 =>
 Q1M x2 x6 x7 x37 x38 v52 s_11) (
 ld QM s_8 x7 fun v53 =>
 bind1 (nilCheckV v53) fun v54 =>
 fa 1 v54 fun v55 =>
 ld Q3 s_8 v55 fun v56 =>
 bx Q3 v56 fun c_10 =>
 pt x2 0 c_10 fun c2_2 =>
 gA Q3 c2_2 fun v => some (.ret v, s_8)) := by intros; unfold Q1M; exact (Qa _ _ _ _ _ _).trans (by kernel_rfl)
theorem Q5c (a0 : AV) (s : St) : cw (.f Q08) [a0] s =
 ca Q3Y [(.val a0)] s fun v11 s_1 =>
 bx Q3 v11 fun c =>
 pZ Q3 c fun c3 =>
 gA Q3 c3 fun v12 =>
 bd Q3 [] fun v13 =>
 bn Q3 .neq v12 v13 fun v14 =>
 condS v14 (
 gA Q3 c3 fun v15 =>
 bx Q3 v15 fun c_1 =>
 pZ Q3 c_1 fun c2 =>
 gA Q3 c2 fun v => some (.ret v, s_1)) (
 ca Q7v [(.val a0)] s_1 fun v18 s_2 =>
 ex v18 0 fun v19 =>
 ex v18 1 fun v20 =>
 bx Q3 v20 fun c_2 =>
 pZ Q3 c_2 fun c5 =>
 gA Q3 c5 fun v21 =>
 bd Q3 [] fun v22 =>
 bn Q3 .neq v21 v22 fun v23 =>
 condS v23 (
 gA Q3 c5 fun v24 =>
 bx Q3 v24 fun c_3 =>
 pZ Q3 c_3 fun c2_1 =>
 gA Q3 c2_1 fun v => some (.ret v, s_2)) (
 ca Q3T [] s_2 fun v25 s_3 =>
 bx Z5 v25 fun c_4 =>
 sto (St.addLoc s_3 (.var (List.map .val (C.ti Z5).zero))) (.val (.vp s_3.locs.length 0)) c_4 fun s_4 =>
 bd Q48 [(0, Qy, (.val (.mp s_4.locs.length)))] fun v27 =>
 bx Q48 v27 fun c28 =>
 bx QM (.val (.vp (St.addLoc s_4 (.map [] 0)).locs.length 0)) fun c_5 =>
 sto (St.addLoc (St.addLoc (St.addLoc s_4 (.map [] 0)) (.var c28)) (.var (List.map .val (C.ti QM).zero))) (.val (.vp (St.addLoc (St.addLoc s_4 (.map [] 0)) (.var c28)).locs.length 0)) c_5 fun s_5 =>
 ld QM s_5 (.val (.vp (St.addLoc (St.addLoc s_4 (.map [] 0)) (.var c28)).locs.length 0)) fun v29 =>
 bind1 (fnS Q0Q [(.val (.vp (St.addLoc (St.addLoc s_4 (.map [] 0)) (.var c28)).locs.length 0))]) fun v30 =>
 bind1 (nilCheckV v29) fun v31 =>
 fa 5 v31 fun v32 =>
 bx QG v30 fun c_6 =>
 sto s_5 v32 c_6 fun s_6 =>
 ld QM s_6 (.val (.vp (St.addLoc (St.addLoc s_4 (.map [] 0)) (.var c28)).locs.length 0)) fun v33 =>
 bind1 (fnS Q0R [(.val (.vp s_3.locs.length 0)), (.val (.vp (St.addLoc (St.addLoc s_4 (.map [] 0)) (.var c28)).locs.length 0))]) fun v34 =>
 bind1 (nilCheckV v33) fun v35 =>
 fa 4 v35 fun v36 =>
 bx Qw v34 fun c_7 =>
 sto s_6 v36 c_7 fun s_7 =>
 ln Qs (.val a0) fun v38 =>
 Q1M ((List.map .val (C.ti Q3).zero)) (.val (.vp s_3.locs.length 0)) ((.val (.vp (St.addLoc (St.addLoc s_4 (.map [] 0)) (.var c28)).locs.length 0))) (.val a0) v38 (iv 0) s_7)) := (Q5 _ _ _).trans (by kernel_rfl)
noncomputable def Q1G : Slot → List Slot → Slot → Slot → Slot → St → Res := fun x0 x2 x6 x7 x8 s => lpD Q3D [.seqR, .seqR, .seqR, .seqR, .seqL, .seqR, .block] Tryz.f9 [(0, .s x0), (2, .var x2), (6, .s x6), (7, .s x7), (8, .s x8)] s
theorem Q6b : ∀ x0 x2 x6 x7 x8 s_6, Q1G x0 x2 x6 x7 x8 s_6 =
 ln Qs x0 fun v29 =>
 bn Q2 .lss x8 v29 fun v30 =>
 condS v30 (
 ix Qi x0 x8 fun v36 =>
 ld Qi s_6 v36 fun v37 =>
 ca Q3g [x6, v37, x7] s_6 fun v39 s_7 =>
 bx Q3 v39 fun c_4 =>
 pZ Q3 c_4 fun c9 =>
 gA Q3 c9 fun v40 =>
 ca QQ [v40] s_7 fun v41 s_8 =>
 nt v41 fun v42 =>
 condS v42 (
 gA Q3 c9 fun v43 =>
 bx Q3 v43 fun c_5 =>
 pt x2 0 c_5 fun c2_2 =>
 gA Q3 c2_2 fun v => some (.ret v, s_8)) (
 ix Qi x0 x8 fun v47 =>
 ld Qi s_8 v47 fun v48 =>
 ca Q07 [v48] s_8 fun v49 s_9 =>
 ca Q1W [x7, v49] s_9 fun v50 s_10 =>
 ix Qi x0 x8 fun v55 =>
 ld Qi s_10 v55 fun v56 =>
 ca Zy [x6, v56] s_10 fun v57 s_11 =>
 ex v57 0 fun v58 =>
 ex v57 1 fun v59 =>
 nx x8 fun v32 =>
 Q1G x0 x2 v58 v50 v32 s_11)) (
 bd Q3 [] fun v60 =>
 bx Q3 v60 fun c_6 =>
 pt x2 0 c_6 fun c2_3 =>
 gA Q3 c2_3 fun v => some (.ret v, s_6)) := by intros; unfold Q1G; exact (Qa _ _ _ _ _ _).trans (by kernel_rfl)
theorem Qer (a0 : AV) (s : St) : cw (.f Q3D) [a0] s =
 ca Q5H [(.val a0)] s fun v11 s_1 =>
 bx Q3 v11 fun c =>
 pZ Q3 c fun c3 =>
 gA Q3 c3 fun v12 =>
 ca QQ [v12] s_1 fun v13 s_2 =>
 nt v13 fun v14 =>
 condS v14 (
 gA Q3 c3 fun v15 =>
 bx Q3 v15 fun c_1 =>
 pZ Q3 c_1 fun c2 =>
 gA Q3 c2 fun v => some (.ret v, s_2)) (
 ca Q6q [(.val a0)] s_2 fun v18 s_3 =>
 ex v18 0 fun v19 =>
 ex v18 1 fun v20 =>
 bx Q3 v20 fun c_2 =>
 pZ Q3 c_2 fun c5 =>
 gA Q3 c5 fun v21 =>
 ca QQ [v21] s_3 fun v22 s_4 =>
 nt v22 fun v23 =>
 condS v23 (
 gA Q3 c5 fun v24 =>
 bx Q3 v24 fun c_3 =>
 pZ Q3 c_3 fun c2_1 =>
 gA Q3 c2_1 fun v => some (.ret v, s_4)) (
 ca Q27 [] s_4 fun v25 s_5 =>
 bs Q1 [] fun v26 =>
 Q1G (.val a0) ((List.map .val (C.ti Q3).zero)) v25 v26 (iv 0) s_5)) := (Q5 _ _ _).trans (by kernel_rfl)
theorem Qgz (a0 : AV) (a1 : AV) (s : St) : cw (.f Q2l) [a0, a1] s =
 bx Qp (.val a0) fun c2 =>
 bx Qn (.val a1) fun c3 =>
 gA Qp c2 fun v5 =>
 gA Qn c3 fun v6 =>
 bd Qr [(0, Qp, v5), (5, Qn, v6)] fun v7 =>
 bs Qr [v7] fun v8 =>
 bd Qi [(0, Qc, (iv 1)), (5, Qe, v8)] fun v9 =>
 bx Qi v9 fun c =>
 pZ Qi c fun c4 =>
 gA Qi c4 fun v => some (.ret v, s) := (Q5 _ _ _).trans (by kernel_rfl)
noncomputable def Q2j : Slot → Slot → Slot → St → Res := fun x0 x1 x5 s => lpD Q2E [.seqR, .seqR, .seqL, .seqR, .block] Tryz.f11 [(0, .s x0), (1, .s x1), (5, .s x5)] s
theorem Q7c : ∀ x0 x1 x5 s_1, Q2j x0 x1 x5 s_1 =
 ln Qf x0 fun v13 =>
 bn Q2 .lss x5 v13 fun v14 =>
 condS v14 (
 ix Q1 x0 x5 fun v19 =>
 ld Q1 s_1 v19 fun v20 =>
 ix Q1 x1 x5 fun v23 =>
 ld Q1 s_1 v23 fun v24 =>
 bn Q1 .neq v20 v24 fun v25 =>
 condS v25 (
 some (.ret (bv false), s_1)) (
 nx x5 fun v16 =>
 Q2j x0 x1 v16 s_1)) (
 some (.ret (bv true), s_1)) := by intros; unfold Q2j; exact (Qa _ _ _ _ _ _).trans (by kernel_rfl)
theorem QfE (a0 : AV) (a1 : AV) (s : St) : cw (.f Q2E) [a0, a1] s =
 ln Qf (.val a0) fun v7 =>
 ln Qf (.val a1) fun v9 =>
 bn Q2 .neq v7 v9 fun v10 =>
 condS v10 (
 some (.ret (bv false), s)) (
 Q2j (.val a0) (.val a1) (iv 0) s) := (Q5 _ _ _).trans (by kernel_rfl)
theorem Q9P (a0 : AV) (s : St) : cw (.f Q6H) [a0] s =
 bx Qn (.val a0) fun c1 =>
 gA Qn c1 fun v5 =>
 ca Q3Z [v5] s fun v6 s_1 =>
 bd Q3 [] fun v7 =>
 bn Q3 .neq v6 v7 fun v8 =>
 condS v8 (
 some (.ret (.val (.nils)), s_1)) (
 bd Q48 [(0, Qy, (.val (.mp (St.addLoc s_1 (.var (List.map .val (C.ti Qf).zero))).locs.length)))] fun v10 =>
 bx Q48 v10 fun c11 =>
 bind1 (fnS Q0o [(.val (.vp s_1.locs.length 0))]) fun v13 =>
 bind1 (nilCheckV (.val (.vp (St.addLoc (St.addLoc s_1 (.var (List.map .val (C.ti Qf).zero))) (.map [] 0)).locs.length 0))) fun v14 =>
 fa 5 v14 fun v15 =>
 bx QG v13 fun c =>
 sto (St.addLoc (St.addLoc (St.addLoc s_1 (.var (List.map .val (C.ti Qf).zero))) (.map [] 0)) (.var c11)) v15 c fun s_2 =>
 bind1 (nilCheckV (.val (.vp (St.addLoc (St.addLoc s_1 (.var (List.map .val (C.ti Qf).zero))) (.map [] 0)).locs.length 0))) fun v17 =>
 fa 4 v17 fun v18 =>
 bx Qw (.val (.fn Q1k [])) fun c_1 =>
 sto s_2 v18 c_1 fun s_3 =>
 bind1 (nilCheckV (.val (.vp (St.addLoc (St.addLoc s_1 (.var (List.map .val (C.ti Qf).zero))) (.map [] 0)).locs.length 0))) fun v20 =>
 fa 7 v20 fun v21 =>
 bx Qk (bv true) fun c_2 =>
 sto s_3 v21 c_2 fun s_4 =>
 gA Qn c1 fun v23 =>
 ca QD [(.val (.vp (St.addLoc (St.addLoc s_1 (.var (List.map .val (C.ti Qf).zero))) (.map [] 0)).locs.length 0)), v23] s_4 fun v24 s_5 =>
 ld Qf s_5 (.val (.vp s_1.locs.length 0)) fun v25 =>
 some (.ret v25, s_5)) := (Q5 _ _ _).trans (by kernel_rfl)
theorem Q8Q (a0 : AV) (s : St) : cw (.f Q5K) [a0] s =
 bx Qi (.val a0) fun c1 =>
 gA Qi c1 fun v3 =>
 bs Qi [v3] fun v4 =>
 ca Q3Y [v4] s fun v5 s_1 =>
 bd Q3 [] fun v6 =>
 bn Q3 .neq v5 v6 fun v7 =>
 condS v7 (
 some (.ret (.val (.nils)), s_1)) (
 gA Qi c1 fun v8 =>
 ca Zc [v8] s_1 fun v9 s_2 =>
 some (.ret v9, s_2)) := (Q5 _ _ _).trans (by kernel_rfl)
theorem Qec (a0 : AV) (s : St) : cw (.f Q5H) [a0] s =
 ca Q3X [(.val a0)] s fun v4 s_1 =>
 ca ZC [(.val a0)] s_1 fun v6 s_2 =>
 ca Q26 [v4, v6] s_2 fun v7 s_3 =>
 bx Q3 v7 fun c =>
 pZ Q3 c fun c2 =>
 gA Q3 c2 fun v => some (.ret v, s_3) := (Q5 _ _ _).trans (by kernel_rfl)
theorem Qfu (a0 : AV) (s : St) : cw (.f Q6F) [a0] s =
 ca Q3X [(.val a0)] s fun v4 s_1 =>
 ca Q25 [v4] s_1 fun v5 s_2 =>
 some (.ret v5, s_2) := (Q5 _ _ _).trans (by kernel_rfl)
theorem QfJ (a0 : AV) (s : St) : cw (.f Q3Y) [a0] s =
 bx Qs (.val a0) fun c1 =>
 bindA (avs c1) fun l1 =>
 ld Qs s (.val (.cp l1)) fun v3 =>
 ca Q4Z [v3] s fun v4 s_1 =>
 bind1 (fnS Q4X [(.val (.cp l1))]) fun v5 =>
 ca Q2G [v4, v5] s_1 fun v6 s_2 =>
 bx Q3 v6 fun c =>
 pZ Q3 c fun c2 =>
 gA Q3 c2 fun v => some (.ret v, s_2) := (Q5 _ _ _).trans (by kernel_rfl)
noncomputable def Q49 : List Slot → Slot → Slot → Slot → Slot → St → Res := fun x3 x4 x10 x11 x12 s => lpD Q7v [.seqR, .seqR, .seqL, .seqR, .block] Tryz.f19 [(3, .var x3), (4, .s x4), (10, .s x10), (11, .s x11), (12, .s x12)] s
theorem Q9B : ∀ x3 x4 x10 x11 x12 s_2, Q49 x3 x4 x10 x11 x12 s_2 =
 bn Q2 .lss x12 x11 fun v13 =>
 condS v13 (
 ix Qi x10 x12 fun v14 =>
 ld Qi s_2 v14 fun v15 =>
 bx Qi v15 fun c =>
 pZ Qi c fun c6 =>
 gA Qi c6 fun v18 =>
 ca ZB [x4, v18] s_2 fun v19 s_3 =>
 ex v19 0 fun v20 =>
 ex v19 1 fun v21 =>
 bx Q3 v21 fun c_1 =>
 pZ Q3 c_1 fun c8 =>
 gC Qo 0 c8 fun v23 =>
 bn Qo .neq v23 (iv 0) fun v24 =>
 condS v24 (
 gA Q3 c8 fun v25 =>
 bx Q3 v25 fun c_2 =>
 pt x3 0 c_2 fun c3 =>
 rt [(some (.val (.nils))), (ofSlots (C.ti Q3) (List.take (C.ti Q3).size c3))] s_3) (
 nx x12 fun v27 =>
 Q49 x3 v20 x10 x11 v27 s_3)) (
 bd Q3 [] fun v29 =>
 bx Q3 v29 fun c_3 =>
 pt x3 0 c_3 fun c3_1 =>
 rt [(some x4), (ofSlots (C.ti Q3) (List.take (C.ti Q3).size c3_1))] s_2) := by intros; unfold Q49; exact (Qa _ _ _ _ _ _).trans (by kernel_rfl)
theorem QiB (a0 : AV) (s : St) : cw (.f Q7v) [a0] s =
 ca Q3T [] s fun v9 s_1 =>
 ln Qs (.val a0) fun v11 =>
 Q49 ((List.map .val (C.ti Q3).zero)) v9 (.val a0) v11 (iv 0) s_1 := (Q5 _ _ _).trans (by kernel_rfl)
theorem Qfk (s : St) : cw (.f Q3T) [] s =
 ca ZW [(sv [40, 41]), (sv [117, 110, 105, 116]), (iv 0), (iv 1)] s fun v1 s_1 =>
 ca ZW [(sv [102, 97, 108, 115, 101]), (sv [98, 111, 111, 108]), (iv 0), (iv 2)] s_1 fun v2 s_2 =>
 ca ZW [(sv [116, 114, 117, 101]), (sv [98, 111, 111, 108]), (iv 1), (iv 2)] s_2 fun v3 s_3 =>
 ca ZW [(sv [68, 105, 118]), (sv [101, 120, 110]), (iv 0), (iv 0)] s_3 fun v4 s_4 =>
 ca ZW [(sv [69, 111, 102]), (sv [101, 120, 110]), (iv 1), (iv 0)] s_4 fun v5 s_5 =>
 ca ZW [(sv [77, 97, 116, 99, 104]), (sv [101, 120, 110]), (iv 2), (iv 0)] s_5 fun v6 s_6 =>
 bs Q8 [v1, v2, v3, v4, v5, v6] fun v7 =>
 some (.ret v7, s_6) := (Q5 _ _ _).trans (by kernel_rfl)
theorem Qcc (a0 : AV) (a1 : AV) (a2 : AV) (s : St) : cw (.f Q0Q) [a0, a1, a2] s =
 ld QM s (.val a2) fun v5 =>
 ca QK [v5, (iv 16), (.val a1), (.val a0)] s fun v8 s_1 =>
 rt [] s_1 := (Q5 _ _ _).trans (by kernel_rfl)
theorem Q5D (a0 : AV) (a1 : AV) (a2 : AV) (a3 : AV) (s : St) : cw (.f QK) [a0, a1, a2, a3] s =
 bind1 (nilCheckV (.val a0)) fun v9 =>
 fa 6 v9 fun v10 =>
 ld Qk s v10 fun v11 =>
 nt v11 fun v12 =>
 iT v12 fun w =>
 iT v12 fun w_1 =>
 bind1 (gd w_1 (nilCheckV (gdV w (.val a0)))) fun v15 =>
 iT v12 fun w_2 =>
 bind1 (gd w_2 (faV 7 v15)) fun v16 =>
 iT v12 fun w_3 =>
 bind1 (gd w_3 (ldV (C.ti Qk) false s v16)) fun v17 =>
 iT v12 fun w_4 =>
 gN w_4 v17 fun v18 =>
 pk v12 v18 (bv false) fun v19 =>
 condS v19 (
 bd Q3 [(0, Qo, (.val a1)), (1, Q2, (.val a2)), (2, Q1, (.val a3))] fun v25 =>
 bind1 (nilCheckV (.val a0)) fun v26 =>
 fa 1 v26 fun v27 =>
 bx Q3 v25 fun c =>
 sto s v27 c fun s_1 =>
 bind1 (nilCheckV (.val a0)) fun v28 =>
 fa 6 v28 fun v29 =>
 bx Qk (bv true) fun c_1 =>
 sto s_1 v29 c_1 fun s_2 =>
 rt [] s_2) (
 rt [] s) := (Q5 _ _ _).trans (by kernel_rfl)
theorem Q3K (a0 : AV) (a1 : AV) (a2 : AV) (a3 : AV) (a4 : AV) (s : St) : cw (.f Q0R) [a0, a1, a2, a3, a4] s =
 ld Z5 s (.val a3) fun v11 =>
 ca Q5f [v11, (.val a0)] s fun v13 s_1 =>
 ex v13 0 fun v14 =>
 ex v13 1 fun v15 =>
 bx Q8 v14 fun c =>
 pZ Q8 c fun c8 =>
 nt v15 fun v18 =>
 condS v18 (
 ld QM s_1 (.val a4) fun v19 =>
 ca QK [v19, (iv 17), (.val a1), (.val a0)] s_1 fun v22 s_2 =>
 rt [] s_2) (
 gC Qk 4 c8 fun v25 =>
 bn Q2 .gtr (.val a2) (iv 0) fun v27 =>
 bn Qk .neq v25 v27 fun v28 =>
 condS v28 (
 ld QM s_1 (.val a4) fun v29 =>
 ca QK [v29, (iv 19), (.val a1), (.val a0)] s_1 fun v32 s_3 =>
 rt [] s_3) (
 rt [] s_1)) := (Q5 _ _ _).trans (by kernel_rfl)
noncomputable def Q2J : Slot → List Slot → Slot → Slot → Slot → St → Res := fun x1 x4 x8 x9 x10 s => lpD Q5f [.seqR, .seqL, .seqR, .block] Tryz.f24 [(1, .s x1), (4, .var x4), (8, .s x8), (9, .s x9), (10, .s x10)] s
theorem Q7A : ∀ x1 x4 x8 x9 x10 s_1, Q2J x1 x4 x8 x9 x10 s_1 =
 bn Q2 .lss x10 x9 fun v11 =>
 condS v11 (
 ix Q8 x8 x10 fun v12 =>
 ld Q8 s_1 v12 fun v13 =>
 bx Q8 v13 fun c =>
 pZ Q8 c fun c7 =>
 gC Q1 0 c7 fun v15 =>
 bn Q1 .eql v15 x1 fun v17 =>
 condS v17 (
 gC Q6 6 c7 fun v20 =>
 ca Q1e [v20] s_1 fun v21 s_2 =>
 bx Q6 v21 fun c_1 =>
 pt c7 6 c_1 fun c7_1 =>
 gA Q8 c7_1 fun v24 =>
 bx Q8 v24 fun c_2 =>
 pt x4 0 c_2 fun c4 =>
 rt [(ofSlots (C.ti Q8) (List.take (C.ti Q8).size c4)), (some (bv true))] s_2) (
 nx x10 fun v25 =>
 Q2J x1 x4 x8 x9 v25 s_1)) (
 bd Q8 [] fun v26 =>
 bx Q8 v26 fun c_3 =>
 pt x4 0 c_3 fun c4_1 =>
 rt [(ofSlots (C.ti Q8) (List.take (C.ti Q8).size c4_1)), (some (bv false))] s_1) := by intros; unfold Q2J; exact (Qa _ _ _ _ _ _).trans (by kernel_rfl)
theorem Qge (a0 : AV) (a1 : AV) (s : St) : cw (.f Q5f) [a0, a1] s =
 ln Z5 (.val a0) fun v9 =>
 Q2J (.val a1) ((List.map .val (C.ti Q8).zero)) (.val a0) v9 (iv 0) s := (Q5 _ _ _).trans (by kernel_rfl)
noncomputable def ZI : Slot → List Slot → Slot → Slot → Slot → St → Res := fun x0 x3 x16 x17 x18 s => lpD ZQ [.seqR, .seqL, .seqR, .block, .seqR, .thn, .seqL, .seqR, .block] Tryz.f25 [(0, .s x0), (3, .var x3), (16, .s x16), (17, .s x17), (18, .s x18)] s
noncomputable def ZJ : Slot → Slot → Slot → Slot → Slot → Slot → St → Res := fun x0_1 x7 x8 x44 x45 x46 s => lpD ZQ [.seqR, .seqL, .seqR, .block, .seqR, .els, .seqR, .thn, .seqR, .seqR, .seqL, .seqR, .block] Tryz.f25 [(0, .s x0_1), (7, .s x7), (8, .s x8), (44, .s x44), (45, .s x45), (46, .s x46)] s
theorem Q4s : ∀ x0 x3 x16 x17 x18 s_1, ZI x0 x3 x16 x17 x18 s_1 =
 bn Q2 .lss x18 x17 fun v19 =>
 condS v19 (
 ix Qr x16 x18 fun v20 =>
 ld Qr s_1 v20 fun v21 =>
 bx Qr v21 fun c =>
 pZ Qr c fun c6 =>
 gC Qp 0 c6 fun v24 =>
 ca QW [x0, v24, (.val (.mp s_1.locs.length))] (St.addLoc s_1 (.map [] 0)) fun v26 s_2 =>
 gC Qn 5 c6 fun v29 =>
 ca QD [x0, v29] s_2 fun v30 s_3 =>
 nx x18 fun v31 =>
 ZI x0 x3 x16 x17 v31 s_3) (
 gA Qi x3 fun v33 =>
 ca Zc [v33] s_1 fun v34 s_4 =>
 ca Ze [x0, v34] s_4 fun v35 s_5 =>
 some (.ret v35, s_5)) := by intros; unfold ZI; exact (Qa _ _ _ _ _ _).trans (by kernel_rfl)
theorem Q23 : ∀ x0_1 x7 x8 x44 x45 x46 s_8, ZJ x0_1 x7 x8 x44 x45 x46 s_8 =
 bn Q2 .lss x46 x45 fun v47 =>
 condS v47 (
 ix QU x44 x46 fun v48 =>
 ld QU s_8 v48 fun v49 =>
 bx QU v49 fun c_1 =>
 pZ QU c_1 fun c10 =>
 gC Q1 0 c10 fun v52 =>
 lk Q1 Q2 s_8 x8 v52 false fun v53 =>
 nx v53 fun v54 =>
 upd2 Q1 Q2 s_8 x8 v52 v54 fun _ s_9 =>
 gC Q1 0 c10 fun v57 =>
 lk Q1 Q2 s_9 x8 v57 false fun v58 =>
 bn Q2 .gtr v58 (iv 1) fun v59 =>
 condS v59 (
 gC Q2 1 c10 fun v62 =>
 gC Q1 0 c10 fun v64 =>
 ca QK [x0_1, (iv 9), v62, v64] s_9 fun v65 s_10 =>
 gC Qr 2 c10 fun v68 =>
 ca Q0b [x0_1, v68] s_10 fun v69 s_11 =>
 nx x46 fun v70 =>
 ZJ x0_1 x7 x8 x44 x45 v70 s_11) (
 gC Qr 2 c10 fun v68_1 =>
 ca Q0b [x0_1, v68_1] s_9 fun v69_1 s_12 =>
 nx x46 fun v70_1 =>
 ZJ x0_1 x7 x8 x44 x45 v70_1 s_12)) (
 some (.ret x7, s_8)) := by intros; unfold ZJ; exact (Qa _ _ _ _ _ _).trans (by kernel_rfl)
theorem Qb4 (a0 : AV) (a1 : AV) (s : St) : cw (.f ZQ) [a0, a1] s =
 bx Qi (.val a1) fun c3 =>
 gC Qc 0 c3 fun v12 =>
 bn Qc .eql v12 (iv 1) fun v14 =>
 condS v14 (
 gC Qe 5 c3 fun v16 =>
 ln Qe v16 fun v17 =>
 ZI (.val a0) c3 v16 v17 (iv 0) s) (
 bn Qc .eql v12 (iv 2) fun v37 =>
 condS v37 (
 gA Qi c3 fun v39 =>
 ca Zc [v39] s fun v40 s_6 =>
 ca Ze [(.val a0), v40] s_6 fun v41 s_7 =>
 gC Qx 6 c3 fun v44 =>
 ln Qx v44 fun v45 =>
 ZJ (.val a0) v41 (.val (.mp s_7.locs.length)) v44 v45 (iv 0) (St.addLoc s_7 (.map [] 0))) (
 some (.ret (.val (.fn Q0S [])), s))) := (Q5 _ _ _).trans (by kernel_rfl)
noncomputable def Q2p : List Slot → Slot → List Slot → St → Res := fun x5_4 x6_4 x18_2 s => pwD ZB [.seqR, .scope, .seqR, .seqR, .seqR, .seqR, .seqR, .seqR, .seqR, .seqR, .seqR, .seqR, .seqR] Tryz.f26 [(5, .var x5_4), (6, .s x6_4), (18, .var x18_2)] s
noncomputable def Q5j : List Slot → List Slot → Slot → Slot → Slot → Slot → Slot → Slot → List Slot → Slot → List Slot → List Slot → List Slot → Slot → Slot → Slot → St → Res := fun x3_4 x5_5 x6_5 x7_4 x8_4 x9_4 x10_4 x13_3 x16_2 x17_2 x18_3 x20_1 x25 x90_2 x91_2 x92_2 s => pwD ZB [.seqR, .scope, .seqR, .seqR, .seqR, .seqR, .seqR, .seqR, .seqR, .seqR, .seqR, .seqR, .seqL, .seqR, .block, .loop, .seqR, .seqR, .seqL, .block, .seqR, .seqR, .seqR, .seqR, .seqR, .seqR, .seqR, .seqR] Tryz.f26 [(3, .var x3_4), (5, .var x5_5), (6, .s x6_5), (7, .s x7_4), (8, .s x8_4), (9, .s x9_4), (10, .s x10_4), (13, .s x13_3), (16, .var x16_2), (17, .s x17_2), (18, .var x18_3), (20, .var x20_1), (25, .var x25), (90, .s x90_2), (91, .s x91_2), (92, .s x92_2)] s
noncomputable def Q0j : List Slot → List Slot → Slot → Slot → Slot → Slot → Slot → Slot → List Slot → Slot → List Slot → List Slot → Slot → Slot → Slot → Slot → Slot → St → Res := fun x3_3 x5_3 x6_3 x7_3 x8_3 x9_3 x10_3 x13_2 x16_1 x17_1 x18_1 x20 x21 x22 x90_1 x91_1 x92_1 s => pwD ZB [.seqR, .scope, .seqR, .seqR, .seqR, .seqR, .seqR, .seqR, .seqR, .seqR, .seqR, .seqR, .seqL, .seqR, .block, .loop, .seqR, .seqR, .seqL, .block, .seqR, .seqR, .seqR, .seqR] Tryz.f26 [(3, .var x3_3), (5, .var x5_3), (6, .s x6_3), (7, .s x7_3), (8, .s x8_3), (9, .s x9_3), (10, .s x10_3), (13, .s x13_2), (16, .var x16_1), (17, .s x17_1), (18, .var x18_1), (20, .var x20), (21, .s x21), (22, .s x22), (90, .s x90_1), (91, .s x91_1), (92, .s x92_1)] s
noncomputable def Q3j : List Slot → List Slot → Slot → Slot → Slot → Slot → Slot → Slot → List Slot → Slot → List Slot → Slot → Slot → Slot → St → Res := fun x3_2 x5_2 x6_2 x7_2 x8_2 x9_2 x10_2 x13_1 x16 x17 x18 x90 x91 x92 s => lpD ZB [.seqR, .scope, .seqR, .seqR, .seqR, .seqR, .seqR, .seqR, .seqR, .seqR, .seqR, .seqR, .seqL, .seqR, .block] Tryz.f26 [(3, .var x3_2), (5, .var x5_2), (6, .s x6_2), (7, .s x7_2), (8, .s x8_2), (9, .s x9_2), (10, .s x10_2), (13, .s x13_1), (16, .var x16), (17, .s x17), (18, .var x18), (90, .s x90), (91, .s x91), (92, .s x92)] s
noncomputable def Q2o : List Slot → List Slot → Slot → Slot → Slot → Slot → Slot → Slot → St → Res := fun x3_1 x5_1 x6_1 x7_1 x8_1 x9_1 x10_1 x13 s => pwD ZB [.seqR, .scope, .seqR, .seqR, .seqR, .seqR, .seqR, .seqR, .seqR] Tryz.f26 [(3, .var x3_1), (5, .var x5_1), (6, .s x6_1), (7, .s x7_1), (8, .s x8_1), (9, .s x9_1), (10, .s x10_1), (13, .s x13)] s
noncomputable def Q1a : List Slot → List Slot → Slot → Slot → Slot → Slot → Slot → Slot → Slot → Slot → St → Res := fun x3 x5 x6 x7 x8 x9 x10 x34 x35 x36 s => lpD ZB [.seqR, .scope, .seqR, .seqR, .seqR, .seqR, .seqL, .seqR, .block] Tryz.f26 [(3, .var x3), (5, .var x5), (6, .s x6), (7, .s x7), (8, .s x8), (9, .s x9), (10, .s x10), (34, .s x34), (35, .s x35), (36, .s x36)] s
theorem Q8v : ∀ x5_4 x6_4 x18_2 s_10, Q2p x5_4 x6_4 x18_2 s_10 =
 gC Qo 0 x18_2 fun v165 =>
 bn Qo .neq v165 (iv 0) fun v166 =>
 condS v166 (
 gA Q3 x18_2 fun v167 =>
 bx Q3 v167 fun c_5 =>
 pt x5_4 0 c_5 fun c5_1 =>
 rt [(some (.val (.nils))), (ofSlots (C.ti Q3) (List.take (C.ti Q3).size c5_1))] s_10) (
 bd Q3 [] fun v169 =>
 bx Q3 v169 fun c_6 =>
 pt x5_4 0 c_6 fun c5_2 =>
 rt [(some x6_4), (ofSlots (C.ti Q3) (List.take (C.ti Q3).size c5_2))] s_10) := by intros; unfold Q2p; exact (Z8 _).trans (by kernel_rfl)
theorem Q8w : ∀ x3_4 x5_5 x6_5 x7_4 x8_4 x9_4 x10_4 x13_3 x16_2 x17_2 x18_3 x20_1 x25 x90_2 x91_2 x92_2 s_14, Q5j x3_4 x5_5 x6_5 x7_4 x8_4 x9_4 x10_4 x13_3 x16_2 x17_2 x18_3 x20_1 x25 x90_2 x91_2 x92_2 s_14 =
 gC Q1 0 x20_1 fun v149 =>
 gC Qk 2 x20_1 fun v154 =>
 gA Q6 x25 fun v156 =>
 bd ZS [(0, Q2, x17_2), (1, Q6, v156)] fun v157 =>
 bd Q8 [(0, Q1, v149), (1, Q1, x13_3), (2, Q2, x9_4), (3, Q2, x10_4), (4, Qk, v154), (5, ZS, v157)] fun v158 =>
 bs Q8 [v158] fun v159 =>
 ap Q8 s_14 x6_5 v159 fun v160 s_15 =>
 nx x9_4 fun v162 =>
 nx x92_2 fun v163 =>
 Q3j x3_4 x5_5 v160 x7_4 x8_4 v162 x10_4 x13_3 x16_2 x17_2 x18_3 x90_2 x91_2 v163 s_15 := by intros; unfold Q5j; exact (Z8 _).trans (by kernel_rfl)
theorem Q54 : ∀ x3_3 x5_3 x6_3 x7_3 x8_3 x9_3 x10_3 x13_2 x16_1 x17_1 x18_1 x20 x21 x22 x90_1 x91_1 x92_1 s_9, Q0j x3_3 x5_3 x6_3 x7_3 x8_3 x9_3 x10_3 x13_2 x16_1 x17_1 x18_1 x20 x21 x22 x90_1 x91_1 x92_1 s_9 =
 bn Qo .neq x21 (iv 0) fun v128 =>
 condS v128 (
 gC Q2 1 x20 fun v131 =>
 bd Q3 [(0, Qo, x21), (1, Q2, v131), (2, Q1, x22)] fun v133 =>
 bx Q3 v133 fun c_4 =>
 pt x18_1 0 c_4 fun c18 =>
 Q2p x5_3 x6_3 c18 s_9) (
 gC Q1 0 x20 fun v136 =>
 lk Q1 Q2 s_9 x8_3 v136 false fun v137 =>
 nx v137 fun v138 =>
 upd2 Q1 Q2 s_9 x8_3 v136 v138 fun _ s_11 =>
 gA Q6 x16_1 fun v139 =>
 ca QbK [v139, (.val (.nils))] s_11 fun v140 s_12 =>
 bx Q6 v140 fun c_7 =>
 pZ Q6 c_7 fun c25 =>
 gC Qk 2 x20 fun v142 =>
 condS v142 (
 gC Q6 3 x20 fun v144 =>
 gA Q6 x16_1 fun v145 =>
 ca QdH [v144, v145] s_12 fun v146 s_13 =>
 bx Q6 v146 fun c_8 =>
 pt c25 0 c_8 fun c25_1 =>
 Q5j x3_3 x5_3 x6_3 x7_3 x8_3 x9_3 x10_3 x13_2 x16_1 x17_1 x18_1 x20 c25_1 x90_1 x91_1 x92_1 s_13) (
 Q5j x3_3 x5_3 x6_3 x7_3 x8_3 x9_3 x10_3 x13_2 x16_1 x17_1 x18_1 x20 c25 x90_1 x91_1 x92_1 s_12)) := by intros; unfold Q0j; exact (Z8 _).trans (by kernel_rfl)
theorem Q0r : ∀ x3_2 x5_2 x6_2 x7_2 x8_2 x9_2 x10_2 x13_1 x16 x17 x18 x90 x91 x92 s_8, Q3j x3_2 x5_2 x6_2 x7_2 x8_2 x9_2 x10_2 x13_1 x16 x17 x18 x90 x91 x92 s_8 =
 bn Q2 .lss x92 x91 fun v93 =>
 condS v93 (
 ix Z4 x90 x92 fun v94 =>
 ld Z4 s_8 v94 fun v95 =>
 bx Z4 v95 fun c_3 =>
 pZ Z4 c_3 fun c20 =>
 gC Q1 0 c20 fun v97 =>
 gC Q1 0 c20 fun v101 =>
 lk Q1 Q2 s_8 x8_2 v101 false fun v102 =>
 bn Q2 .gtr v102 (iv 0) fun v103 =>
 condS v103 (
 Q0j x3_2 x5_2 x6_2 x7_2 x8_2 x9_2 x10_2 x13_1 x16 x17 x18 c20 (iv 9) v97 x90 x91 x92 s_8) (
 gC Qc 0 x3_2 fun v106 =>
 bn Qc .eql v106 (iv 4) fun v107 =>
 iT v107 fun w_3 =>
 iT v107 fun w_4 =>
 gB w_4 Q2 .gtr (gdV w_3 x9_2) (iv 1023) fun v110 =>
 pk v107 v110 (bv false) fun v111 =>
 condS v111 (
 Q0j x3_2 x5_2 x6_2 x7_2 x8_2 x9_2 x10_2 x13_1 x16 x17 x18 c20 (iv 19) v97 x90 x91 x92 s_8) (
 gC Qk 2 c20 fun v114 =>
 condS v114 (
 gC Q6 3 c20 fun v119 =>
 ca Q6E [x7_2, x17, v119] s_8 fun v120 s_16 =>
 ex v120 0 fun v121 =>
 ex v120 1 fun v122 =>
 bn Qo .neq v121 (iv 0) fun v124 =>
 condS v124 (
 Q0j x3_2 x5_2 x6_2 x7_2 x8_2 x9_2 x10_2 x13_1 x16 x17 x18 c20 v121 v122 x90 x91 x92 s_16) (
 Q0j x3_2 x5_2 x6_2 x7_2 x8_2 x9_2 x10_2 x13_1 x16 x17 x18 c20 (iv 0) v97 x90 x91 x92 s_16)) (
 Q0j x3_2 x5_2 x6_2 x7_2 x8_2 x9_2 x10_2 x13_1 x16 x17 x18 c20 (iv 0) v97 x90 x91 x92 s_8)))) (
 Q2p x5_2 x6_2 x18 s_8) := by intros; unfold Q3j; exact (Qa _ _ _ _ _ _).trans (by kernel_rfl)
theorem QdU : ∀ x3_1 x5_1 x6_1 x7_1 x8_1 x9_1 x10_1 x13 s_6, Q2o x3_1 x5_1 x6_1 x7_1 x8_1 x9_1 x10_1 x13 s_6 =
 gA Qi x3_1 fun v85 =>
 ca Q3f [v85] s_6 fun v86 s_7 =>
 ex v86 0 fun v87 =>
 ex v86 1 fun v88 =>
 bx Q6 v87 fun c_2 =>
 pZ Q6 c_2 fun c16 =>
 gC Qv 4 x3_1 fun v90 =>
 ln Qv v90 fun v91 =>
 Q3j x3_1 x5_1 x6_1 x7_1 x8_1 x9_1 x10_1 x13 c16 v88 ((List.map .val (C.ti Q3).zero)) v90 v91 (iv 0) s_7 := by intros; unfold Q2o; exact (Z8 _).trans (by kernel_rfl)
theorem Q8x : ∀ x3 x5 x6 x7 x8 x9 x10 x34 x35 x36 s_3, Q1a x3 x5 x6 x7 x8 x9 x10 x34 x35 x36 s_3 =
 bn Q2 .lss x36 x35 fun v37 =>
 condS v37 (
 ix Q8 x34 x36 fun v38 =>
 ld Q8 s_3 v38 fun v39 =>
 bx Q8 v39 fun c =>
 pZ Q8 c fun c12 =>
 gC Q1 0 c12 fun v42 =>
 lk Q1 Q2 s_3 x8 v42 false fun v43 =>
 nx v43 fun v44 =>
 upd2 Q1 Q2 s_3 x8 v42 v44 fun _ s_4 =>
 gC Qc 0 x3 fun v46 =>
 bn Qc .eql v46 (iv 4) fun v47 =>
 iT v47 fun w =>
 iT v47 fun w_1 =>
 gG w_1 w Q1 1 c12 fun v50 =>
 iT v47 fun w_2 =>
 gB w_2 Q1 .eql v50 (sv [101, 120, 110]) fun v51 =>
 pk v47 v51 (bv false) fun v52 =>
 condS v52 (
 nx x9 fun v54 =>
 nx x36 fun v55 =>
 Q1a x3 x5 x6 x7 x8 v54 x10 x34 x35 v55 s_4) (
 nx x36 fun v55_1 =>
 Q1a x3 x5 x6 x7 x8 x9 x10 x34 x35 v55_1 s_4)) (
 gC Q1 2 x3 fun v57 =>
 gC Qc 0 x3 fun v59 =>
 bn Qc .eql v59 (iv 3) fun v63 =>
 condS v63 (
 gC Q1 2 x3 fun v67 =>
 lk Q1 Q2 s_3 x7 v67 true fun v68 =>
 ex v68 0 fun v69 =>
 ex v68 1 fun v70 =>
 condS v70 (
 gC Q2 1 x3 fun v73 =>
 gC Q1 2 x3 fun v75 =>
 bd Q3 [(0, Qo, (iv 9)), (1, Q2, v73), (2, Q1, v75)] fun v76 =>
 bx Q3 v76 fun c_1 =>
 pt x5 0 c_1 fun c5 =>
 rt [(some (.val (.nils))), (ofSlots (C.ti Q3) (List.take (C.ti Q3).size c5))] s_3) (
 gC Q1 2 x3 fun v79 =>
 gC Q2 3 x3 fun v81 =>
 upd2 Q1 Q2 s_3 x7 v79 v81 fun _ s_5 =>
 Q2o x3 x5 x6 x7 x8 x9 x10 v57 s_5)) (
 bn Qc .eql v59 (iv 4) fun v83 =>
 condS v83 (
 Q2o x3 x5 x6 x7 x8 x9 (iv 0) (sv [101, 120, 110]) s_3) (
 bd Q3 [] fun v61 =>
 bx Q3 v61 fun c_9 =>
 pt x5 0 c_9 fun c5_3 =>
 rt [(some x6), (ofSlots (C.ti Q3) (List.take (C.ti Q3).size c5_3))] s_3))) := by intros; unfold Q1a; exact (Qa _ _ _ _ _ _).trans (by kernel_rfl)
theorem Qhz (a0 : AV) (a1 : AV) (s : St) : cw (.f ZB) [a0, a1] s =
 bx Qi (.val a1) fun c3 =>
 ca Q3x [(.val a0)] s fun v27 s_1 =>
 ca Q3U [(.val a0)] s_1 fun v29 s_2 =>
 gC Qv 4 c3 fun v32 =>
 ln Qv v32 fun v33 =>
 ln Z5 (.val a0) fun v35 =>
 Q1a c3 ((List.map .val (C.ti Q3).zero)) v27 v29 (.val (.mp s_2.locs.length)) (iv 0) v33 (.val a0) v35 (iv 0) (St.addLoc s_2 (.map [] 0)) := (Q5 _ _ _).trans (by kernel_rfl)
theorem QfF (a0 : AV) (s : St) : cw (.f QQ) [a0] s =
 bx Q3 (.val a0) fun c1 =>
 gC Qo 0 c1 fun v4 =>
 bn Qo .eql v4 (iv 0) fun v5 =>
 some (.ret v5, s) := (Q5 _ _ _).trans (by kernel_rfl)
noncomputable def Q3o : Slot → List Slot → Slot → Slot → St → Res := fun x0 x3 x4 x5 s => lpD Q6q [.seqR, .seqR, .seqL, .seqR, .block] Tryz.f28 [(0, .s x0), (3, .var x3), (4, .s x4), (5, .s x5)] s
theorem Q8M : ∀ x0 x3 x4 x5 s_2, Q3o x0 x3 x4 x5 s_2 =
 ln Qs x0 fun v11 =>
 bn Q2 .lss x5 v11 fun v12 =>
 condS v12 (
 ix Qi x0 x5 fun v19 =>
 ld Qi s_2 v19 fun v20 =>
 ca Zy [x4, v20] s_2 fun v21 s_3 =>
 ex v21 0 fun v22 =>
 ex v21 1 fun v23 =>
 bx Q3 v23 fun c =>
 pZ Q3 c fun c7 =>
 gC Qo 0 c7 fun v25 =>
 bn Qo .neq v25 (iv 0) fun v26 =>
 condS v26 (
 gA Q3 c7 fun v27 =>
 bx Q3 v27 fun c_1 =>
 pt x3 0 c_1 fun c3 =>
 rt [(some (.val (.nils))), (ofSlots (C.ti Q3) (List.take (C.ti Q3).size c3))] s_3) (
 nx x5 fun v14 =>
 Q3o x0 x3 v22 v14 s_3)) (
 bd Q3 [] fun v30 =>
 bx Q3 v30 fun c_2 =>
 pt x3 0 c_2 fun c3_1 =>
 rt [(some x4), (ofSlots (C.ti Q3) (List.take (C.ti Q3).size c3_1))] s_2) := by intros; unfold Q3o; exact (Qa _ _ _ _ _ _).trans (by kernel_rfl)
theorem QhP (a0 : AV) (s : St) : cw (.f Q6q) [a0] s =
 ca Q27 [] s fun v8 s_1 =>
 Q3o (.val a0) ((List.map .val (C.ti Q3).zero)) v8 (iv 0) s_1 := (Q5 _ _ _).trans (by kernel_rfl)
noncomputable def Q1E : Slot → Slot → Slot → Slot → Slot → Slot → St → Res := fun x1 x2 x3 x4 x5 x6 s => lpD Q27 [.seqR, .seqR, .seqR, .seqR, .seqR, .seqR, .seqL, .seqR, .block] Tryz.f29 [(1, .s x1), (2, .s x2), (3, .s x3), (4, .s x4), (5, .s x5), (6, .s x6)] s
theorem Q68 : ∀ x1 x2 x3 x4 x5 x6 s_1, Q1E x1 x2 x3 x4 x5 x6 s_1 =
 bn Q2 .lss x6 (iv 6) fun v12 =>
 condS v12 (
 ix Q1 x1 x6 fun v18 =>
 bind1 (ldV (C.ti Q1) true s_1 v18) fun v19 =>
 ix Q1 x2 x6 fun v22 =>
 bind1 (ldV (C.ti Q1) true s_1 v22) fun v23 =>
 ix Q2 x3 x6 fun v26 =>
 bind1 (ldV (C.ti Q2) true s_1 v26) fun v27 =>
 ix Q2 x4 x6 fun v30 =>
 bind1 (ldV (C.ti Q2) true s_1 v30) fun v31 =>
 ix Q1 x2 x6 fun v34 =>
 bind1 (ldV (C.ti Q1) true s_1 v34) fun v35 =>
 cn Q3B [v35] s_1 fun v36 s_2 =>
 bd ZS [(1, Q6, v36)] fun v37 =>
 bd Q8 [(0, Q1, v19), (1, Q1, v23), (2, Q2, v27), (3, Q2, v31), (5, ZS, v37)] fun v38 =>
 bs Q8 [v38] fun v39 =>
 ap Q8 s_2 x5 v39 fun v40 s_3 =>
 nx x6 fun v14 =>
 Q1E x1 x2 x3 x4 v40 v14 s_3) (
 some (.ret x5, s_1)) := by intros; unfold Q1E; exact (Qa _ _ _ _ _ _).trans (by kernel_rfl)
theorem Qeo (s : St) : cw (.f Q27) [] s =
 bs Q1 [(sv [40, 41]), (sv [102, 97, 108, 115, 101]), (sv [116, 114, 117, 101]), (sv [68, 105, 118]), (sv [69, 111, 102]), (sv [77, 97, 116, 99, 104])] fun v7 =>
 bs Q1 [(sv [117, 110, 105, 116]), (sv [98, 111, 111, 108]), (sv [98, 111, 111, 108]), (sv [101, 120, 110]), (sv [101, 120, 110]), (sv [101, 120, 110])] fun v8 =>
 bs Q2 [(iv 0), (iv 0), (iv 1), (iv 0), (iv 1), (iv 2)] fun v9 =>
 bs Q2 [(iv 1), (iv 2), (iv 2), (iv 0), (iv 0), (iv 0)] fun v10 =>
 Q1E v7 v8 v9 v10 (.val (.nils)) (iv 0) s := (Q5 _ _ _).trans (by kernel_rfl)
noncomputable def Q2Q : Slot → Slot → List Slot → List Slot → Slot → Slot → St → Res := fun x0 x2 x4 x6 x9 x10 s => lpD Q3g [.seqR, .seqR, .seqR, .seqL, .seqR, .block] Tryz.f30 [(0, .s x0), (2, .s x2), (4, .var x4), (6, .var x6), (9, .s x9), (10, .s x10)] s
theorem Q7T : ∀ x0 x2 x4 x6 x9 x10 s_5, Q2Q x0 x2 x4 x6 x9 x10 s_5 =
 gC Qx 6 x4 fun v42 =>
 ln Qx v42 fun v43 =>
 bn Q2 .lss x10 v43 fun v44 =>
 condS v44 (
 gC Qx 6 x4 fun v48 =>
 ix QU v48 x10 fun v50 =>
 ld QU s_5 v50 fun v51 =>
 bx QU v51 fun c_3 =>
 pZ QU c_3 fun c11 =>
 bind1 (sliceS (C.ti Qf) (C.ti Q1).size x9 none (some x10) none) fun v54 =>
 gC Q1 0 c11 fun v56 =>
 cn Q2Y [v54, v56] s_5 fun v57 s_6 =>
 condS v57 (
 gC Q2 1 c11 fun v59 =>
 gC Q1 0 c11 fun v61 =>
 bd Q3 [(0, Qo, (iv 9)), (1, Q2, v59), (2, Q1, v61)] fun v62 =>
 bx Q3 v62 fun c_4 =>
 pt x6 0 c_4 fun c6_2 =>
 gA Q3 c6_2 fun v => some (.ret v, s_6)) (
 gC Qr 2 c11 fun v65 =>
 cn Q1W [x2, x9] s_6 fun v68 s_7 =>
 cn Q5i [x0, v65, v68] s_7 fun v69 s_8 =>
 bx Q3 v69 fun c_5 =>
 pZ Q3 c_5 fun c12 =>
 gA Q3 c12 fun v70 =>
 ca QQ [v70] s_8 fun v71 s_9 =>
 nt v71 fun v72 =>
 condS v72 (
 gA Q3 c12 fun v73 =>
 bx Q3 v73 fun c_6 =>
 pt x6 0 c_6 fun c6_3 =>
 gA Q3 c6_3 fun v => some (.ret v, s_9)) (
 nx x10 fun v46 =>
 Q2Q x0 x2 x4 x6 x9 v46 s_9))) (
 bd Q3 [] fun v74 =>
 bx Q3 v74 fun c_7 =>
 pt x6 0 c_7 fun c6_4 =>
 gA Q3 c6_4 fun v => some (.ret v, s_5)) := by intros; unfold Q2Q; exact (Qa _ _ _ _ _ _).trans (by kernel_rfl)
theorem Qav (a0 : AV) (a1 : AV) (a2 : AV) (s : St) : cw (.f Q3g) [a0, a1, a2] s =
 bx Qi (.val a1) fun c4 =>
 gC Qc 0 c4 fun v14 =>
 bn Qc .eql v14 (iv 1) fun v15 =>
 condS v15 (
 gC Qe 5 c4 fun v19 =>
 ix Qr v19 (iv 0) fun v20 =>
 fa 0 v20 fun v21 =>
 ld Qp s v21 fun v22 =>
 ca Q0i [(.val a0), v22, (.val (.nils))] s fun v23 s_1 =>
 ex v23 0 fun v24 =>
 ex v23 1 fun v25 =>
 bx Q3 v24 fun c =>
 pZ Q3 c fun c7 =>
 gA Q3 c7 fun v26 =>
 ca QQ [v26] s_1 fun v27 s_2 =>
 nt v27 fun v28 =>
 condS v28 (
 gA Q3 c7 fun v29 =>
 bx Q3 v29 fun c_1 =>
 pZ Q3 c_1 fun c6 =>
 gA Q3 c6 fun v => some (.ret v, s_2)) (
 gC Qe 5 c4 fun v32 =>
 ix Qr v32 (iv 0) fun v33 =>
 fa 5 v33 fun v34 =>
 ld Qn s_2 v34 fun v35 =>
 ca Zz [(.val a0), v35, (.val a2)] s_2 fun v37 s_3 =>
 bx Q3 v37 fun c_2 =>
 pZ Q3 c_2 fun c6_1 =>
 gA Q3 c6_1 fun v => some (.ret v, s_3))) (
 gA Qi c4 fun v38 =>
 ca Q07 [v38] s fun v39 s_4 =>
 Q2Q (.val a0) (.val a2) c4 ((List.map .val (C.ti Q3).zero)) v39 (iv 0) s_4) := (Q5 _ _ _).trans (by kernel_rfl)
theorem QhR (a0 : AV) (a1 : AV) (s : St) : cw (.f Q1W) [a0, a1] s =
 bs Q1 [] fun v5 =>
 ap Q1 s v5 (.val a0) fun v7 s_1 =>
 ap Q1 s_1 v7 (.val a1) fun v9 s_2 =>
 some (.ret v9, s_2) := (Q5 _ _ _).trans (by kernel_rfl)
noncomputable def Q0w : List Slot → Slot → Slot → St → Res := fun x1_1 x3_1 x4 s => lpD Q07 [.seqR, .seqR, .seqR, .seqL, .seqR, .block] Tryz.f32 [(1, .var x1_1), (3, .s x3_1), (4, .s x4)] s
noncomputable def Q0v : List Slot → Slot → St → Res := fun x1 x3 s => pwD Q07 [.seqR, .seqR, .seqR] Tryz.f32 [(1, .var x1), (3, .s x3)] s
theorem Q3d : ∀ x1_1 x3_1 x4 s_3, Q0w x1_1 x3_1 x4 s_3 =
 gC Qc 0 x1_1 fun v22 =>
 bn Qc .eql v22 (iv 2) fun v23 =>
 iT v23 fun w_4 =>
 iT v23 fun w_5 =>
 iT v23 fun w_6 =>
 gG w_6 w_5 Qx 6 x1_1 fun v27 =>
 iT v23 fun w_7 =>
 gL w_7 Qx v27 fun v28 =>
 iT v23 fun w_8 =>
 gB w_8 Q2 .lss (gdV w_4 x4) v28 fun v29 =>
 pk v23 v29 (bv false) fun v30 =>
 condS v30 (
 gC Qx 6 x1_1 fun v35 =>
 ix QU v35 x4 fun v37 =>
 fa 0 v37 fun v38 =>
 ld Q1 s_3 v38 fun v39 =>
 bs Q1 [v39] fun v40 =>
 ap Q1 s_3 x3_1 v40 fun v41 s_4 =>
 nx x4 fun v32 =>
 Q0w x1_1 v41 v32 s_4) (
 some (.ret x3_1, s_3)) := by intros; unfold Q0w; exact (Qa _ _ _ _ _ _).trans (by kernel_rfl)
theorem Q6c : ∀ x1 x3 s_2, Q0v x1 x3 s_2 =
 Q0w x1 x3 (iv 0) s_2 := by intros; unfold Q0v; exact (Z8 _).trans (by kernel_rfl)
theorem Qes (a0 : AV) (s : St) : cw (.f Q07) [a0] s =
 bx Qi (.val a0) fun c1 =>
 bs Q1 [] fun v5 =>
 gC Qc 0 c1 fun v7 =>
 bn Qc .eql v7 (iv 1) fun v8 =>
 iT v8 fun w =>
 iT v8 fun w_1 =>
 gG w_1 w Qe 5 c1 fun v11 =>
 iT v8 fun w_2 =>
 gL w_2 Qe v11 fun v12 =>
 iT v8 fun w_3 =>
 gB w_3 Q2 .eql v12 (iv 1) fun v13 =>
 pk v8 v13 (bv false) fun v14 =>
 condS v14 (
 gC Qe 5 c1 fun v16 =>
 ix Qr v16 (iv 0) fun v17 =>
 fa 0 v17 fun v18 =>
 ld Qp s v18 fun v19 =>
 ca Q0y [v19] s fun v20 s_1 =>
 Q0v c1 v20 s_1) (
 Q0v c1 v5 s) := (Q5 _ _ _).trans (by kernel_rfl)
noncomputable def Q2O : Slot → List Slot → List Slot → Slot → Slot → List Slot → List Slot → St → Res := fun x0_5 x3_5 x5_5 x8_4 x9_4 x13_3 x14_3 s => pwD Zy [.seqR, .seqR, .seqR, .seqR, .seqL, .seqR, .block, .loop, .seqR, .seqL, .block, .seqR, .seqR, .seqR, .seqR, .seqR, .seqR, .seqR] Tryz.f33 [(0, .s x0_5), (3, .var x3_5), (5, .var x5_5), (8, .s x8_4), (9, .s x9_4), (13, .var x13_3), (14, .var x14_3)] s
noncomputable def Q0G : Slot → List Slot → List Slot → Slot → Slot → List Slot → List Slot → List Slot → Slot → Slot → St → Res := fun x0_4 x3_4 x5_4 x8_3 x9_3 x10_2 x13_2 x14_2 x16 x17 s => lpD Zy [.seqR, .seqR, .seqR, .seqR, .seqL, .seqR, .block, .loop, .seqR, .seqL, .block, .seqR, .seqR, .seqR, .seqR, .seqR, .seqR, .seqL, .seqR, .thn, .seqR, .seqL, .seqR, .block] Tryz.f33 [(0, .s x0_4), (3, .var x3_4), (5, .var x5_4), (8, .s x8_3), (9, .s x9_3), (10, .var x10_2), (13, .var x13_2), (14, .var x14_2), (16, .s x16), (17, .s x17)] s
noncomputable def Q1D : Slot → List Slot → List Slot → Slot → Slot → List Slot → List Slot → List Slot → St → Res := fun x0_3 x3_3 x5_3 x8_2 x9_2 x10_1 x13_1 x14_1 s => pwD Zy [.seqR, .seqR, .seqR, .seqR, .seqL, .seqR, .block, .loop, .seqR, .seqL, .block, .seqR, .seqR, .seqR, .seqR, .seqR, .seqR] Tryz.f33 [(0, .s x0_3), (3, .var x3_3), (5, .var x5_3), (8, .s x8_2), (9, .s x9_2), (10, .var x10_1), (13, .var x13_1), (14, .var x14_1)] s
noncomputable def Q0F : Slot → List Slot → List Slot → Slot → Slot → List Slot → List Slot → List Slot → Slot → St → Res := fun x0_2 x3_2 x5_2 x8_1 x9_1 x10 x13 x14 x15 s => lpD Zy [.seqR, .seqR, .seqR, .seqR, .seqL, .seqR, .block, .loop, .seqR, .seqL, .block, .seqR, .seqR, .seqR, .seqR, .seqL, .seqR, .block] Tryz.f33 [(0, .s x0_2), (3, .var x3_2), (5, .var x5_2), (8, .s x8_1), (9, .s x9_1), (10, .var x10), (13, .var x13), (14, .var x14), (15, .s x15)] s
noncomputable def Q2P : Slot → List Slot → List Slot → Slot → Slot → St → Res := fun x0_1 x3_1 x5_1 x8 x9 s => lpD Zy [.seqR, .seqR, .seqR, .seqR, .seqL, .seqR, .block] Tryz.f33 [(0, .s x0_1), (3, .var x3_1), (5, .var x5_1), (8, .s x8), (9, .s x9)] s
noncomputable def Q1C : Slot → List Slot → List Slot → St → Res := fun x0 x3 x5 s => pwD Zy [.seqR, .seqR, .seqR] Tryz.f33 [(0, .s x0), (3, .var x3), (5, .var x5)] s
theorem Qd8 : ∀ x0_5 x3_5 x5_5 x8_4 x9_4 x13_3 x14_3 s_17, Q2O x0_5 x3_5 x5_5 x8_4 x9_4 x13_3 x14_3 s_17 =
 gA Q6 x14_3 fun v167 =>
 bx Q6 v167 fun c_16 =>
 pt x13_3 6 c_16 fun c13_5 =>
 gA Q8 c13_5 fun v171 =>
 bs Q8 [v171] fun v172 =>
 ap Q8 s_17 x8_4 v172 fun v173 s_18 =>
 nx x9_4 fun v60 =>
 Q2P x0_5 x3_5 x5_5 v173 v60 s_18 := by intros; unfold Q2O; exact (Z8 _).trans (by kernel_rfl)
theorem Q4i : ∀ x0_4 x3_4 x5_4 x8_3 x9_3 x10_2 x13_2 x14_2 x16 x17 s_14, Q0G x0_4 x3_4 x5_4 x8_3 x9_3 x10_2 x13_2 x14_2 x16 x17 s_14 =
 ln Zx x16 fun v141 =>
 bn Q2 .lss x17 v141 fun v142 =>
 condS v142 (
 gA Qi x3_4 fun v147 =>
 ix Qd x16 x17 fun v150 =>
 fa 22 v150 fun v151 =>
 ld Q6 s_14 v151 fun v152 =>
 cn Q3C [x0_4, v147, v152] s_14 fun v153 s_15 =>
 ex v153 0 fun v154 =>
 ex v153 1 fun v155 =>
 bn Qo .neq v154 (iv 0) fun v157 =>
 condS v157 (
 gC Q2 1 x10_2 fun v160 =>
 bd Q3 [(0, Qo, v154), (1, Q2, v160), (2, Q1, v155)] fun v162 =>
 bx Q3 v162 fun c_14 =>
 pt x5_4 0 c_14 fun c5_4 =>
 rt [(some (.val (.nils))), (ofSlots (C.ti Q3) (List.take (C.ti Q3).size c5_4))] s_15) (
 nx x17 fun v144 =>
 Q0G x0_4 x3_4 x5_4 x8_3 x9_3 x10_2 x13_2 x14_2 x16 v144 s_15)) (
 gC Q6 3 x10_2 fun v164 =>
 gA Q6 x14_2 fun v165 =>
 ca Q92 [v164, v165] s_14 fun v166 s_16 =>
 bx Q6 v166 fun c_15 =>
 pt x14_2 0 c_15 fun c14_3 =>
 Q2O x0_4 x3_4 x5_4 x8_3 x9_3 x13_2 c14_3 s_16) := by intros; unfold Q0G; exact (Qa _ _ _ _ _ _).trans (by kernel_rfl)
theorem Q7M : ∀ x0_3 x3_3 x5_3 x8_2 x9_2 x10_1 x13_1 x14_1 s_12, Q1D x0_3 x3_3 x5_3 x8_2 x9_2 x10_1 x13_1 x14_1 s_12 =
 gC Qk 2 x10_1 fun v135 =>
 condS v135 (
 gC Q6 3 x10_1 fun v137 =>
 ca ZX [v137, (iv 0)] s_12 fun v138 s_13 =>
 Q0G x0_3 x3_3 x5_3 x8_2 x9_2 x10_1 x13_1 x14_1 v138 (iv 0) s_13) (
 Q2O x0_3 x3_3 x5_3 x8_2 x9_2 x13_1 x14_1 s_12) := by intros; unfold Q1D; exact (Z8 _).trans (by kernel_rfl)
theorem Q2B : ∀ x0_2 x3_2 x5_2 x8_1 x9_1 x10 x13 x14 x15 s_8, Q0F x0_2 x3_2 x5_2 x8_1 x9_1 x10 x13 x14 x15 s_8 =
 gC Q2 3 x3_2 fun v98 =>
 bn Q2 .lss x15 v98 fun v99 =>
 iT v99 fun w_6 =>
 iT v99 fun w_7 =>
 gG w_7 w_6 Qc 0 x3_2 fun v102 =>
 iT v99 fun w_8 =>
 gB w_8 Qc .eql v102 (iv 3) fun v103 =>
 pk v99 v103 (bv false) fun v104 =>
 condS v104 (
 gC Qj 3 x14 fun v108 =>
 bd Q6 [(0, Qm, (iv 1)), (1, Q2, x15)] fun v110 =>
 bs Q6 [v110] fun v111 =>
 ap Q6 s_8 v108 v111 fun v112 s_9 =>
 bx Qj v112 fun c_7 =>
 pt x14 3 c_7 fun c14_1 =>
 nx x15 fun v106 =>
 Q0F x0_2 x3_2 x5_2 x8_1 x9_1 x10 x13 c14_1 v106 s_9) (
 gC Qc 0 x3_2 fun v115 =>
 bn Qc .eql v115 (iv 4) fun v116 =>
 condS v116 (
 ca Q3B [(sv [101, 120, 110])] s_8 fun v117 s_10 =>
 bx Q6 v117 fun c_8 =>
 pt x14 0 c_8 fun c14_2 =>
 bx Q1 (sv [101, 120, 110]) fun c_9 =>
 pt x13 1 c_9 fun c13_1 =>
 ca Q2C [x0_2, (sv [101, 120, 110])] s_10 fun v120 s_11 =>
 ln Q2H v120 fun v121 =>
 bx Q2 v121 fun c_10 =>
 pt c13_1 2 c_10 fun c13_2 =>
 bx Q2 (iv 0) fun c_11 =>
 pt c13_2 3 c_11 fun c13_3 =>
 bx Q2 (iv 0) fun c_12 =>
 pt c13_3 5 c_12 fun c13_4 =>
 gC Q2 2 c13_4 fun v127 =>
 bn Q2 .gtr v127 (iv 1023) fun v128 =>
 condS v128 (
 gC Q2 1 x10 fun v130 =>
 gC Q1 0 x10 fun v132 =>
 bd Q3 [(0, Qo, (iv 19)), (1, Q2, v130), (2, Q1, v132)] fun v133 =>
 bx Q3 v133 fun c_13 =>
 pt x5_2 0 c_13 fun c5_3 =>
 rt [(some (.val (.nils))), (ofSlots (C.ti Q3) (List.take (C.ti Q3).size c5_3))] s_11) (
 Q1D x0_2 x3_2 x5_2 x8_1 x9_1 x10 c13_4 c14_2 s_11)) (
 Q1D x0_2 x3_2 x5_2 x8_1 x9_1 x10 x13 x14 s_8)) := by intros; unfold Q0F; exact (Qa _ _ _ _ _ _).trans (by kernel_rfl)
theorem Q4h : ∀ x0_1 x3_1 x5_1 x8 x9 s_6, Q2P x0_1 x3_1 x5_1 x8 x9 s_6 =
 gC Qv 4 x3_1 fun v56 =>
 ln Qv v56 fun v57 =>
 bn Q2 .lss x9 v57 fun v58 =>
 condS v58 (
 gC Qv 4 x3_1 fun v62 =>
 ix Z4 v62 x9 fun v64 =>
 ld Z4 s_6 v64 fun v65 =>
 bx Z4 v65 fun c_2 =>
 pZ Z4 c_2 fun c10 =>
 gC Q1 0 c10 fun v69 =>
 ca Q2D [x8, v69] s_6 fun v70 s_7 =>
 ex v70 0 fun v71 =>
 ex v70 1 fun v72 =>
 bx Q8 v71 fun c_3 =>
 pZ Q8 c_3 fun c11 =>
 condS v72 (
 gC Q2 1 c10 fun v75 =>
 gC Q1 0 c10 fun v77 =>
 bd Q3 [(0, Qo, (iv 9)), (1, Q2, v75), (2, Q1, v77)] fun v78 =>
 bx Q3 v78 fun c_4 =>
 pt x5_1 0 c_4 fun c5_2 =>
 rt [(some (.val (.nils))), (ofSlots (C.ti Q3) (List.take (C.ti Q3).size c5_2))] s_7) (
 gC Q1 0 c10 fun v80 =>
 gC Q1 2 x3_1 fun v82 =>
 gC Qv 4 x3_1 fun v85 =>
 ln Qv v85 fun v86 =>
 gC Qk 2 c10 fun v88 =>
 gC Q2 3 x3_1 fun v90 =>
 bd ZS [(0, Q2, v90)] fun v91 =>
 bd Q8 [(0, Q1, v80), (1, Q1, v82), (2, Q2, x9), (3, Q2, v86), (4, Qk, v88), (5, ZS, v91)] fun v92 =>
 bx Q8 v92 fun c_5 =>
 pZ Q8 c_5 fun c13 =>
 gC Q1 2 x3_1 fun v94 =>
 bd Q6 [(0, Qm, (iv 2)), (2, Q1, v94)] fun v95 =>
 bx Q6 v95 fun c_6 =>
 pZ Q6 c_6 fun c14 =>
 Q0F x0_1 x3_1 x5_1 x8 x9 c10 c13 c14 (iv 0) s_7)) (
 bd Q3 [] fun v175 =>
 bx Q3 v175 fun c_17 =>
 pt x5_1 0 c_17 fun c5_5 =>
 rt [(some x8), (ofSlots (C.ti Q3) (List.take (C.ti Q3).size c5_5))] s_6) := by intros; unfold Q2P; exact (Qa _ _ _ _ _ _).trans (by kernel_rfl)
theorem Qd7 : ∀ x0 x3 x5 s_4, Q1C x0 x3 x5 s_4 =
 ca Q1j [x0] s_4 fun v53 s_5 =>
 Q2P x0 x3 x5 v53 (iv 0) s_5 := by intros; unfold Q1C; exact (Z8 _).trans (by kernel_rfl)
theorem QgU (a0 : AV) (a1 : AV) (s : St) : cw (.f Zy) [a0, a1] s =
 bx Qi (.val a1) fun c3 =>
 gC Qc 0 c3 fun v21 =>
 bn Qc .neq v21 (iv 3) fun v22 =>
 iT v22 fun w =>
 iT v22 fun w_1 =>
 gG w_1 w Qc 0 c3 fun v25 =>
 iT v22 fun w_2 =>
 gB w_2 Qc .neq v25 (iv 4) fun v26 =>
 pk v22 v26 (bv false) fun v27 =>
 condS v27 (
 ca Q1j [(.val a0)] s fun v29 s_1 =>
 bd Q3 [] fun v30 =>
 bx Q3 v30 fun c =>
 pZ Q3 c fun c5 =>
 rt [(some v29), (ofSlots (C.ti Q3) (List.take (C.ti Q3).size c5))] s_1) (
 gC Qc 0 c3 fun v32 =>
 bn Qc .eql v32 (iv 3) fun v33 =>
 condS v33 (
 gC Q1 2 c3 fun v37 =>
 ca Q1V [(.val a0), v37] s fun v38 s_2 =>
 ex v38 0 fun v39 =>
 ex v38 1 fun v40 =>
 iF v40 fun w_3 =>
 iF v40 fun w_4 =>
 gG w_4 w_3 Q1 2 c3 fun v44 =>
 iF v40 fun w_5 =>
 cg w_5 Q28 [v44] s_2 fun v45 s_3 =>
 pk v40 (bv true) v45 fun v46 =>
 condS v46 (
 gC Q2 1 c3 fun v48 =>
 gC Q1 2 c3 fun v50 =>
 bd Q3 [(0, Qo, (iv 9)), (1, Q2, v48), (2, Q1, v50)] fun v51 =>
 bx Q3 v51 fun c_1 =>
 pZ Q3 c_1 fun c5_1 =>
 rt [(some (.val (.nils))), (ofSlots (C.ti Q3) (List.take (C.ti Q3).size c5_1))] s_3) (
 Q1C (.val a0) c3 ((List.map .val (C.ti Q3).zero)) s_3)) (
 Q1C (.val a0) c3 ((List.map .val (C.ti Q3).zero)) s)) := (Q5 _ _ _).trans (by kernel_rfl)
theorem Qcf (a0 : AV) (s : St) : cw (.f Q3Z) [a0] s =
 bx Qn (.val a0) fun c1 =>
 bindA (avs c1) fun l1 =>
 ld Qn s (.val (.cp l1)) fun v3 =>
 ca Q3a [v3] s fun v4 s_1 =>
 bind1 (fnS Q39 [(.val (.cp l1))]) fun v5 =>
 ca Q2G [v4, v5] s_1 fun v6 s_2 =>
 bx Q3 v6 fun c =>
 pZ Q3 c fun c2 =>
 gA Q3 c2 fun v => some (.ret v, s_2) := (Q5 _ _ _).trans (by kernel_rfl)
theorem Q7Y (a0 : AV) (a1 : AV) (a2 : AV) (s : St) : cw (.f Q0o) [a0, a1, a2] s =
 ld Qf s (.val a2) fun v5 =>
 ca QX [v5, (.val a0)] s fun v7 s_1 =>
 nt v7 fun v8 =>
 condS v8 (
 ld Qf s_1 (.val a2) fun v9 =>
 bs Q1 [(.val a0)] fun v11 =>
 ap Q1 s_1 v9 v11 fun v12 s_2 =>
 bx Qf v12 fun c =>
 sto s_2 (.val a2) c fun s_3 =>
 rt [] s_3) (
 rt [] s_1) := (Q5 _ _ _).trans (by kernel_rfl)
theorem Q3r (a0 : AV) (a1 : AV) (s : St) : cw (.f QX) [a0, a1] s =
 ca Z7 [(.val a0), (.val a1)] s fun v7 s_1 =>
 bn Q2 .geq v7 (iv 0) fun v8 =>
 some (.ret v8, s_1) := (Q5 _ _ _).trans (by kernel_rfl)
theorem Qdh (a0 : AV) (a1 : AV) (a2 : AV) (s : St) : cw (.f Q1k) [a0, a1, a2] s =
 rt [] s := (Q5 _ _ _).trans (by kernel_rfl)
noncomputable def ZK : Slot → Slot → Slot → St → Res := fun x88 x89 x90 s => lpD QD [.seqR, .seqR, .seqR, .seqR, .seqR, .seqR, .seqR, .seqR, .block] Tryz.f38 [(88, .s x88), (89, .s x89), (90, .s x90)] s
noncomputable def Z2 : Slot → Slot → Slot → Slot → Slot → St → Res := fun x0_3 x4_2 x78 x79 x80 s => lpD QD [.seqR, .seqR, .seqR, .seqR, .seqR, .seqR, .seqL, .seqR, .block] Tryz.f38 [(0, .s x0_3), (4, .s x4_2), (78, .s x78), (79, .s x79), (80, .s x80)] s
noncomputable def Z1 : Slot → List Slot → Slot → Slot → Slot → Slot → St → Res := fun x0_2 x3_2 x4_1 x67 x68 x69 s => lpD QD [.seqR, .seqR, .seqR, .seqR, .seqR, .seqL, .seqR, .block] Tryz.f38 [(0, .s x0_2), (3, .var x3_2), (4, .s x4_1), (67, .s x67), (68, .s x68), (69, .s x69)] s
noncomputable def Z0 : Slot → List Slot → Slot → Slot → Slot → Slot → St → Res := fun x0_1 x3_1 x4 x53 x54 x55 s => lpD QD [.seqR, .seqR, .seqR, .seqR, .seqL, .seqR, .block] Tryz.f38 [(0, .s x0_1), (3, .var x3_1), (4, .s x4), (53, .s x53), (54, .s x54), (55, .s x55)] s
noncomputable def QZ : Slot → List Slot → St → Res := fun x0 x3 s => pwD QD [.seqR, .seqR, .seqR] Tryz.f38 [(0, .s x0), (3, .var x3)] s
theorem Q4w : ∀ x88 x89 x90 s_10, ZK x88 x89 x90 s_10 =
 bn Q2 .lss x90 x89 fun v91 =>
 condS v91 (
 ix Q09 x88 x90 fun v92 =>
 ld Q09 s_10 v92 fun v93 =>
 back (cal cw true (tgtV v93 []) s_10) fun v95 s_11 =>
 nx x90 fun v96 =>
 ZK x88 x89 v96 s_11) (
 rt [] s_10) := by intros; unfold ZK; exact (Qa _ _ _ _ _ _).trans (by kernel_rfl)
theorem Q4v : ∀ x0_3 x4_2 x78 x79 x80 s_8, Z2 x0_3 x4_2 x78 x79 x80 s_8 =
 bn Q2 .lss x80 x79 fun v81 =>
 condS v81 (
 ix Qr x78 x80 fun v82 =>
 ld Qr s_8 v82 fun v83 =>
 bx Qr v83 fun c_2 =>
 pZ Qr c_2 fun c10 =>
 gA Qr c10 fun v85 =>
 ca Q0b [x0_3, v85] s_8 fun v86 s_9 =>
 nx x80 fun v87 =>
 Z2 x0_3 x4_2 x78 x79 v87 s_9) (
 ln Q32 x4_2 fun v89 =>
 ZK x4_2 v89 (iv 0) s_8) := by intros; unfold Z2; exact (Qa _ _ _ _ _ _).trans (by kernel_rfl)
theorem Q4u : ∀ x0_2 x3_2 x4_1 x67 x68 x69 s_6, Z1 x0_2 x3_2 x4_1 x67 x68 x69 s_6 =
 bn Q2 .lss x69 x68 fun v70 =>
 condS v70 (
 ix Qn x67 x69 fun v71 =>
 ld Qn s_6 v71 fun v72 =>
 bx Qn v72 fun c_1 =>
 pZ Qn c_1 fun c8 =>
 gA Qn c8 fun v74 =>
 ca QD [x0_2, v74] s_6 fun v75 s_7 =>
 nx x69 fun v76 =>
 Z1 x0_2 x3_2 x4_1 x67 x68 v76 s_7) (
 gC Qe 5 x3_2 fun v78 =>
 ln Qe v78 fun v79 =>
 Z2 x0_2 x4_1 v78 v79 (iv 0) s_6) := by intros; unfold Z1; exact (Qa _ _ _ _ _ _).trans (by kernel_rfl)
theorem Q4t : ∀ x0_1 x3_1 x4 x53 x54 x55 s_3, Z0 x0_1 x3_1 x4 x53 x54 x55 s_3 =
 bn Q2 .lss x55 x54 fun v56 =>
 condS v56 (
 ix Qi x53 x55 fun v57 =>
 ld Qi s_3 v57 fun v58 =>
 bx Qi v58 fun c =>
 pZ Qi c fun c6 =>
 gA Qi c6 fun v61 =>
 ca ZQ [x0_1, v61] s_3 fun v62 s_4 =>
 bs Q09 [v62] fun v63 =>
 ap Q09 s_4 x4 v63 fun v64 s_5 =>
 nx x55 fun v65 =>
 Z0 x0_1 x3_1 v64 x53 x54 v65 s_5) (
 gC Qu 4 x3_1 fun v67 =>
 ln Qu v67 fun v68 =>
 Z1 x0_1 x3_1 x4 v67 v68 (iv 0) s_3) := by intros; unfold Z0; exact (Qa _ _ _ _ _ _).trans (by kernel_rfl)
theorem Q9n : ∀ x0 x3 s_2, QZ x0 x3 s_2 =
 gC Qs 6 x3 fun v53 =>
 ln Qs v53 fun v54 =>
 Z0 x0 x3 (.val (.nils)) v53 v54 (iv 0) s_2 := by intros; unfold QZ; exact (Z8 _).trans (by kernel_rfl)
theorem Qb5 (a0 : AV) (a1 : AV) (s : St) : cw (.f QD) [a0, a1] s =
 bx Qn (.val a1) fun c3 =>
 bind1 (nilCheckV (.val a0)) fun v14 =>
 fa 6 v14 fun v15 =>
 ld Qk s v15 fun v16 =>
 condS v16 (
 rt [] s) (
 gC Q4 0 c3 fun v18 =>
 bn Q4 .eql v18 (iv 2) fun v20 =>
 condS v20 (
 bind1 (nilCheckV (.val a0)) fun v22 =>
 fa 0 v22 fun v23 =>
 ld Qy s v23 fun v24 =>
 gC Q1 2 c3 fun v26 =>
 lk Q1 Q2 s v24 v26 false fun v27 =>
 bn Q2 .eql v27 (iv 0) fun v28 =>
 condS v28 (
 bind1 (nilCheckV (.val a0)) fun v30 =>
 fa 5 v30 fun v31 =>
 ld QG s v31 fun v32 =>
 gC Q1 2 c3 fun v34 =>
 gC Q2 1 c3 fun v36 =>
 back (noPan (cal cw true (tgtV v32 [v34, v36]) s)) fun v37 s_1 =>
 QZ (.val a0) c3 s_1) (
 QZ (.val a0) c3 s)) (
 bn Q4 .eql v18 (iv 3) fun v39 =>
 condS v39 (
 bind1 (nilCheckV (.val a0)) fun v41 =>
 fa 4 v41 fun v42 =>
 ld Qw s v42 fun v43 =>
 gC Q1 2 c3 fun v45 =>
 gC Q2 1 c3 fun v47 =>
 gC Qu 4 c3 fun v49 =>
 ln Qu v49 fun v50 =>
 back (noPan (cal cw true (tgtV v43 [v45, v47, v50]) s)) fun v51 s_12 =>
 QZ (.val a0) c3 s_12) (
 QZ (.val a0) c3 s))) := (Q5 _ _ _).trans (by kernel_rfl)
noncomputable def Q1O : List Slot → Slot → Slot → Slot → Slot → Slot → Slot → Slot → Slot → St → Res := fun x1_1 x3_1 x4_1 x16_1 x17_1 x18_1 x24 x25 x26 s => lpD Zc [.seqR, .seqR, .seqR, .seqL, .seqR, .thn, .seqR, .block, .loop, .seqR, .seqR, .seqL, .block, .seqR, .seqR, .block] Tryz.f41 [(1, .var x1_1), (3, .s x3_1), (4, .s x4_1), (16, .s x16_1), (17, .s x17_1), (18, .s x18_1), (24, .s x24), (25, .s x25), (26, .s x26)] s
noncomputable def Q1P : Slot → Slot → Slot → Slot → Slot → St → Res := fun x3_3 x4_3 x39 x40 x41 s => lpD Zc [.seqR, .seqR, .seqR, .seqR, .seqL, .seqR, .thn, .seqR, .block] Tryz.f41 [(3, .s x3_3), (4, .s x4_3), (39, .s x39), (40, .s x40), (41, .s x41)] s
noncomputable def Q1N : List Slot → Slot → Slot → St → Res := fun x1_2 x3_2 x4_2 s => pwD Zc [.seqR, .seqR, .seqR, .seqR] Tryz.f41 [(1, .var x1_2), (3, .s x3_2), (4, .s x4_2)] s
noncomputable def Q0x : List Slot → Slot → Slot → Slot → Slot → Slot → St → Res := fun x1 x3 x4 x16 x17 x18 s => lpD Zc [.seqR, .seqR, .seqR, .seqL, .seqR, .thn, .seqR, .block] Tryz.f41 [(1, .var x1), (3, .s x3), (4, .s x4), (16, .s x16), (17, .s x17), (18, .s x18)] s
theorem Q6f : ∀ x1_1 x3_1 x4_1 x16_1 x17_1 x18_1 x24 x25 x26 s_3, Q1O x1_1 x3_1 x4_1 x16_1 x17_1 x18_1 x24 x25 x26 s_3 =
 bn Q2 .lss x26 x25 fun v27 =>
 condS v27 (
 ix Q1 x24 x26 fun v28 =>
 ld Q1 s_3 v28 fun v29 =>
 back (cal cw true (tgtV x4_1 [v29]) s_3) fun v32 s_4 =>
 nx x26 fun v33 =>
 Q1O x1_1 x3_1 x4_1 x16_1 x17_1 x18_1 x24 x25 v33 s_4) (
 nx x18_1 fun v34 =>
 Q0x x1_1 x3_1 x4_1 x16_1 x17_1 v34 s_3) := by intros; unfold Q1O; exact (Qa _ _ _ _ _ _).trans (by kernel_rfl)
theorem Q6g : ∀ x3_3 x4_3 x39 x40 x41 s_6, Q1P x3_3 x4_3 x39 x40 x41 s_6 =
 bn Q2 .lss x41 x40 fun v42 =>
 condS v42 (
 ix QU x39 x41 fun v43 =>
 ld QU s_6 v43 fun v44 =>
 bx QU v44 fun c_1 =>
 pZ QU c_1 fun c10 =>
 gC Q1 0 c10 fun v47 =>
 back (cal cw true (tgtV x4_3 [v47]) s_6) fun v48 s_7 =>
 nx x41 fun v49 =>
 Q1P x3_3 x4_3 x39 x40 v49 s_7) (
 ld Qf s_6 x3_3 fun v50 =>
 some (.ret v50, s_6)) := by intros; unfold Q1P; exact (Qa _ _ _ _ _ _).trans (by kernel_rfl)
theorem Qb3 : ∀ x1_2 x3_2 x4_2 s_5, Q1N x1_2 x3_2 x4_2 s_5 =
 gC Qc 0 x1_2 fun v36 =>
 bn Qc .eql v36 (iv 2) fun v37 =>
 condS v37 (
 gC Qx 6 x1_2 fun v39 =>
 ln Qx v39 fun v40 =>
 Q1P x3_2 x4_2 v39 v40 (iv 0) s_5) (
 ld Qf s_5 x3_2 fun v50_1 =>
 some (.ret v50_1, s_5)) := by intros; unfold Q1N; exact (Z8 _).trans (by kernel_rfl)
theorem Q6e : ∀ x1 x3 x4 x16 x17 x18 s_1, Q0x x1 x3 x4 x16 x17 x18 s_1 =
 bn Q2 .lss x18 x17 fun v19 =>
 condS v19 (
 ix Qr x16 x18 fun v20 =>
 ld Qr s_1 v20 fun v21 =>
 bx Qr v21 fun c =>
 pZ Qr c fun c6 =>
 gC Qp 0 c6 fun v23 =>
 ca Q3h [v23] s_1 fun v24 s_2 =>
 ln Qf v24 fun v25 =>
 Q1O x1 x3 x4 x16 x17 x18 v24 v25 (iv 0) s_2) (
 Q1N x1 x3 x4 s_1) := by intros; unfold Q0x; exact (Qa _ _ _ _ _ _).trans (by kernel_rfl)
theorem Qeu (a0 : AV) (s : St) : cw (.f Zc) [a0] s =
 bx Qi (.val a0) fun c1 =>
 bind1 (fnS Zi [(.val (.vp s.locs.length 0))]) fun v11 =>
 gC Qc 0 c1 fun v13 =>
 bn Qc .eql v13 (iv 1) fun v14 =>
 condS v14 (
 gC Qe 5 c1 fun v16 =>
 ln Qe v16 fun v17 =>
 Q0x c1 (.val (.vp s.locs.length 0)) v11 v16 v17 (iv 0) (St.addLoc s (.var (List.map .val (C.ti Qf).zero)))) (
 Q1N c1 (.val (.vp s.locs.length 0)) v11 (St.addLoc s (.var (List.map .val (C.ti Qf).zero)))) := (Q5 _ _ _).trans (by kernel_rfl)
noncomputable def Q3p : Slot → Slot → Slot → St → Res := fun x0 x1 x5 s => lpD Q2Y [.seqR, .seqL, .seqR, .block] Tryz.f42 [(0, .s x0), (1, .s x1), (5, .s x5)] s
theorem Q8N : ∀ x0 x1 x5 s_1, Q3p x0 x1 x5 s_1 =
 ln Qf x0 fun v8 =>
 bn Q2 .lss x5 v8 fun v9 =>
 condS v9 (
 ix Q1 x0 x5 fun v14 =>
 ld Q1 s_1 v14 fun v15 =>
 bn Q1 .eql v15 x1 fun v17 =>
 condS v17 (
 some (.ret (bv true), s_1)) (
 nx x5 fun v11 =>
 Q3p x0 x1 v11 s_1)) (
 some (.ret (bv false), s_1)) := by intros; unfold Q3p; exact (Qa _ _ _ _ _ _).trans (by kernel_rfl)
theorem QhQ (a0 : AV) (a1 : AV) (s : St) : cw (.f Q2Y) [a0, a1] s =
 Q3p (.val a0) (.val a1) (iv 0) s := (Q5 _ _ _).trans (by kernel_rfl)
noncomputable def Q1A : Slot → List Slot → Slot → Slot → Slot → St → Res := fun x0_1 x4_1 x5_1 x6 x7 s => pwD Q26 [.seqR, .seqR, .seqR, .seqL, .seqR, .block, .loop, .seqR, .seqL, .block, .seqR, .seqR, .thn, .seqR] Tryz.f43 [(0, .s x0_1), (4, .var x4_1), (5, .s x5_1), (6, .s x6), (7, .s x7)] s
noncomputable def Q1B : Slot → List Slot → Slot → St → Res := fun x0 x4 x5 s => lpD Q26 [.seqR, .seqR, .seqR, .seqL, .seqR, .block] Tryz.f43 [(0, .s x0), (4, .var x4), (5, .s x5)] s
theorem QaW : ∀ x0_1 x4_1 x5_1 x6 x7 s_4, Q1A x0_1 x4_1 x5_1 x6 x7 s_4 =
 ix Qd x0_1 x5_1 fun v36 =>
 fa 2 v36 fun v37 =>
 ld Q2 s_4 v37 fun v38 =>
 bd Q3 [(0, Qo, x6), (1, Q2, v38), (2, Q1, x7)] fun v40 =>
 bx Q3 v40 fun c_2 =>
 pt x4_1 0 c_2 fun c4_2 =>
 gA Q3 c4_2 fun v => some (.ret v, s_4) := by intros; unfold Q1A; exact (Z8 _).trans (by kernel_rfl)
theorem Q64 : ∀ x0 x4 x5 s_2, Q1B x0 x4 x5 s_2 =
 ln Zx x0 fun v17 =>
 bn Q2 .lss x5 v17 fun v18 =>
 condS v18 (
 ix Qd x0 x5 fun v24 =>
 ld Qd s_2 v24 fun v25 =>
 ca Q5J [v25] s_2 fun v26 s_3 =>
 ex v26 0 fun v27 =>
 ex v26 1 fun v28 =>
 bn Qo .neq v27 (iv 0) fun v30 =>
 condS v30 (
 bn Qo .neq v27 (iv 8) fun v32 =>
 condS v32 (
 Q1A x0 x4 x5 v27 (sv []) s_3) (
 Q1A x0 x4 x5 v27 v28 s_3)) (
 nx x5 fun v20 =>
 Q1B x0 x4 v20 s_3)) (
 bd Q3 [] fun v41 =>
 bx Q3 v41 fun c_3 =>
 pt x4 0 c_3 fun c4_3 =>
 gA Q3 c4_3 fun v => some (.ret v, s_2)) := by intros; unfold Q1B; exact (Qa _ _ _ _ _ _).trans (by kernel_rfl)
theorem Qej (a0 : AV) (a1 : AV) (s : St) : cw (.f Q26) [a0, a1] s =
 ca Q25 [(.val a0)] s fun v9 s_1 =>
 bn Q2 .gtr v9 (iv 8192) fun v10 =>
 condS v10 (
 bd Q3 [(0, Qo, (iv 4))] fun v11 =>
 bx Q3 v11 fun c =>
 pZ Q3 c fun c4 =>
 gA Q3 c4 fun v => some (.ret v, s_1)) (
 bn Q2 .gtr (.val a1) (iv 100) fun v13 =>
 condS v13 (
 bd Q3 [(0, Qo, (iv 7))] fun v14 =>
 bx Q3 v14 fun c_1 =>
 pZ Q3 c_1 fun c4_1 =>
 gA Q3 c4_1 fun v => some (.ret v, s_1)) (
 Q1B (.val a0) ((List.map .val (C.ti Q3).zero)) (iv 0) s_1)) := (Q5 _ _ _).trans (by kernel_rfl)
noncomputable def Q3m : Slot → Slot → Slot → St → Res := fun x0 x3 x4 s => lpD Q3X [.seqR, .seqR, .seqL, .seqR, .block] Tryz.f44 [(0, .s x0), (3, .s x3), (4, .s x4)] s
theorem Q8I : ∀ x0 x3 x4 s_1, Q3m x0 x3 x4 s_1 =
 ln Qs x0 fun v7 =>
 bn Q2 .lss x4 v7 fun v8 =>
 condS v8 (
 ix Qi x0 x4 fun v14 =>
 ld Qi s_1 v14 fun v15 =>
 ca Q05 [v15, (bv false)] s_1 fun v16 s_2 =>
 ap Qd s_2 x3 v16 fun v17 s_3 =>
 nx x4 fun v10 =>
 Q3m x0 v17 v10 s_3) (
 some (.ret x3, s_1)) := by intros; unfold Q3m; exact (Qa _ _ _ _ _ _).trans (by kernel_rfl)
theorem QhK (a0 : AV) (s : St) : cw (.f Q3X) [a0] s =
 Q3m (.val a0) (.val (.nils)) (iv 0) s := (Q5 _ _ _).trans (by kernel_rfl)
noncomputable def Q0N : Slot → Slot → Slot → Slot → Slot → St → Res := fun x0_3 x3_3 x4_3 x5_2 x8 s => lpD ZC [.seqR, .seqR, .seqL, .seqR, .block, .loop, .seqR, .seqL, .block, .seqR, .seqR, .seqR, .seqL, .seqR, .block] Tryz.f45 [(0, .s x0_3), (3, .s x3_3), (4, .s x4_3), (5, .s x5_2), (8, .s x8)] s
noncomputable def Q2d : Slot → Slot → Slot → Slot → Slot → St → Res := fun x0_2 x3_2 x4_2 x5_1 x7 s => lpD ZC [.seqR, .seqR, .seqL, .seqR, .block, .loop, .seqR, .seqL, .block, .seqR, .seqR, .seqL, .seqR, .block] Tryz.f45 [(0, .s x0_2), (3, .s x3_2), (4, .s x4_2), (5, .s x5_1), (7, .s x7)] s
noncomputable def Q2c : Slot → Slot → Slot → Slot → Slot → St → Res := fun x0_1 x3_1 x4_1 x5 x6 s => lpD ZC [.seqR, .seqR, .seqL, .seqR, .block, .loop, .seqR, .seqL, .block, .seqR, .seqL, .seqR, .block] Tryz.f45 [(0, .s x0_1), (3, .s x3_1), (4, .s x4_1), (5, .s x5), (6, .s x6)] s
noncomputable def ZM : Slot → Slot → Slot → St → Res := fun x0 x3 x4 s => lpD ZC [.seqR, .seqR, .seqL, .seqR, .block] Tryz.f45 [(0, .s x0), (3, .s x3), (4, .s x4)] s
theorem Q6X : ∀ x0_3 x3_3 x4_3 x5_2 x8 s_8, Q0N x0_3 x3_3 x4_3 x5_2 x8 s_8 =
 ix Qi x0_3 x4_3 fun v84 =>
 fa 4 v84 fun v85 =>
 ld Qv s_8 v85 fun v86 =>
 ln Qv v86 fun v87 =>
 bn Q2 .lss x8 v87 fun v88 =>
 condS v88 (
 ix Qi x0_3 x4_3 fun v93 =>
 fa 4 v93 fun v94 =>
 ld Qv s_8 v94 fun v95 =>
 ix Z4 v95 x8 fun v97 =>
 fa 2 v97 fun v98 =>
 ld Qk s_8 v98 fun v99 =>
 condS v99 (
 ix Qi x0_3 x4_3 fun v103 =>
 fa 4 v103 fun v104 =>
 ld Qv s_8 v104 fun v105 =>
 ix Z4 v105 x8 fun v107 =>
 fa 3 v107 fun v108 =>
 ld Q6 s_8 v108 fun v109 =>
 ca Q0n [v109] s_8 fun v110 s_9 =>
 bind1 (max2 x5_2 v110) fun v111 =>
 nx x8 fun v90 =>
 Q0N x0_3 x3_3 x4_3 v111 v90 s_9) (
 nx x8 fun v90_1 =>
 Q0N x0_3 x3_3 x4_3 x5_2 v90_1 s_8)) (
 nx x5_2 fun v114 =>
 bind1 (max2 x3_3 v114) fun v115 =>
 nx x4_3 fun v14 =>
 ZM x0_3 v115 v14 s_8) := by intros; unfold Q0N; exact (Qa _ _ _ _ _ _).trans (by kernel_rfl)
theorem Q6W : ∀ x0_2 x3_2 x4_2 x5_1 x7 s_5, Q2d x0_2 x3_2 x4_2 x5_1 x7 s_5 =
 ix Qi x0_2 x4_2 fun v50 =>
 fa 6 v50 fun v51 =>
 ld Qx s_5 v51 fun v52 =>
 ln Qx v52 fun v53 =>
 bn Q2 .lss x7 v53 fun v54 =>
 condS v54 (
 ix Qi x0_2 x4_2 fun v60 =>
 fa 6 v60 fun v61 =>
 bind1 (ldV (C.ti Qx) true s_5 v61) fun v62 =>
 ix QU v62 x7 fun v64 =>
 fa 2 v64 fun v65 =>
 fa 0 v65 fun v66 =>
 bind1 (ldV (C.ti Qp) true s_5 v66) fun v67 =>
 cn Zh [v67] s_5 fun v68 s_6 =>
 ix Qi x0_2 x4_2 fun v71 =>
 fa 6 v71 fun v72 =>
 bind1 (ldV (C.ti Qx) true s_6 v72) fun v73 =>
 ix QU v73 x7 fun v75 =>
 fa 2 v75 fun v76 =>
 fa 5 v76 fun v77 =>
 bind1 (ldV (C.ti Qn) true s_6 v77) fun v78 =>
 cn Zg [v78] s_6 fun v79 s_7 =>
 bind1 (max3 x5_1 v68 v79) fun v80 =>
 nx x7 fun v56 =>
 Q2d x0_2 x3_2 x4_2 v80 v56 s_7) (
 Q0N x0_2 x3_2 x4_2 x5_1 (iv 0) s_5) := by intros; unfold Q2d; exact (Qa _ _ _ _ _ _).trans (by kernel_rfl)
theorem Q6V : ∀ x0_1 x3_1 x4_1 x5 x6 s_2, Q2c x0_1 x3_1 x4_1 x5 x6 s_2 =
 ix Qi x0_1 x4_1 fun v18 =>
 fa 5 v18 fun v19 =>
 ld Qe s_2 v19 fun v20 =>
 ln Qe v20 fun v21 =>
 bn Q2 .lss x6 v21 fun v22 =>
 condS v22 (
 ix Qi x0_1 x4_1 fun v28 =>
 fa 5 v28 fun v29 =>
 bind1 (ldV (C.ti Qe) true s_2 v29) fun v30 =>
 ix Qr v30 x6 fun v32 =>
 fa 0 v32 fun v33 =>
 bind1 (ldV (C.ti Qp) true s_2 v33) fun v34 =>
 cn Zh [v34] s_2 fun v35 s_3 =>
 ix Qi x0_1 x4_1 fun v38 =>
 fa 5 v38 fun v39 =>
 bind1 (ldV (C.ti Qe) true s_3 v39) fun v40 =>
 ix Qr v40 x6 fun v42 =>
 fa 5 v42 fun v43 =>
 bind1 (ldV (C.ti Qn) true s_3 v43) fun v44 =>
 cn Zg [v44] s_3 fun v45 s_4 =>
 bind1 (max3 x5 v35 v45) fun v46 =>
 nx x6 fun v24 =>
 Q2c x0_1 x3_1 x4_1 v46 v24 s_4) (
 Q2d x0_1 x3_1 x4_1 x5 (iv 0) s_2) := by intros; unfold Q2c; exact (Qa _ _ _ _ _ _).trans (by kernel_rfl)
theorem Q6U : ∀ x0 x3 x4 s_1, ZM x0 x3 x4 s_1 =
 ln Qs x0 fun v11 =>
 bn Q2 .lss x4 v11 fun v12 =>
 condS v12 (
 Q2c x0 x3 x4 (iv 0) (iv 0) s_1) (
 some (.ret x3, s_1)) := by intros; unfold ZM; exact (Qa _ _ _ _ _ _).trans (by kernel_rfl)
theorem Q9J (a0 : AV) (s : St) : cw (.f ZC) [a0] s =
 ZM (.val a0) (iv 0) (iv 0) s := (Q5 _ _ _).trans (by kernel_rfl)
noncomputable def Q0u : Slot → Slot → Slot → St → Res := fun x0 x3 x4 s => lpD Q25 [.seqR, .seqR, .seqL, .seqR, .block] Tryz.f46 [(0, .s x0), (3, .s x3), (4, .s x4)] s
theorem Q61 : ∀ x0 x3 x4 s_1, Q0u x0 x3 x4 s_1 =
 ln Zx x0 fun v7 =>
 bn Q2 .lss x4 v7 fun v8 =>
 condS v8 (
 ix Qd x0 x4 fun v13 =>
 fa 0 v13 fun v14 =>
 ld Q2 s_1 v14 fun v15 =>
 bn Q2 .leq v15 (iv 4) fun v16 =>
 condS v16 (
 nx x3 fun v18 =>
 nx x4 fun v10 =>
 Q0u x0 v18 v10 s_1) (
 nx x4 fun v10_1 =>
 Q0u x0 x3 v10_1 s_1)) (
 some (.ret x3, s_1)) := by intros; unfold Q0u; exact (Qa _ _ _ _ _ _).trans (by kernel_rfl)
theorem Qef (a0 : AV) (s : St) : cw (.f Q25) [a0] s =
 Q0u (.val a0) (iv 0) (iv 0) s := (Q5 _ _ _).trans (by kernel_rfl)
noncomputable def Q5P (x4 : Slot) : Am.Obj := .loop .ready none Q2G [(4, .s x4)] [16] (rngAsg (codeAt [.seqR, .seqR, .seqR, .seqL, .seqR, .block] (body Tryz.f47))) (rngBody (codeAt [.seqR, .seqR, .seqR, .seqL, .seqR, .block] (body Tryz.f47)))
theorem Qch (x4 : Slot) (y16 : AV) (loc : Nat) (s_5 : St) : yldR C (Q5P x4) loc [y16] s_5 = noPan (
 bx QN (.val y16) fun c_2 =>
 pZ QN c_2 fun c5 =>
 bindS (beginL loc s_5) fun s_6 =>
 gA QN c5 fun v17 =>
 ca Q0U [v17] s_6 fun v18 s_7 =>
 bx Q3 v18 fun c_3 =>
 pZ Q3 c_3 fun c6 =>
 gC Qo 0 c6 fun v20 =>
 bn Qo .neq v20 (iv 0) fun v21 =>
 condS v21 (
 gA Q3 c6 fun v22 =>
 bx Q3 v22 fun c_4 =>
 sto s_7 x4 c_4 fun s_8 =>
 bindS (setLoop loc .done (some .ret) s_8) fun s_9 =>
 some (.ret (bv false), s_9)) (
 bindS (setLoop loc .ready none s_7) fun s_10 =>
 some (.ret (bv true), s_10))) := by kernel_rfl
theorem QfN (a0 : AV) (a1 : AV) (s : St) : cw (.f Q2G) [a0, a1] s =
 ca Q40 [(.val a0), (iv 8193)] (St.addLoc s (.var (List.map .val (C.ti Q3).zero))) fun v8 s_1 =>
 bn Q2 .gtr v8 (iv 8192) fun v9 =>
 condS v9 (
 bd Q3 [(0, Qo, (iv 4))] fun v10 =>
 bx Q3 v10 fun c =>
 sto s_1 (.val (.vp s.locs.length 0)) c fun s_2 =>
 bind1 (ldV (C.ti Q3) false s_2 (.val (.vp s.locs.length 0))) fun v => some (.ret v, s_2)) (
 back (cal cw true (tgtV (.val a1) []) s_1) fun v12 s_3 =>
 bn Q2 .gtr v12 (iv 100) fun v13 =>
 condS v13 (
 bd Q3 [(0, Qo, (iv 7))] fun v14 =>
 bx Q3 v14 fun c_1 =>
 sto s_3 (.val (.vp s.locs.length 0)) c_1 fun s_4 =>
 bind1 (ldV (C.ti Q3) false s_4 (.val (.vp s.locs.length 0))) fun v => some (.ret v, s_4)) (
 rangeC C cw (.val a0) s_3.locs.length (St.addLoc s_3 (Q5P (.val (.vp s.locs.length 0)))) fun s_11 =>
 endX s_3.locs.length s_11 (fun s_12 =>
 bd Q3 [] fun v23 =>
 bx Q3 v23 fun c_5 =>
 sto s_12 (.val (.vp s.locs.length 0)) c_5 fun s_15 =>
 bind1 (ldV (C.ti Q3) false s_15 (.val (.vp s.locs.length 0))) fun v => some (.ret v, s_15)) (fun s_13 =>
 bind1 (ldV (C.ti Q3) false s_13 (.val (.vp s.locs.length 0))) fun v => some (.ret v, s_13)) (fun j s_14 =>
 bif Nat.beq j 0 then (
 bd Q3 [] fun v23_1 =>
 bx Q3 v23_1 fun c_6 =>
 sto s_14 (.val (.vp s.locs.length 0)) c_6 fun s_16 =>
 bind1 (ldV (C.ti Q3) false s_16 (.val (.vp s.locs.length 0))) fun v => some (.ret v, s_16)) else (
(none : Res))))) := (Q5 _ _ _).trans (by kernel_rfl)
theorem Qdu (a0 : AV) (s : St) : cw (.f Q4Z) [a0] s =
 bx Qs (.val a0) fun c1 =>
 bindA (avs c1) fun l1 =>
 bind1 (fnS Q3G [(.val (.cp l1))]) fun v3 =>
 some (.ret v3, s) := (Q5 _ _ _).trans (by kernel_rfl)
theorem Qdn (a0 : AV) (s : St) : cw (.f Q4X) [a0] s =
 ld Qs s (.val a0) fun v2 =>
 ca Zj [v2] s fun v3 s_1 =>
 some (.ret v3, s_1) := (Q5 _ _ _).trans (by kernel_rfl)
noncomputable def ZU : Slot → Slot → Slot → Slot → Slot → Slot → Slot → Slot → St → Res := fun x3_2 x6_1 x11_2 x12_2 x13_2 x35 x36 x37 s => lpD Zj [.seqR, .seqR, .seqL, .seqR, .block, .loop, .seqR, .seqR, .seqL, .block, .seqR, .seqR, .seqR, .seqL, .seqR, .block] Tryz.f50 [(3, .s x3_2), (6, .s x6_1), (11, .s x11_2), (12, .s x12_2), (13, .s x13_2), (35, .s x35), (36, .s x36), (37, .s x37)] s
noncomputable def Q0H : Slot → List Slot → Slot → Slot → Slot → Slot → Slot → Slot → Slot → St → Res := fun x3_1 x5 x6 x11_1 x12_1 x13_1 x21 x22 x23 s => lpD Zj [.seqR, .seqR, .seqL, .seqR, .block, .loop, .seqR, .seqR, .seqL, .block, .seqR, .seqR, .seqL, .seqR, .block] Tryz.f50 [(3, .s x3_1), (5, .var x5), (6, .s x6), (11, .s x11_1), (12, .s x12_1), (13, .s x13_1), (21, .s x21), (22, .s x22), (23, .s x23)] s
noncomputable def Zt : Slot → Slot → Slot → Slot → St → Res := fun x3 x11 x12 x13 s => lpD Zj [.seqR, .seqR, .seqL, .seqR, .block] Tryz.f50 [(3, .s x3), (11, .s x11), (12, .s x12), (13, .s x13)] s
theorem Q4R : ∀ x3_2 x6_1 x11_2 x12_2 x13_2 x35 x36 x37 s_5, ZU x3_2 x6_1 x11_2 x12_2 x13_2 x35 x36 x37 s_5 =
 bn Q2 .lss x37 x36 fun v38 =>
 condS v38 (
 ix Z4 x35 x37 fun v39 =>
 ld Z4 s_5 v39 fun v40 =>
 bx Z4 v40 fun c_2 =>
 pZ Z4 c_2 fun c10 =>
 gC Qk 2 c10 fun v42 =>
 condS v42 (
 gC Q6 3 c10 fun v45 =>
 ca Q0J [v45] s_5 fun v46 s_6 =>
 bind1 (max2 x6_1 v46) fun v47 =>
 nx x37 fun v48 =>
 ZU x3_2 v47 x11_2 x12_2 x13_2 x35 x36 v48 s_6) (
 nx x37 fun v48_1 =>
 ZU x3_2 x6_1 x11_2 x12_2 x13_2 x35 x36 v48_1 s_5)) (
 nx x6_1 fun v51 =>
 bind1 (max2 x3_2 v51) fun v52 =>
 nx x13_2 fun v53 =>
 Zt v52 x11_2 x12_2 v53 s_5) := by intros; unfold ZU; exact (Qa _ _ _ _ _ _).trans (by kernel_rfl)
theorem Q4Q : ∀ x3_1 x5 x6 x11_1 x12_1 x13_1 x21 x22 x23 s_3, Q0H x3_1 x5 x6 x11_1 x12_1 x13_1 x21 x22 x23 s_3 =
 bn Q2 .lss x23 x22 fun v24 =>
 condS v24 (
 ix QU x21 x23 fun v25 =>
 ld QU s_3 v25 fun v26 =>
 bx QU v26 fun c_1 =>
 pZ QU c_1 fun c8 =>
 gC Qr 2 c8 fun v29 =>
 bs Qr [v29] fun v30 =>
 ca Zs [v30] s_3 fun v31 s_4 =>
 bind1 (max2 x6 v31) fun v32 =>
 nx x23 fun v33 =>
 Q0H x3_1 x5 v32 x11_1 x12_1 x13_1 x21 x22 v33 s_4) (
 gC Qv 4 x5 fun v35 =>
 ln Qv v35 fun v36 =>
 ZU x3_1 x6 x11_1 x12_1 x13_1 v35 v36 (iv 0) s_3) := by intros; unfold Q0H; exact (Qa _ _ _ _ _ _).trans (by kernel_rfl)
theorem Q4P : ∀ x3 x11 x12 x13 s_1, Zt x3 x11 x12 x13 s_1 =
 bn Q2 .lss x13 x12 fun v14 =>
 condS v14 (
 ix Qi x11 x13 fun v15 =>
 ld Qi s_1 v15 fun v16 =>
 bx Qi v16 fun c =>
 pZ Qi c fun c5 =>
 gC Qe 5 c5 fun v18 =>
 ca Zs [v18] s_1 fun v19 s_2 =>
 gC Qx 6 c5 fun v21 =>
 ln Qx v21 fun v22 =>
 Q0H x3 c5 v19 x11 x12 x13 v21 v22 (iv 0) s_2) (
 some (.ret x3, s_1)) := by intros; unfold Zt; exact (Qa _ _ _ _ _ _).trans (by kernel_rfl)
theorem Q7l (a0 : AV) (s : St) : cw (.f Zj) [a0] s =
 ln Qs (.val a0) fun v12 =>
 Zt (iv 0) (.val a0) v12 (iv 0) s := (Q5 _ _ _).trans (by kernel_rfl)
theorem Qfn (a0 : AV) (a1 : AV) (a2 : AV) (a3 : AV) (s : St) : cw (.f ZW) [a0, a1, a2, a3] s =
 ca Q50 [(.val a1), (.val (.nils))] s fun v14 s_1 =>
 bd ZS [(1, Q6, v14)] fun v15 =>
 bd Q8 [(0, Q1, (.val a0)), (1, Q1, (.val a1)), (2, Q2, (.val a2)), (3, Q2, (.val a3)), (5, ZS, v15)] fun v16 =>
 bx Q8 v16 fun c =>
 pZ Q8 c fun c8 =>
 gA Q8 c8 fun v => some (.ret v, s_1) := (Q5 _ _ _).trans (by kernel_rfl)
noncomputable def Q29 : List Slot → List Slot → Slot → Slot → Slot → St → Res := fun x1 x2 x10 x11 x12 s => lpD Q1e [.seqR, .seqR, .seqL, .seqR, .block] Tryz.f52 [(1, .var x1), (2, .var x2), (10, .s x10), (11, .s x11), (12, .s x12)] s
theorem Q20 : ∀ x1 x2 x10 x11 x12 s_2, Q29 x1 x2 x10 x11 x12 s_2 =
 bn Q2 .lss x12 x11 fun v13 =>
 condS v13 (
 ix Q6 x10 x12 fun v15 =>
 ld Q6 s_2 v15 fun v16 =>
 bx Q6 v16 fun c_1 =>
 pZ Q6 c_1 fun c4 =>
 gC Qj 3 x1 fun v18 =>
 gA Q6 c4 fun v20 =>
 cn Q1e [v20] s_2 fun v21 s_3 =>
 ix Q6 v18 x12 fun v22 =>
 bx Q6 v21 fun c_2 =>
 sto s_3 v22 c_2 fun s_4 =>
 nx x12 fun v23 =>
 Q29 x1 x2 x10 x11 v23 s_4) (
 bindLS (frzSlots C.ti x1 s_2) fun c1_2 s_5 =>
 gA Q6 c1_2 fun v24 =>
 bx Q6 v24 fun c_3 =>
 pt x2 0 c_3 fun c2 =>
 gA Q6 c2 fun v => some (.ret v, s_5)) := by intros; unfold Q29; exact (Qa _ _ _ _ _ _).trans (by kernel_rfl)
theorem Qfl (a0 : AV) (s : St) : cw (.f Q1e) [a0] s =
 bx Q6 (.val a0) fun c1 =>
 gC Qj 3 c1 fun v6 =>
 ca Zv [v6] s fun v7 s_1 =>
 bx Qj v7 fun c =>
 pt c1 3 c fun c1_1 =>
 gC Qj 3 c1_1 fun v10 =>
 ln Qj v10 fun v11 =>
 Q29 c1_1 ((List.map .val (C.ti Q6).zero)) v10 v11 (iv 0) s_1 := (Q5 _ _ _).trans (by kernel_rfl)
noncomputable def Q0d : Slot → Slot → Slot → Slot → Slot → St → Res := fun x0_2 x2_2 x44 x45 x46 s => lpD QW [.seqR, .seqR, .seqR, .block] Tryz.f53 [(0, .s x0_2), (2, .s x2_2), (44, .s x44), (45, .s x45), (46, .s x46)] s
noncomputable def Zf : Slot → Slot → List Slot → St → Res := fun x0_1 x2_1 x4_1 s => pwD QW [.seqR, .seqR] Tryz.f53 [(0, .s x0_1), (2, .s x2_1), (4, .var x4_1)] s
noncomputable def Q0c : Slot → Slot → List Slot → Slot → Slot → St → Res := fun x0 x2 x4 x9 x10 s => pwD QW [.seqR, .seqL, .seqR, .block, .seqR] Tryz.f53 [(0, .s x0), (2, .s x2), (4, .var x4), (9, .s x9), (10, .s x10)] s
theorem Q4x : ∀ x0_2 x2_2 x44 x45 x46 s_5, Q0d x0_2 x2_2 x44 x45 x46 s_5 =
 bn Q2 .lss x46 x45 fun v47 =>
 condS v47 (
 ix Qp x44 x46 fun v48 =>
 ld Qp s_5 v48 fun v49 =>
 bx Qp v49 fun c =>
 pZ Qp c fun c7 =>
 gA Qp c7 fun v51 =>
 ca QW [x0_2, v51, x2_2] s_5 fun v53 s_6 =>
 nx x46 fun v54 =>
 Q0d x0_2 x2_2 x44 x45 v54 s_6) (
 rt [] s_5) := by intros; unfold Q0d; exact (Qa _ _ _ _ _ _).trans (by kernel_rfl)
theorem Q9p : ∀ x0_1 x2_1 x4_1 s_4, Zf x0_1 x2_1 x4_1 s_4 =
 gC Qt 4 x4_1 fun v44 =>
 ln Qt v44 fun v45 =>
 Q0d x0_1 x2_1 v44 v45 (iv 0) s_4 := by intros; unfold Zf; exact (Z8 _).trans (by kernel_rfl)
theorem Q9o : ∀ x0 x2 x4 x9 x10 s_1, Q0c x0 x2 x4 x9 x10 s_1 =
 condS x10 (
 gC Q1 2 x4 fun v15 =>
 lk Q1 Q2 s_1 x2 v15 false fun v16 =>
 nx v16 fun v17 =>
 upd2 Q1 Q2 s_1 x2 v15 v17 fun _ s_2 =>
 gC Q1 2 x4 fun v20 =>
 lk Q1 Q2 s_2 x2 v20 false fun v21 =>
 bn Q2 .gtr v21 (iv 1) fun v22 =>
 condS v22 (
 gC Q2 1 x4 fun v25 =>
 gC Q1 2 x4 fun v27 =>
 ca QK [x0, (iv 9), v25, v27] s_2 fun v28 s_3 =>
 Zf x0 x2 x4 s_3) (
 Zf x0 x2 x4 s_2)) (
 bn Qg .eql x9 (iv 4) fun v30 =>
 condS v30 (
 bind1 (nilCheckV x0) fun v32 =>
 fa 4 v32 fun v33 =>
 ld Qw s_1 v33 fun v34 =>
 gC Q1 2 x4 fun v36 =>
 gC Q2 1 x4 fun v38 =>
 gC Qt 4 x4 fun v40 =>
 ln Qt v40 fun v41 =>
 back (noPan (cal cw true (tgtV v34 [v36, v38, v41]) s_1)) fun v42 s_7 =>
 Zf x0 x2 x4 s_7) (
 Zf x0 x2 x4 s_1)) := by intros; unfold Q0c; exact (Z8 _).trans (by kernel_rfl)
theorem Qb6 (a0 : AV) (a1 : AV) (a2 : AV) (s : St) : cw (.f QW) [a0, a1, a2] s =
 bx Qp (.val a1) fun c4 =>
 gC Qg 0 c4 fun v9 =>
 bn Qg .eql v9 (iv 2) fun v11 =>
 condS v11 (
 Q0c (.val a0) (.val a2) c4 v9 v11 s) (
 bn Qg .eql v9 (iv 6) fun v12 =>
 Q0c (.val a0) (.val a2) c4 v9 v12 s) := (Q5 _ _ _).trans (by kernel_rfl)
noncomputable def ZZ : Slot → Slot → Slot → Slot → Slot → St → Res := fun x2 x3 x7 x8 x9 s => lpD Ze [.seqR, .seqL, .seqR, .block] Tryz.f54 [(2, .s x2), (3, .s x3), (7, .s x7), (8, .s x8), (9, .s x9)] s
theorem Q3Q : ∀ x2 x3 x7 x8 x9 s_1, ZZ x2 x3 x7 x8 x9 s_1 =
 bn Q2 .lss x9 x8 fun v10 =>
 condS v10 (
 ix Q1 x7 x9 fun v11 =>
 ld Q1 s_1 v11 fun v12 =>
 ld QM s_1 x2 fun v13 =>
 bind1 (nilCheckV v13) fun v14 =>
 fa 0 v14 fun v15 =>
 ld Qy s_1 v15 fun v16 =>
 lk Q1 Q2 s_1 v16 v12 false fun v18 =>
 nx v18 fun v19 =>
 upd2 Q1 Q2 s_1 v16 v12 v19 fun _ s_2 =>
 nx x9 fun v20 =>
 ZZ x2 x3 x7 x8 v20 s_2) (
 bind1 (fnS QE [x3, x2]) fun v21 =>
 some (.ret v21, s_1)) := by intros; unfold ZZ; exact (Qa _ _ _ _ _ _).trans (by kernel_rfl)
theorem Qaw (a0 : AV) (a1 : AV) (s : St) : cw (.f Ze) [a0, a1] s =
 bx QM (.val a0) fun c2 =>
 bindA (avs c2) fun l2 =>
 bx Qf (.val a1) fun c3 =>
 bindA (avs c3) fun l3 =>
 ld Qf s (.val (.cp l3)) fun v7 =>
 ln Qf v7 fun v8 =>
 ZZ (.val (.cp l2)) (.val (.cp l3)) v7 v8 (iv 0) s := (Q5 _ _ _).trans (by kernel_rfl)
theorem Qax (a0 : AV) (a1 : AV) (s : St) : cw (.f Q0b) [a0, a1] s =
 bx Qr (.val a1) fun c3 =>
 gC Qp 0 c3 fun v7 =>
 ca QW [(.val a0), v7, (.val (.mp s.locs.length))] (St.addLoc s (.map [] 0)) fun v9 s_1 =>
 gC Qp 0 c3 fun v12 =>
 ca Q3h [v12] s_1 fun v13 s_2 =>
 ca Ze [(.val a0), v13] s_2 fun v14 s_3 =>
 gC Qn 5 c3 fun v17 =>
 ca QD [(.val a0), v17] s_3 fun v18 s_4 =>
 back (cal cw true (tgtV v14 []) s_4) fun v20 s_5 =>
 rt [] s_5 := (Q5 _ _ _).trans (by kernel_rfl)
theorem Q9V (s : St) : cw (.f Q0S) [] s =
 rt [] s := (Q5 _ _ _).trans (by kernel_rfl)
noncomputable def Q1n : Slot → Slot → Slot → Slot → St → Res := fun x3 x9 x10 x11 s => lpD Q3x [.seqR, .seqR, .seqL, .seqR, .block] Tryz.f57 [(3, .s x3), (9, .s x9), (10, .s x10), (11, .s x11)] s
theorem Q5S : ∀ x3 x9 x10 x11 s_2, Q1n x3 x9 x10 x11 s_2 =
 bn Q2 .lss x11 x10 fun v12 =>
 condS v12 (
 ix Q8 x9 x11 fun v13 =>
 ld Q8 s_2 v13 fun v14 =>
 bx Q8 v14 fun c =>
 pZ Q8 c fun c5 =>
 gC Q6 6 c5 fun v17 =>
 ca Q1e [v17] s_2 fun v18 s_3 =>
 bx Q6 v18 fun c_1 =>
 pt c5 6 c_1 fun c5_1 =>
 gA Q8 c5_1 fun v22 =>
 bs Q8 [v22] fun v23 =>
 ap Q8 s_3 x3 v23 fun v24 s_4 =>
 nx x11 fun v25 =>
 Q1n v24 x9 x10 v25 s_4) (
 some (.ret x3, s_2)) := by intros; unfold Q1n; exact (Qa _ _ _ _ _ _).trans (by kernel_rfl)
theorem QdY (a0 : AV) (s : St) : cw (.f Q3x) [a0] s =
 ln Z5 (.val a0) fun v7 =>
 bind2 (makeS Q8 (C.ti Q8) s (iv 0) v7) fun v8 s_1 =>
 ln Z5 (.val a0) fun v10 =>
 Q1n v8 (.val a0) v10 (iv 0) s_1 := (Q5 _ _ _).trans (by kernel_rfl)
noncomputable def Q0L : Slot → Slot → Slot → Slot → St → Res := fun x3 x10 x11 x12 s => lpD Q3U [.seqR, .seqR, .seqL, .seqR, .block] Tryz.f58 [(3, .s x3), (10, .s x10), (11, .s x11), (12, .s x12)] s
theorem Q6O : ∀ x3 x10 x11 x12 s_8, Q0L x3 x10 x11 x12 s_8 =
 bn Q2 .lss x12 x11 fun v13 =>
 condS v13 (
 ix Q8 x10 x12 fun v14 =>
 ld Q8 s_8 v14 fun v15 =>
 bx Q8 v15 fun c =>
 pZ Q8 c fun c5 =>
 gC Q1 1 c5 fun v19 =>
 lk Q1 Q2 s_8 x3 v19 true fun v20 =>
 ex v20 0 fun v21 =>
 ex v20 1 fun v22 =>
 nt v22 fun v24 =>
 condS v24 (
 gC Q1 1 c5 fun v27 =>
 gC Q2 5 c5 fun v30 =>
 upd2 Q1 Q2 s_8 x3 v27 v30 fun _ s_9 =>
 nx x12 fun v31 =>
 Q0L x3 x10 x11 v31 s_9) (
 nx x12 fun v31_1 =>
 Q0L x3 x10 x11 v31_1 s_8)) (
 some (.ret x3, s_8)) := by intros; unfold Q0L; exact (Qa _ _ _ _ _ _).trans (by kernel_rfl)
theorem Qfm (a0 : AV) (s : St) : cw (.f Q3U) [a0] s =
 upd2 Q1 Q2 (St.addLoc s (.map [] 0)) (.val (.mp s.locs.length)) (sv [105, 110, 116]) (iv (-1)) fun _ s_1 =>
 upd2 Q1 Q2 s_1 (.val (.mp s.locs.length)) (sv [98, 111, 111, 108]) (iv (-1)) fun _ s_2 =>
 upd2 Q1 Q2 s_2 (.val (.mp s.locs.length)) (sv [117, 110, 105, 116]) (iv (-1)) fun _ s_3 =>
 upd2 Q1 Q2 s_3 (.val (.mp s.locs.length)) (sv [101, 120, 110]) (iv (-1)) fun _ s_4 =>
 upd2 Q1 Q2 s_4 (.val (.mp s.locs.length)) (sv [114, 101, 102]) (iv (-1)) fun _ s_5 =>
 upd2 Q1 Q2 s_5 (.val (.mp s.locs.length)) (sv [45, 62]) (iv (-1)) fun _ s_6 =>
 upd2 Q1 Q2 s_6 (.val (.mp s.locs.length)) (sv [42]) (iv (-1)) fun _ s_7 =>
 ln Z5 (.val a0) fun v11 =>
 Q0L (.val (.mp s.locs.length)) (.val a0) v11 (iv 0) s_7 := (Q5 _ _ _).trans (by kernel_rfl)
noncomputable def Q1o : List Slot → List Slot → Slot → Slot → Slot → St → Res := fun x1 x2 x4 x11 x12 s => lpD Q3f [.seqR, .seqR, .seqR, .seqL, .seqR, .block] Tryz.f59 [(1, .var x1), (2, .var x2), (4, .s x4), (11, .s x11), (12, .s x12)] s
theorem Q7D : ∀ x1 x2 x4 x11 x12 s_2, Q1o x1 x2 x4 x11 x12 s_2 =
 bn Q2 .lss x12 x11 fun v13 =>
 condS v13 (
 bd Q6 [(0, Qm, (iv 1)), (1, Q2, x12)] fun v17 =>
 bs Q6 [v17] fun v18 =>
 ap Q6 s_2 x4 v18 fun v19 s_3 =>
 nx x12 fun v20 =>
 Q1o x1 x2 v19 x11 v20 s_3) (
 gC Q1 2 x1 fun v22 =>
 cn Q50 [v22, x4] s_2 fun v24 s_4 =>
 gC Q2 3 x1 fun v26 =>
 bx Q6 v24 fun c_1 =>
 pt x2 0 c_1 fun c2_1 =>
 rt [(ofSlots (C.ti Q6) (List.take (C.ti Q6).size c2_1)), (some v26)] s_4) := by intros; unfold Q1o; exact (Qa _ _ _ _ _ _).trans (by kernel_rfl)
theorem Q6N (a0 : AV) (s : St) : cw (.f Q3f) [a0] s =
 bx Qi (.val a0) fun c1 =>
 gC Qc 0 c1 fun v7 =>
 bn Qc .eql v7 (iv 4) fun v8 =>
 condS v8 (
 ca Q50 [(sv [101, 120, 110]), (.val (.nils))] s fun v9 s_1 =>
 bx Q6 v9 fun c =>
 pZ Q6 c fun c2 =>
 rt [(ofSlots (C.ti Q6) (List.take (C.ti Q6).size c2)), (some (iv 0))] s_1) (
 gC Q2 3 c1 fun v11 =>
 Q1o c1 ((List.map .val (C.ti Q6).zero)) (.val (.nils)) v11 (iv 0) s) := (Q5 _ _ _).trans (by kernel_rfl)
theorem Qfo (a0 : AV) (a1 : AV) (a2 : AV) (s : St) : cw (.f Q6E) [a0, a1, a2] s =
 bx Qy (.val a0) fun c3 =>
 bindA (avs c3) fun l3 =>
 bx Q2 (.val a1) fun c4 =>
 bindA (avs c4) fun l4 =>
 bx Q6 (.val a2) fun c5 =>
 bind1 (fnS Q1f [(.val (.cp l4)), (.val (.cp l3)), (.val (.vp s.locs.length 0))]) fun v9 =>
 bx Qq v9 fun c =>
 sto (St.addLoc s (.var (List.map .val (C.ti Qq).zero))) (.val (.vp s.locs.length 0)) c fun s_1 =>
 ld Qq s_1 (.val (.vp s.locs.length 0)) fun v10 =>
 gA Q6 c5 fun v11 =>
 back (cal cw true (tgtV v10 [v11]) s_1) fun v12 s_2 =>
 ex v12 0 fun v13 =>
 ex v12 1 fun v14 =>
 rt [(some v13), (some v14)] s_2 := (Q5 _ _ _).trans (by kernel_rfl)
theorem QjY (a0 : AV) (a1 : AV) (s : St) : cw (.f QbK) [a0, a1] s =
 bx Q6 (.val a0) fun c2 =>
 bx Qj (.val a1) fun c3 =>
 bindA (avs c3) fun l3 =>
 gA Q6 c2 fun v5 =>
 bind1 (fnS Q93 [(.val (.cp l3))]) fun v6 =>
 ca Q3i [v5, v6] s fun v7 s_1 =>
 bx Q6 v7 fun c =>
 pZ Q6 c fun c4 =>
 gA Q6 c4 fun v => some (.ret v, s_1) := (Q5 _ _ _).trans (by kernel_rfl)
theorem QkV (a0 : AV) (a1 : AV) (s : St) : cw (.f QdH) [a0, a1] s =
 bx Q6 (.val a0) fun c2 =>
 bx Q6 (.val a1) fun c3 =>
 gA Q6 c2 fun v5 =>
 gA Q6 c3 fun v6 =>
 bs Q6 [v5, v6] fun v7 =>
 ca Q50 [(sv [45, 62]), v7] s fun v8 s_1 =>
 bx Q6 v8 fun c =>
 pZ Q6 c fun c4 =>
 gA Q6 c4 fun v => some (.ret v, s_1) := (Q5 _ _ _).trans (by kernel_rfl)
theorem Qeq (a0 : AV) (s : St) : cw (.f Q3B) [a0] s =
 bd Q6 [(0, Qm, (iv 2)), (2, Q1, (.val a0))] fun v4 =>
 bx Q6 v4 fun c =>
 pZ Q6 c fun c2 =>
 gA Q6 c2 fun v => some (.ret v, s) := (Q5 _ _ _).trans (by kernel_rfl)
noncomputable def Q1J : Slot → Slot → List Slot → List Slot → Slot → St → Res := fun x0_2 x2_2 x4_2 x6_2 x9 s => lpD Q0i [.seqR, .seqR, .seqR, .seqL, .seqR, .block] Tryz.f64 [(0, .s x0_2), (2, .s x2_2), (4, .var x4_2), (6, .var x6_2), (9, .s x9)] s
noncomputable def Q2U : Slot → Slot → List Slot → List Slot → St → Res := fun x0_1 x2_1 x4_1 x6_1 s => pwD Q0i [.seqR, .seqR, .seqR] Tryz.f64 [(0, .s x0_1), (2, .s x2_1), (4, .var x4_1), (6, .var x6_1)] s
noncomputable def Q2T : Slot → Slot → List Slot → List Slot → St → Res := fun x0 x2 x4 x6 s => pwD Q0i [.seqR, .seqR] Tryz.f64 [(0, .s x0), (2, .s x2), (4, .var x4), (6, .var x6)] s
theorem Q4n : ∀ x0_2 x2_2 x4_2 x6_2 x9 s_7, Q1J x0_2 x2_2 x4_2 x6_2 x9 s_7 =
 gC Qt 4 x4_2 fun v54 =>
 ln Qt v54 fun v55 =>
 bn Q2 .lss x9 v55 fun v56 =>
 condS v56 (
 gC Qt 4 x4_2 fun v62 =>
 ix Qp v62 x9 fun v64 =>
 ld Qp s_7 v64 fun v65 =>
 ca Q0i [x0_2, v65, x2_2] s_7 fun v67 s_8 =>
 ex v67 0 fun v68 =>
 ex v67 1 fun v69 =>
 bx Q3 v68 fun c_3 =>
 pZ Q3 c_3 fun c10 =>
 gA Q3 c10 fun v70 =>
 ca QQ [v70] s_8 fun v71 s_9 =>
 nt v71 fun v72 =>
 condS v72 (
 gA Q3 c10 fun v73 =>
 bx Q3 v73 fun c_4 =>
 pt x6_2 0 c_4 fun c6_2 =>
 rt [(ofSlots (C.ti Q3) (List.take (C.ti Q3).size c6_2)), (some x2_2)] s_9) (
 nx x9 fun v58 =>
 Q1J x0_2 v69 x4_2 x6_2 v58 s_9)) (
 bd Q3 [] fun v76 =>
 bx Q3 v76 fun c_5 =>
 pt x6_2 0 c_5 fun c6_3 =>
 rt [(ofSlots (C.ti Q3) (List.take (C.ti Q3).size c6_3)), (some x2_2)] s_7) := by intros; unfold Q1J; exact (Qa _ _ _ _ _ _).trans (by kernel_rfl)
theorem Qdc : ∀ x0_1 x2_1 x4_1 x6_1 s_6, Q2U x0_1 x2_1 x4_1 x6_1 s_6 =
 Q1J x0_1 x2_1 x4_1 x6_1 (iv 0) s_6 := by intros; unfold Q2U; exact (Z8 _).trans (by kernel_rfl)
theorem Qdb : ∀ x0 x2 x4 x6 s_3, Q2T x0 x2 x4 x6 s_3 =
 gC Qg 0 x4 fun v36 =>
 bn Qg .eql v36 (iv 4) fun v37 =>
 condS v37 (
 gC Q1 2 x4 fun v40 =>
 gC Q2 1 x4 fun v42 =>
 gC Qt 4 x4 fun v44 =>
 ln Qt v44 fun v45 =>
 ca Q5h [x0, v40, v42, v45] s_3 fun v46 s_4 =>
 bx Q3 v46 fun c_1 =>
 pZ Q3 c_1 fun c8 =>
 gA Q3 c8 fun v47 =>
 ca QQ [v47] s_4 fun v48 s_5 =>
 nt v48 fun v49 =>
 condS v49 (
 gA Q3 c8 fun v50 =>
 bx Q3 v50 fun c_2 =>
 pt x6 0 c_2 fun c6_1 =>
 rt [(ofSlots (C.ti Q3) (List.take (C.ti Q3).size c6_1)), (some x2)] s_5) (
 Q2U x0 x2 x4 x6 s_5)) (
 Q2U x0 x2 x4 x6 s_3) := by intros; unfold Q2T; exact (Z8 _).trans (by kernel_rfl)
theorem Qh1 (a0 : AV) (a1 : AV) (a2 : AV) (s : St) : cw (.f Q0i) [a0, a1, a2] s =
 bx Qp (.val a1) fun c4 =>
 gC Qg 0 c4 fun v13 =>
 bn Qg .eql v13 (iv 2) fun v14 =>
 iF v14 fun w =>
 iF v14 fun w_1 =>
 gG w_1 w Qg 0 c4 fun v17 =>
 iF v14 fun w_2 =>
 gB w_2 Qg .eql v17 (iv 6) fun v18 =>
 pk v14 (bv true) v18 fun v19 =>
 condS v19 (
 gC Q1 2 c4 fun v22 =>
 ca Q2Y [(.val a2), v22] s fun v23 s_1 =>
 condS v23 (
 gC Q2 1 c4 fun v25 =>
 gC Q1 2 c4 fun v27 =>
 bd Q3 [(0, Qo, (iv 9)), (1, Q2, v25), (2, Q1, v27)] fun v28 =>
 bx Q3 v28 fun c =>
 pZ Q3 c fun c6 =>
 rt [(ofSlots (C.ti Q3) (List.take (C.ti Q3).size c6)), (some (.val a2))] s_1) (
 gC Q1 2 c4 fun v32 =>
 bs Q1 [v32] fun v33 =>
 ca Q1W [(.val a2), v33] s_1 fun v34 s_2 =>
 Q2T (.val a0) v34 c4 ((List.map .val (C.ti Q3).zero)) s_2)) (
 Q2T (.val a0) (.val a2) c4 ((List.map .val (C.ti Q3).zero)) s) := (Q5 _ _ _).trans (by kernel_rfl)
noncomputable def Q2S : Slot → Slot → List Slot → List Slot → Slot → St → Res := fun x0_3 x2_3 x4_3 x6_3 x12 s => lpD Zz [.seqR, .seqR, .seqR, .seqR, .seqR, .seqL, .seqR, .block] Tryz.f65 [(0, .s x0_3), (2, .s x2_3), (4, .var x4_3), (6, .var x6_3), (12, .s x12)] s
noncomputable def Q2R : Slot → Slot → List Slot → List Slot → Slot → St → Res := fun x0_2 x2_2 x4_2 x6_2 x10 s => lpD Zz [.seqR, .seqR, .seqR, .seqR, .seqL, .seqR, .block] Tryz.f65 [(0, .s x0_2), (2, .s x2_2), (4, .var x4_2), (6, .var x6_2), (10, .s x10)] s
noncomputable def Q1I : Slot → Slot → List Slot → List Slot → Slot → St → Res := fun x0_1 x2_1 x4_1 x6_1 x8 s => lpD Zz [.seqR, .seqR, .seqR, .seqL, .seqR, .block] Tryz.f65 [(0, .s x0_1), (2, .s x2_1), (4, .var x4_1), (6, .var x6_1), (8, .s x8)] s
noncomputable def Q1H : Slot → Slot → List Slot → List Slot → St → Res := fun x0 x2 x4 x6 s => pwD Zz [.seqR, .seqR, .seqR] Tryz.f65 [(0, .s x0), (2, .s x2), (4, .var x4), (6, .var x6)] s
theorem Q4m : ∀ x0_3 x2_3 x4_3 x6_3 x12 s_13, Q2S x0_3 x2_3 x4_3 x6_3 x12 s_13 =
 gC Qe 5 x4_3 fun v93 =>
 ln Qe v93 fun v94 =>
 bn Q2 .lss x12 v94 fun v95 =>
 condS v95 (
 gC Qe 5 x4_3 fun v100 =>
 ix Qr v100 x12 fun v102 =>
 ld Qr s_13 v102 fun v103 =>
 ca Q5i [x0_3, v103, x2_3] s_13 fun v105 s_14 =>
 bx Q3 v105 fun c_7 =>
 pZ Q3 c_7 fun c13 =>
 gA Q3 c13 fun v106 =>
 ca QQ [v106] s_14 fun v107 s_15 =>
 nt v107 fun v108 =>
 condS v108 (
 gA Q3 c13 fun v109 =>
 bx Q3 v109 fun c_8 =>
 pt x6_3 0 c_8 fun c6_4 =>
 gA Q3 c6_4 fun v => some (.ret v, s_15)) (
 nx x12 fun v97 =>
 Q2S x0_3 x2_3 x4_3 x6_3 v97 s_15)) (
 bd Q3 [] fun v110 =>
 bx Q3 v110 fun c_9 =>
 pt x6_3 0 c_9 fun c6_5 =>
 gA Q3 c6_5 fun v => some (.ret v, s_13)) := by intros; unfold Q2S; exact (Qa _ _ _ _ _ _).trans (by kernel_rfl)
theorem Q4l : ∀ x0_2 x2_2 x4_2 x6_2 x10 s_10, Q2R x0_2 x2_2 x4_2 x6_2 x10 s_10 =
 gC Qu 4 x4_2 fun v74 =>
 ln Qu v74 fun v75 =>
 bn Q2 .lss x10 v75 fun v76 =>
 condS v76 (
 gC Qu 4 x4_2 fun v81 =>
 ix Qn v81 x10 fun v83 =>
 ld Qn s_10 v83 fun v84 =>
 ca Zz [x0_2, v84, x2_2] s_10 fun v86 s_11 =>
 bx Q3 v86 fun c_5 =>
 pZ Q3 c_5 fun c11 =>
 gA Q3 c11 fun v87 =>
 ca QQ [v87] s_11 fun v88 s_12 =>
 nt v88 fun v89 =>
 condS v89 (
 gA Q3 c11 fun v90 =>
 bx Q3 v90 fun c_6 =>
 pt x6_2 0 c_6 fun c6_3 =>
 gA Q3 c6_3 fun v => some (.ret v, s_12)) (
 nx x10 fun v78 =>
 Q2R x0_2 x2_2 x4_2 x6_2 v78 s_12)) (
 Q2S x0_2 x2_2 x4_2 x6_2 (iv 0) s_10) := by intros; unfold Q2R; exact (Qa _ _ _ _ _ _).trans (by kernel_rfl)
theorem Q4k : ∀ x0_1 x2_1 x4_1 x6_1 x8 s_5, Q1I x0_1 x2_1 x4_1 x6_1 x8 s_5 =
 gC Qs 6 x4_1 fun v47 =>
 ln Qs v47 fun v48 =>
 bn Q2 .lss x8 v48 fun v49 =>
 condS v49 (
 gC Qs 6 x4_1 fun v54 =>
 ix Qi v54 x8 fun v56 =>
 ld Qi s_5 v56 fun v57 =>
 ca Q3g [x0_1, v57, x2_1] s_5 fun v59 s_6 =>
 bx Q3 v59 fun c_3 =>
 pZ Q3 c_3 fun c9 =>
 gA Q3 c9 fun v60 =>
 ca QQ [v60] s_6 fun v61 s_7 =>
 nt v61 fun v62 =>
 condS v62 (
 gA Q3 c9 fun v63 =>
 bx Q3 v63 fun c_4 =>
 pt x6_1 0 c_4 fun c6_2 =>
 gA Q3 c6_2 fun v => some (.ret v, s_7)) (
 gC Qs 6 x4_1 fun v66 =>
 ix Qi v66 x8 fun v68 =>
 ld Qi s_7 v68 fun v69 =>
 ca Q07 [v69] s_7 fun v70 s_8 =>
 ca Q1W [x2_1, v70] s_8 fun v71 s_9 =>
 nx x8 fun v51 =>
 Q1I x0_1 v71 x4_1 x6_1 v51 s_9)) (
 Q2R x0_1 x2_1 x4_1 x6_1 (iv 0) s_5) := by intros; unfold Q1I; exact (Qa _ _ _ _ _ _).trans (by kernel_rfl)
theorem Qda : ∀ x0 x2 x4 x6 s_4, Q1H x0 x2 x4 x6 s_4 =
 Q1I x0 x2 x4 x6 (iv 0) s_4 := by intros; unfold Q1H; exact (Z8 _).trans (by kernel_rfl)
theorem QgX (a0 : AV) (a1 : AV) (a2 : AV) (s : St) : cw (.f Zz) [a0, a1, a2] s =
 bx Qn (.val a1) fun c4 =>
 gC Q4 0 c4 fun v15 =>
 bn Q4 .eql v15 (iv 2) fun v16 =>
 iT v16 fun w =>
 iT v16 fun w_1 =>
 iT v16 fun w_2 =>
 gG w_2 w_1 Q1 2 c4 fun v20 =>
 iT v16 fun w_3 =>
 cg w_3 Q2Y [(gdV w (.val a2)), v20] s fun v21 s_1 =>
 iT v16 fun w_4 =>
 gN w_4 v21 fun v22 =>
 pk v16 v22 (bv false) fun v23 =>
 condS v23 (
 gC Q2 1 c4 fun v25 =>
 gC Q1 2 c4 fun v27 =>
 bd Q3 [(0, Qo, (iv 16)), (1, Q2, v25), (2, Q1, v27)] fun v28 =>
 bx Q3 v28 fun c =>
 pZ Q3 c fun c6 =>
 gA Q3 c6 fun v => some (.ret v, s_1)) (
 gC Q4 0 c4 fun v30 =>
 bn Q4 .eql v30 (iv 3) fun v31 =>
 condS v31 (
 gC Q1 2 c4 fun v34 =>
 gC Q2 1 c4 fun v36 =>
 gC Qu 4 c4 fun v38 =>
 ln Qu v38 fun v39 =>
 ca Q5h [(.val a0), v34, v36, v39] s_1 fun v40 s_2 =>
 bx Q3 v40 fun c_1 =>
 pZ Q3 c_1 fun c7 =>
 gA Q3 c7 fun v41 =>
 ca QQ [v41] s_2 fun v42 s_3 =>
 nt v42 fun v43 =>
 condS v43 (
 gA Q3 c7 fun v44 =>
 bx Q3 v44 fun c_2 =>
 pZ Q3 c_2 fun c6_1 =>
 gA Q3 c6_1 fun v => some (.ret v, s_3)) (
 Q1H (.val a0) (.val a2) c4 ((List.map .val (C.ti Q3).zero)) s_3)) (
 Q1H (.val a0) (.val a2) c4 ((List.map .val (C.ti Q3).zero)) s_1)) := (Q5 _ _ _).trans (by kernel_rfl)
theorem QgZ (a0 : AV) (a1 : AV) (a2 : AV) (s : St) : cw (.f Q5i) [a0, a1, a2] s =
 bx Qr (.val a1) fun c4 =>
 gC Qp 0 c4 fun v12 =>
 ca Q0i [(.val a0), v12, (.val (.nils))] s fun v13 s_1 =>
 ex v13 0 fun v14 =>
 ex v13 1 fun v15 =>
 bx Q3 v14 fun c =>
 pZ Q3 c fun c7 =>
 gA Q3 c7 fun v16 =>
 ca QQ [v16] s_1 fun v17 s_2 =>
 nt v17 fun v18 =>
 condS v18 (
 gA Q3 c7 fun v19 =>
 bx Q3 v19 fun c_1 =>
 pZ Q3 c_1 fun c6 =>
 gA Q3 c6 fun v => some (.ret v, s_2)) (
 gC Qn 5 c4 fun v22 =>
 cn Q1W [(.val a2), v15] s_2 fun v25 s_3 =>
 cn Zz [(.val a0), v22, v25] s_3 fun v26 s_4 =>
 bx Q3 v26 fun c_2 =>
 pZ Q3 c_2 fun c6_1 =>
 gA Q3 c6_1 fun v => some (.ret v, s_4)) := (Q5 _ _ _).trans (by kernel_rfl)
noncomputable def Q2g : List Slot → Slot → Slot → St → Res := fun x1_1 x3_1 x4 s => lpD Q0y [.seqR, .seqR, .seqR, .seqL, .seqR, .block] Tryz.f67 [(1, .var x1_1), (3, .s x3_1), (4, .s x4)] s
noncomputable def Q2f : List Slot → Slot → St → Res := fun x1 x3 s => pwD Q0y [.seqR, .seqR, .seqR] Tryz.f67 [(1, .var x1), (3, .s x3)] s
theorem Q71 : ∀ x1_1 x3_1 x4 s_3, Q2g x1_1 x3_1 x4 s_3 =
 gC Qt 4 x1_1 fun v20 =>
 ln Qt v20 fun v21 =>
 bn Q2 .lss x4 v21 fun v22 =>
 condS v22 (
 gC Qt 4 x1_1 fun v27 =>
 ix Qp v27 x4 fun v29 =>
 ld Qp s_3 v29 fun v30 =>
 ca Q0y [v30] s_3 fun v31 s_4 =>
 ap Q1 s_4 x3_1 v31 fun v32 s_5 =>
 nx x4 fun v24 =>
 Q2g x1_1 v32 v24 s_5) (
 some (.ret x3_1, s_3)) := by intros; unfold Q2g; exact (Qa _ _ _ _ _ _).trans (by kernel_rfl)
theorem Qc0 : ∀ x1 x3 s_2, Q2f x1 x3 s_2 =
 Q2g x1 x3 (iv 0) s_2 := by intros; unfold Q2f; exact (Z8 _).trans (by kernel_rfl)
theorem Qfv (a0 : AV) (s : St) : cw (.f Q0y) [a0] s =
 bx Qp (.val a0) fun c1 =>
 gC Qg 0 c1 fun v6 =>
 bn Qg .eql v6 (iv 2) fun v7 =>
 iF v7 fun w =>
 iF v7 fun w_1 =>
 gG w_1 w Qg 0 c1 fun v10 =>
 iF v7 fun w_2 =>
 gB w_2 Qg .eql v10 (iv 6) fun v11 =>
 pk v7 (bv true) v11 fun v12 =>
 condS v12 (
 gC Q1 2 c1 fun v15 =>
 bs Q1 [v15] fun v16 =>
 ap Q1 s (.val (.nils)) v16 fun v17 s_1 =>
 Q2f c1 v17 s_1) (
 Q2f c1 (.val (.nils)) s) := (Q5 _ _ _).trans (by kernel_rfl)
noncomputable def Q15 : Slot → Slot → Slot → St → Res := fun x0 x3 x4 s => lpD Q1j [.seqR, .seqR, .seqL, .seqR, .block] Tryz.f68 [(0, .s x0), (3, .s x3), (4, .s x4)] s
theorem Q5B : ∀ x0 x3 x4 s_1, Q15 x0 x3 x4 s_1 =
 ln Z5 x0 fun v8 =>
 bn Q2 .lss x4 v8 fun v9 =>
 condS v9 (
 ix Q8 x0 x4 fun v14 =>
 ld Q8 s_1 v14 fun v15 =>
 bx Q8 v15 fun c =>
 pZ Q8 c fun c5 =>
 gC Q6 6 c5 fun v18 =>
 ca Zu [v18] s_1 fun v19 s_2 =>
 bx Q6 v19 fun c_1 =>
 pt c5 6 c_1 fun c5_1 =>
 gA Q8 c5_1 fun v23 =>
 bs Q8 [v23] fun v24 =>
 ap Q8 s_2 x3 v24 fun v25 s_3 =>
 nx x4 fun v11 =>
 Q15 x0 v25 v11 s_3) (
 some (.ret x3, s_1)) := by intros; unfold Q15; exact (Qa _ _ _ _ _ _).trans (by kernel_rfl)
theorem Qd9 (a0 : AV) (s : St) : cw (.f Q1j) [a0] s =
 Q15 (.val a0) (.val (.nils)) (iv 0) s := (Q5 _ _ _).trans (by kernel_rfl)
theorem Qb0 (a0 : AV) (a1 : AV) (s : St) : cw (.f Q1V) [a0, a1] s =
 ca Q2C [(.val a0), (.val a1)] s fun v9 s_1 =>
 ca Q28 [(.val a1)] s_1 fun v11 s_2 =>
 iF v11 fun w =>
 iF v11 fun w_1 =>
 gL w_1 Q2H (gdV w v9) fun v14 =>
 iF v11 fun w_2 =>
 gB w_2 Q2 .eql v14 (iv 0) fun v15 =>
 pk v11 (bv true) v15 fun v16 =>
 condS v16 (
 rt [(some (iv 0)), (some (bv false))] s_2) (
 ix Q8 v9 (iv 0) fun v18 =>
 fa 5 v18 fun v19 =>
 fa 0 v19 fun v20 =>
 ld Q2 s_2 v20 fun v21 =>
 rt [(some v21), (some (bv true))] s_2) := (Q5 _ _ _).trans (by kernel_rfl)
theorem Qep (a0 : AV) (s : St) : cw (.f Q28) [a0] s =
 bn Q1 .eql (.val a0) (sv [105, 110, 116]) fun v4 =>
 iF v4 fun w =>
 iF v4 fun w_1 =>
 gB w_1 Q1 .eql (gdV w (.val a0)) (sv [98, 111, 111, 108]) fun v7 =>
 pk v4 (bv true) v7 fun v8 =>
 iF v8 fun w_2 =>
 iF v8 fun w_3 =>
 gB w_3 Q1 .eql (gdV w_2 (.val a0)) (sv [117, 110, 105, 116]) fun v11 =>
 pk v8 (bv true) v11 fun v12 =>
 iF v12 fun w_4 =>
 iF v12 fun w_5 =>
 gB w_5 Q1 .eql (gdV w_4 (.val a0)) (sv [101, 120, 110]) fun v15 =>
 pk v12 (bv true) v15 fun v16 =>
 iF v16 fun w_6 =>
 iF v16 fun w_7 =>
 gB w_7 Q1 .eql (gdV w_6 (.val a0)) (sv [114, 101, 102]) fun v19 =>
 pk v16 (bv true) v19 fun v20 =>
 iF v20 fun w_8 =>
 iF v20 fun w_9 =>
 gB w_9 Q1 .eql (gdV w_8 (.val a0)) (sv [45, 62]) fun v23 =>
 pk v20 (bv true) v23 fun v24 =>
 iF v24 fun w_10 =>
 iF v24 fun w_11 =>
 gB w_11 Q1 .eql (gdV w_10 (.val a0)) (sv [42]) fun v27 =>
 pk v24 (bv true) v27 fun v28 =>
 some (.ret v28, s) := (Q5 _ _ _).trans (by kernel_rfl)
noncomputable def Q2h : Slot → Slot → List Slot → Slot → St → Res := fun x0 x1 x4 x6 s => lpD Q2D [.seqR, .seqL, .seqR, .block] Tryz.f71 [(0, .s x0), (1, .s x1), (4, .var x4), (6, .s x6)] s
theorem Q76 : ∀ x0 x1 x4 x6 s_1, Q2h x0 x1 x4 x6 s_1 =
 ln Z5 x0 fun v10 =>
 bn Q2 .lss x6 v10 fun v11 =>
 condS v11 (
 ix Q8 x0 x6 fun v16 =>
 fa 0 v16 fun v17 =>
 ld Q1 s_1 v17 fun v18 =>
 bn Q1 .eql v18 x1 fun v20 =>
 condS v20 (
 ix Q8 x0 x6 fun v23 =>
 ld Q8 s_1 v23 fun v24 =>
 bx Q8 v24 fun c =>
 pZ Q8 c fun c7 =>
 gC Q6 6 c7 fun v27 =>
 ca Zu [v27] s_1 fun v28 s_2 =>
 bx Q6 v28 fun c_1 =>
 pt c7 6 c_1 fun c7_1 =>
 gA Q8 c7_1 fun v31 =>
 bx Q8 v31 fun c_2 =>
 pt x4 0 c_2 fun c4 =>
 rt [(ofSlots (C.ti Q8) (List.take (C.ti Q8).size c4)), (some (bv true))] s_2) (
 nx x6 fun v13 =>
 Q2h x0 x1 x4 v13 s_1)) (
 bd Q8 [] fun v32 =>
 bx Q8 v32 fun c_3 =>
 pt x4 0 c_3 fun c4_1 =>
 rt [(ofSlots (C.ti Q8) (List.take (C.ti Q8).size c4_1)), (some (bv false))] s_1) := by intros; unfold Q2h; exact (Qa _ _ _ _ _ _).trans (by kernel_rfl)
theorem QfC (a0 : AV) (a1 : AV) (s : St) : cw (.f Q2D) [a0, a1] s =
 Q2h (.val a0) (.val a1) ((List.map .val (C.ti Q8).zero)) (iv 0) s := (Q5 _ _ _).trans (by kernel_rfl)
noncomputable def Q0O : Slot → Slot → Slot → Slot → St → Res := fun x0 x1 x5 x6 s => lpD Q2C [.seqR, .seqR, .seqL, .seqR, .block] Tryz.f72 [(0, .s x0), (1, .s x1), (5, .s x5), (6, .s x6)] s
theorem Q75 : ∀ x0 x1 x5 x6 s_1, Q0O x0 x1 x5 x6 s_1 =
 ln Z5 x0 fun v10 =>
 bn Q2 .lss x6 v10 fun v11 =>
 condS v11 (
 ix Q8 x0 x6 fun v16 =>
 fa 1 v16 fun v17 =>
 ld Q1 s_1 v17 fun v18 =>
 bn Q1 .eql v18 x1 fun v20 =>
 condS v20 (
 ix Q8 x0 x6 fun v23 =>
 ld Q8 s_1 v23 fun v24 =>
 bx Q8 v24 fun c =>
 pZ Q8 c fun c7 =>
 gC Q6 6 c7 fun v27 =>
 ca Zu [v27] s_1 fun v28 s_2 =>
 bx Q6 v28 fun c_1 =>
 pt c7 6 c_1 fun c7_1 =>
 gA Q8 c7_1 fun v32 =>
 bs Q8 [v32] fun v33 =>
 ap Q8 s_2 x5 v33 fun v34 s_3 =>
 nx x6 fun v13 =>
 Q0O x0 x1 v34 v13 s_3) (
 nx x6 fun v13_1 =>
 Q0O x0 x1 x5 v13_1 s_1)) (
 some (.ret x5, s_1)) := by intros; unfold Q0O; exact (Qa _ _ _ _ _ _).trans (by kernel_rfl)
theorem QfB (a0 : AV) (a1 : AV) (s : St) : cw (.f Q2C) [a0, a1] s =
 Q0O (.val a0) (.val a1) (.val (.nils)) (iv 0) s := (Q5 _ _ _).trans (by kernel_rfl)
noncomputable def Q2e : Slot → List Slot → Slot → Slot → St → Res := fun x1 x2 x5 x6 s => lpD ZX [.seqR, .seqR, .seqL, .seqR, .block] Tryz.f73 [(1, .s x1), (2, .var x2), (5, .s x5), (6, .s x6)] s
theorem Q70 : ∀ x1 x2 x5 x6 s_1, Q2e x1 x2 x5 x6 s_1 =
 gC Qj 3 x2 fun v13 =>
 ln Qj v13 fun v14 =>
 bn Q2 .lss x6 v14 fun v15 =>
 condS v15 (
 gC Qj 3 x2 fun v20 =>
 ix Q6 v20 x6 fun v22 =>
 ld Q6 s_1 v22 fun v23 =>
 ca ZX [v23, x1] s_1 fun v25 s_2 =>
 ap Qd s_2 x5 v25 fun v26 s_3 =>
 nx x6 fun v17 =>
 Q2e x1 x2 v26 v17 s_3) (
 some (.ret x5, s_1)) := by intros; unfold Q2e; exact (Qa _ _ _ _ _ _).trans (by kernel_rfl)
theorem Qft (a0 : AV) (a1 : AV) (s : St) : cw (.f ZX) [a0, a1] s =
 bx Q6 (.val a0) fun c2 =>
 gA Q6 c2 fun v7 =>
 bd Qd [(0, Q2, (iv 4)), (22, Q6, v7), (2, Q2, (.val a1))] fun v9 =>
 bs Qd [v9] fun v10 =>
 Q2e (.val a1) c2 v10 (iv 0) s := (Q5 _ _ _).trans (by kernel_rfl)
noncomputable def Q1F : List Slot → Slot → Slot → St → Res := fun x5 x8 x9 s => pwD Q3C [.seqR, .seqR, .seqR, .seqR, .seqR] Tryz.f74 [(5, .var x5), (8, .s x8), (9, .s x9)] s
theorem Qb1 : ∀ x5 x8 x9 s_3, Q1F x5 x8 x9 s_3 =
 nt x9 fun v46 =>
 condS v46 (
 gC Q1 2 x5 fun v48 =>
 rt [(some (iv 8)), (some v48)] s_3) (
 gC Qj 3 x5 fun v50 =>
 ln Qj v50 fun v51 =>
 bn Q2 .neq v51 x8 fun v53 =>
 condS v53 (
 gC Q1 2 x5 fun v55 =>
 rt [(some (iv 19)), (some v55)] s_3) (
 rt [(some (iv 0)), (some (sv []))] s_3)) := by intros; unfold Q1F; exact (Z8 _).trans (by kernel_rfl)
theorem Q5a (a0 : AV) (a1 : AV) (a2 : AV) (s : St) : cw (.f Q3C) [a0, a1, a2] s =
 bx Qi (.val a1) fun c4 =>
 bx Q6 (.val a2) fun c5 =>
 gC Qm 0 c5 fun v11 =>
 bn Qm .eql v11 (iv 1) fun v12 =>
 condS v12 (
 gC Qc 0 c4 fun v14 =>
 bn Qc .neq v14 (iv 3) fun v15 =>
 iF v15 fun w =>
 iF v15 fun w_1 =>
 gG w_1 w Q2 1 c5 fun v18 =>
 iF v15 fun w_2 =>
 iF v15 fun w_3 =>
 gG w_3 w_2 Q2 3 c4 fun v20 =>
 iF v15 fun w_4 =>
 gB w_4 Q2 .geq v18 v20 fun v21 =>
 pk v15 (bv true) v21 fun v22 =>
 condS v22 (
 rt [(some (iv 16)), (some (sv []))] s) (
 rt [(some (iv 0)), (some (sv []))] s)) (
 gC Q1 2 c5 fun v24 =>
 ca Q28 [v24] s fun v25 s_1 =>
 condS v25 (
 rt [(some (iv 0)), (some (sv []))] s_1) (
 gC Q1 2 c5 fun v29 =>
 ca Q1V [(.val a0), v29] s_1 fun v30 s_2 =>
 ex v30 0 fun v31 =>
 ex v30 1 fun v32 =>
 gC Qc 0 c4 fun v34 =>
 bn Qc .eql v34 (iv 3) fun v35 =>
 iT v35 fun w_5 =>
 iT v35 fun w_6 =>
 gG w_6 w_5 Q1 2 c5 fun v38 =>
 iT v35 fun w_7 =>
 iT v35 fun w_8 =>
 gG w_8 w_7 Q1 2 c4 fun v40 =>
 iT v35 fun w_9 =>
 gB w_9 Q1 .eql v38 v40 fun v41 =>
 pk v35 v41 (bv false) fun v42 =>
 condS v42 (
 gC Q2 3 c4 fun v44 =>
 Q1F c5 v44 (bv true) s_2) (
 Q1F c5 v31 v32 s_2))) := (Q5 _ _ _).trans (by kernel_rfl)
theorem QhN (a0 : AV) (a1 : AV) (s : St) : cw (.f Q92) [a0, a1] s =
 bx Q6 (.val a0) fun c2 =>
 bx Q6 (.val a1) fun c3 =>
 gA Q6 c2 fun v5 =>
 gA Q6 c3 fun v6 =>
 bs Q6 [v5, v6] fun v7 =>
 ca Q6p [(sv [45, 62]), v7] s fun v8 s_1 =>
 bx Q6 v8 fun c =>
 pZ Q6 c fun c4 =>
 gA Q6 c4 fun v => some (.ret v, s_1) := (Q5 _ _ _).trans (by kernel_rfl)
theorem QaD (a0 : AV) (s : St) : cw (.f Q3a) [a0] s =
 bx Qn (.val a0) fun c1 =>
 bindA (avs c1) fun l1 =>
 bind1 (fnS Q2v [(.val (.cp l1))]) fun v3 =>
 some (.ret v3, s) := (Q5 _ _ _).trans (by kernel_rfl)
theorem QaA (a0 : AV) (s : St) : cw (.f Q39) [a0] s =
 ld Qn s (.val a0) fun v2 =>
 ca ZR [v2] s fun v3 s_1 =>
 some (.ret v3, s_1) := (Q5 _ _ _).trans (by kernel_rfl)
noncomputable def Q17 : Slot → Slot → Slot → Slot → St → Res := fun x3 x14 x15 x16 s => lpD ZR [.seqR, .seqR, .seqL, .seqR, .block] Tryz.f78 [(3, .s x3), (14, .s x14), (15, .s x15), (16, .s x16)] s
theorem Q5E : ∀ x3 x14 x15 x16 s_3, Q17 x3 x14 x15 x16 s_3 =
 bn Q2 .lss x16 x15 fun v17 =>
 condS v17 (
 ix Qn x14 x16 fun v18 =>
 ld Qn s_3 v18 fun v19 =>
 bx Qn v19 fun c =>
 pZ Qn c fun c5 =>
 gA Qn c5 fun v21 =>
 ca ZR [v21] s_3 fun v22 s_4 =>
 bind1 (max2 x3 v22) fun v23 =>
 nx x16 fun v24 =>
 Q17 v23 x14 x15 v24 s_4) (
 nx x3 fun v26 =>
 some (.ret v26, s_3)) := by intros; unfold Q17; exact (Qa _ _ _ _ _ _).trans (by kernel_rfl)
theorem Qdr (a0 : AV) (s : St) : cw (.f ZR) [a0] s =
 bx Qn (.val a0) fun c1 =>
 gC Qs 6 c1 fun v7 =>
 cn Zj [v7] s fun v8 s_1 =>
 gC Qe 5 c1 fun v10 =>
 cn Zs [v10] s_1 fun v11 s_2 =>
 bind1 (max2 v8 v11) fun v12 =>
 gC Qu 4 c1 fun v14 =>
 ln Qu v14 fun v15 =>
 Q17 v12 v14 v15 (iv 0) s_2 := (Q5 _ _ _).trans (by kernel_rfl)
noncomputable def QR : Slot → Slot → Slot → Slot → St → Res := fun x0 x1 x7 x8 s => lpD Z7 [.seqR, .seqL, .seqR, .block] Tryz.f79 [(0, .s x0), (1, .s x1), (7, .s x7), (8, .s x8)] s
theorem Q0m : ∀ x0 x1 x7 x8 s_1, QR x0 x1 x7 x8 s_1 =
 bn Q2 .lss x8 x7 fun v9 =>
 condS v9 (
 ix Q1 x0 x8 fun v14 =>
 ld Q1 s_1 v14 fun v15 =>
 bn Q1 .eql x1 v15 fun v16 =>
 condS v16 (
 some (.ret x8, s_1)) (
 nx x8 fun v18 =>
 QR x0 x1 x7 v18 s_1)) (
 some (.ret (iv (-1)), s_1)) := by intros; unfold QR; exact (Qa _ _ _ _ _ _).trans (by kernel_rfl)
theorem Q4y (a0 : AV) (a1 : AV) (s : St) : cw (.f Z7) [a0, a1] s =
 ln Qf (.val a0) fun v7 =>
 QR (.val a0) (.val a1) v7 (iv 0) s := (Q5 _ _ _).trans (by kernel_rfl)
noncomputable def Q1x : List Slot → Slot → Slot → St → Res := fun x1_2 x3_2 x6 s => lpD Q06 [.seqR, .seqR, .seqR, .seqR, .seqL, .seqR, .block] Tryz.f80 [(1, .var x1_2), (3, .s x3_2), (6, .s x6)] s
noncomputable def Q1w : List Slot → Slot → Slot → St → Res := fun x1_1 x3_1 x5 s => lpD Q06 [.seqR, .seqR, .seqR, .seqL, .seqR, .block] Tryz.f80 [(1, .var x1_1), (3, .s x3_1), (5, .s x5)] s
noncomputable def Q1v : List Slot → Slot → Slot → St → Res := fun x1 x3 x4 s => lpD Q06 [.seqR, .seqR, .seqL, .seqR, .block] Tryz.f80 [(1, .var x1), (3, .s x3), (4, .s x4)] s
theorem Q5Y : ∀ x1_2 x3_2 x6 s_7, Q1x x1_2 x3_2 x6 s_7 =
 gC Qe 5 x1_2 fun v44 =>
 ln Qe v44 fun v45 =>
 bn Q2 .lss x6 v45 fun v46 =>
 condS v46 (
 gC Qe 5 x1_2 fun v51 =>
 ix Qr v51 x6 fun v53 =>
 ld Qr s_7 v53 fun v54 =>
 ca Q1g [v54] s_7 fun v55 s_8 =>
 ap Qd s_8 x3_2 v55 fun v56 s_9 =>
 nx x6 fun v48 =>
 Q1x x1_2 v56 v48 s_9) (
 some (.ret x3_2, s_7)) := by intros; unfold Q1x; exact (Qa _ _ _ _ _ _).trans (by kernel_rfl)
theorem Q5X : ∀ x1_1 x3_1 x5 s_4, Q1w x1_1 x3_1 x5 s_4 =
 gC Qu 4 x1_1 fun v29 =>
 ln Qu v29 fun v30 =>
 bn Q2 .lss x5 v30 fun v31 =>
 condS v31 (
 gC Qu 4 x1_1 fun v36 =>
 ix Qn v36 x5 fun v38 =>
 ld Qn s_4 v38 fun v39 =>
 ca Q06 [v39] s_4 fun v40 s_5 =>
 ap Qd s_5 x3_1 v40 fun v41 s_6 =>
 nx x5 fun v33 =>
 Q1w x1_1 v41 v33 s_6) (
 Q1x x1_1 x3_1 (iv 0) s_4) := by intros; unfold Q1w; exact (Qa _ _ _ _ _ _).trans (by kernel_rfl)
theorem Q5W : ∀ x1 x3 x4 s_1, Q1v x1 x3 x4 s_1 =
 gC Qs 6 x1 fun v14 =>
 ln Qs v14 fun v15 =>
 bn Q2 .lss x4 v15 fun v16 =>
 condS v16 (
 gC Qs 6 x1 fun v21 =>
 ix Qi v21 x4 fun v23 =>
 ld Qi s_1 v23 fun v24 =>
 ca Q05 [v24, (bv true)] s_1 fun v25 s_2 =>
 ap Qd s_2 x3 v25 fun v26 s_3 =>
 nx x4 fun v18 =>
 Q1v x1 v26 v18 s_3) (
 Q1w x1 x3 (iv 0) s_1) := by intros; unfold Q1v; exact (Qa _ _ _ _ _ _).trans (by kernel_rfl)
theorem Qea (a0 : AV) (s : St) : cw (.f Q06) [a0] s =
 bx Qn (.val a0) fun c1 =>
 gA Qn c1 fun v7 =>
 gC Q2 1 c1 fun v9 =>
 bd Qd [(0, Q2, (iv 2)), (10, Qn, v7), (2, Q2, v9)] fun v10 =>
 bs Qd [v10] fun v11 =>
 Q1v c1 v11 (iv 0) s := (Q5 _ _ _).trans (by kernel_rfl)
noncomputable def Q0D : List Slot → Slot → Slot → St → Res := fun x1_1 x3_1 x5 s => lpD Zg [.seqR, .seqR, .seqR, .seqL, .seqR, .block] Tryz.f81 [(1, .var x1_1), (3, .s x3_1), (5, .s x5)] s
noncomputable def Q0C : List Slot → Slot → Slot → St → Res := fun x1 x3 x4 s => lpD Zg [.seqR, .seqR, .seqL, .seqR, .block] Tryz.f81 [(1, .var x1), (3, .s x3), (4, .s x4)] s
theorem Q4D : ∀ x1_1 x3_1 x5 s_4, Q0D x1_1 x3_1 x5 s_4 =
 gC Qe 5 x1_1 fun v26 =>
 ln Qe v26 fun v27 =>
 bn Q2 .lss x5 v27 fun v28 =>
 condS v28 (
 gC Qe 5 x1_1 fun v33 =>
 ix Qr v33 x5 fun v35 =>
 fa 0 v35 fun v36 =>
 bind1 (ldV (C.ti Qp) true s_4 v36) fun v37 =>
 cn Zh [v37] s_4 fun v38 s_5 =>
 gC Qe 5 x1_1 fun v40 =>
 ix Qr v40 x5 fun v42 =>
 fa 5 v42 fun v43 =>
 bind1 (ldV (C.ti Qn) true s_5 v43) fun v44 =>
 cn Zg [v44] s_5 fun v45 s_6 =>
 bind1 (max3 x3_1 v38 v45) fun v46 =>
 nx x5 fun v30 =>
 Q0D x1_1 v46 v30 s_6) (
 nx x3_1 fun v48 =>
 some (.ret v48, s_4)) := by intros; unfold Q0D; exact (Qa _ _ _ _ _ _).trans (by kernel_rfl)
theorem Q4C : ∀ x1 x3 x4 s_2, Q0C x1 x3 x4 s_2 =
 gC Qu 4 x1 fun v11 =>
 ln Qu v11 fun v12 =>
 bn Q2 .lss x4 v12 fun v13 =>
 condS v13 (
 gC Qu 4 x1 fun v18 =>
 ix Qn v18 x4 fun v20 =>
 ld Qn s_2 v20 fun v21 =>
 ca Zg [v21] s_2 fun v22 s_3 =>
 bind1 (max2 x3 v22) fun v23 =>
 nx x4 fun v15 =>
 Q0C x1 v23 v15 s_3) (
 Q0D x1 x3 (iv 0) s_2) := by intros; unfold Q0C; exact (Qa _ _ _ _ _ _).trans (by kernel_rfl)
theorem QbY (a0 : AV) (s : St) : cw (.f Zg) [a0] s =
 bx Qn (.val a0) fun c1 =>
 gC Qs 6 c1 fun v7 =>
 ca ZC [v7] s fun v8 s_1 =>
 Q0C c1 v8 (iv 0) s_1 := (Q5 _ _ _).trans (by kernel_rfl)
theorem Q7g (a0 : AV) (a1 : AV) (s : St) : cw (.f Zi) [a0, a1] s =
 ld Qf s (.val a1) fun v3 =>
 ca QX [v3, (.val a0)] s fun v5 s_1 =>
 nt v5 fun v6 =>
 condS v6 (
 ld Qf s_1 (.val a1) fun v7 =>
 bs Q1 [(.val a0)] fun v9 =>
 ap Q1 s_1 v7 v9 fun v10 s_2 =>
 bx Qf v10 fun c =>
 sto s_2 (.val a1) c fun s_3 =>
 rt [] s_3) (
 rt [] s_1) := (Q5 _ _ _).trans (by kernel_rfl)
noncomputable def Q7k (x3 : Slot) : Am.Obj := .loop .ready none Q3h [(3, .s x3)] [7] (rngAsg (codeAt [.seqR, .seqR, .seqL, .seqR, .block] (body Tryz.f83))) (rngBody (codeAt [.seqR, .seqR, .seqL, .seqR, .block] (body Tryz.f83)))
theorem Qdo (x3 : Slot) (y7 : AV) (loc : Nat) (s_2 : St) : yldR C (Q7k x3) loc [y7] s_2 = noPan (
 bx QN (.val y7) fun c =>
 pZ QN c fun c4 =>
 bindS (beginL loc s_2) fun s_3 =>
 gC Q0q 5 c4 fun v9 =>
 bind1 (nilCheckV v9) fun v10 =>
 fa 0 v10 fun v11 =>
 ld Qg s_3 v11 fun v12 =>
 bn Qg .eql v12 (iv 2) fun v13 =>
 iF v13 fun w =>
 iF v13 fun w_1 =>
 gG w_1 w Q0q 5 c4 fun v16 =>
 iF v13 fun w_2 =>
 bind1 (gd w_2 (nilCheckV v16)) fun v17 =>
 iF v13 fun w_3 =>
 bind1 (gd w_3 (faV 0 v17)) fun v18 =>
 iF v13 fun w_4 =>
 bind1 (gd w_4 (ldV (C.ti Qg) false s_3 v18)) fun v19 =>
 iF v13 fun w_5 =>
 gB w_5 Qg .eql v19 (iv 6) fun v20 =>
 pk v13 (bv true) v20 fun v21 =>
 condS v21 (
 ld Qf s_3 x3 fun v22 =>
 gC Q0q 5 c4 fun v24 =>
 bind1 (nilCheckV v24) fun v25 =>
 fa 2 v25 fun v26 =>
 ld Q1 s_3 v26 fun v27 =>
 bs Q1 [v27] fun v28 =>
 ap Q1 s_3 v22 v28 fun v29 s_4 =>
 bx Qf v29 fun c_1 =>
 sto s_4 x3 c_1 fun s_5 =>
 bindS (setLoop loc .ready none s_5) fun s_6 =>
 some (.ret (bv true), s_6)) (
 bindS (setLoop loc .ready none s_3) fun s_7 =>
 some (.ret (bv true), s_7))) := by kernel_rfl
theorem Qhb (a0 : AV) (s : St) : cw (.f Q3h) [a0] s =
 bx Qp (.val a0) fun c1 =>
 gA Qp c1 fun v5 =>
 ca Q4Y [v5] (St.addLoc s (.var (List.map .val (C.ti Qf).zero))) fun v6 s_1 =>
 rangeC C cw v6 s_1.locs.length (St.addLoc s_1 (Q7k (.val (.vp s.locs.length 0)))) fun s_8 =>
 endX s_1.locs.length s_8 (fun s_9 =>
 ld Qf s_9 (.val (.vp s.locs.length 0)) fun v30 =>
 some (.ret v30, s_9)) (fun s_10 =>
 some (.ret (.val (.nils)), s_10)) (fun j s_11 =>
 bif Nat.beq j 0 then (
 ld Qf s_11 (.val (.vp s.locs.length 0)) fun v30_1 =>
 some (.ret v30_1, s_11)) else (
(none : Res))) := (Q5 _ _ _).trans (by kernel_rfl)
theorem Qem (a0 : AV) (s : St) : cw (.f Q5J) [a0] s =
 bx Qd (.val a0) fun c1 =>
 gC Q2 0 c1 fun v5 =>
 bn Q2 .eql v5 (iv 1) fun v7 =>
 condS v7 (
 gC Qi 3 c1 fun v9 =>
 gC Qk 1 c1 fun v11 =>
 cn Q8e [v9, v11] s fun v12 s_1 =>
 gC Q1 5 c1 fun v15 =>
 rt [(some v12), (some v15)] s_1) (
 bn Q2 .eql v5 (iv 2) fun v17 =>
 condS v17 (
 gC Qn 10 c1 fun v19 =>
 cn Q8f [v19] s fun v20 s_2 =>
 gC Q1 12 c1 fun v23 =>
 rt [(some v20), (some v23)] s_2) (
 bn Q2 .eql v5 (iv 3) fun v25 =>
 condS v25 (
 gC Qp 17 c1 fun v27 =>
 cn Q8g [v27] s fun v28 s_3 =>
 gC Q1 19 c1 fun v31 =>
 rt [(some v28), (some v31)] s_3) (
 bn Q2 .eql v5 (iv 4) fun v33 =>
 condS v33 (
 gC Q6 22 c1 fun v35 =>
 cn Q91 [v35] s fun v36 s_4 =>
 gC Q1 24 c1 fun v39 =>
 rt [(some v36), (some v39)] s_4) (
 bn Q2 .eql v5 (iv 5) fun v41 =>
 condS v41 (
 gC Q1 26 c1 fun v44 =>
 ca Q19 [v44] s fun v45 s_5 =>
 nt v45 fun v46 =>
 condS v46 (
 gC Q1 26 c1 fun v49 =>
 rt [(some (iv 8)), (some v49)] s_5) (
 rt [(some (iv 0)), (some (sv []))] s_5)) (
 gC Qk 42 c1 fun v52 =>
 nt v52 fun v53 =>
 iT v53 fun w =>
 iT v53 fun w_1 =>
 chkP w w_1 fun _ =>
 iT v53 fun w_2 =>
 bind1 (gd w_2 (bif (w && w_1) then (ofSlots (C.ti Q6) (List.take (C.ti Q6).size (List.drop 43 c1))) else none)) fun v57 =>
 iT v53 fun w_3 =>
 cg w_3 Q4W [v57] s fun v58 s_6 =>
 iT v53 fun w_4 =>
 gN w_4 v58 fun v59 =>
 pk v53 v59 (bv false) fun v60 =>
 condS v60 (
 rt [(some (iv 29)), (some (sv []))] s_6) (
 gC Q1 40 c1 fun v63 =>
 ca Q2z [v63] s_6 fun v64 s_7 =>
 nt v64 fun v65 =>
 condS v65 (
 gC Q1 40 c1 fun v68 =>
 rt [(some (iv 8)), (some v68)] s_7) (
 rt [(some (iv 0)), (some (sv []))] s_7))))))) := (Q5 _ _ _).trans (by kernel_rfl)
noncomputable def Q0t : List Slot → Slot → Slot → St → Res := fun x2_2 x5_2 x8 s => lpD Q05 [.seqR, .seqR, .seqR, .seqR, .seqL, .seqR, .block] Tryz.f85 [(2, .var x2_2), (5, .s x5_2), (8, .s x8)] s
noncomputable def Q1u : List Slot → Slot → Slot → St → Res := fun x2_1 x5_1 x7 s => lpD Q05 [.seqR, .seqR, .seqR, .seqL, .seqR, .block] Tryz.f85 [(2, .var x2_1), (5, .s x5_1), (7, .s x7)] s
noncomputable def Q1t : List Slot → Slot → Slot → St → Res := fun x2 x5 x6 s => lpD Q05 [.seqR, .seqR, .seqL, .seqR, .block] Tryz.f85 [(2, .var x2), (5, .s x5), (6, .s x6)] s
theorem Q3c : ∀ x2_2 x5_2 x8 s_8, Q0t x2_2 x5_2 x8 s_8 =
 gC Qv 4 x2_2 fun v64 =>
 ln Qv v64 fun v65 =>
 bn Q2 .lss x8 v65 fun v66 =>
 condS v66 (
 gC Qv 4 x2_2 fun v70 =>
 ix Z4 v70 x8 fun v72 =>
 ld Z4 s_8 v72 fun v73 =>
 bx Z4 v73 fun c =>
 pZ Z4 c fun c9 =>
 gA Z4 c9 fun v75 =>
 gC Q2 1 c9 fun v77 =>
 bd Qd [(0, Q2, (iv 6)), (40, Z4, v75), (2, Q2, v77)] fun v78 =>
 bs Qd [v78] fun v79 =>
 ap Qd s_8 x5_2 v79 fun v80 s_9 =>
 gC Qk 2 c9 fun v82 =>
 condS v82 (
 gC Q6 3 c9 fun v85 =>
 gC Q2 1 c9 fun v87 =>
 ca ZX [v85, v87] s_9 fun v88 s_10 =>
 ap Qd s_10 v80 v88 fun v89 s_11 =>
 nx x8 fun v68 =>
 Q0t x2_2 v89 v68 s_11) (
 nx x8 fun v68_1 =>
 Q0t x2_2 v80 v68_1 s_9)) (
 some (.ret x5_2, s_8)) := by intros; unfold Q0t; exact (Qa _ _ _ _ _ _).trans (by kernel_rfl)
theorem Q5V : ∀ x2_1 x5_1 x7 s_4, Q1u x2_1 x5_1 x7 s_4 =
 gC Qx 6 x2_1 fun v33 =>
 ln Qx v33 fun v34 =>
 bn Q2 .lss x7 v34 fun v35 =>
 condS v35 (
 gC Qx 6 x2_1 fun v40 =>
 ix QU v40 x7 fun v42 =>
 ld QU s_4 v42 fun v43 =>
 gC Qx 6 x2_1 fun v45 =>
 ix QU v45 x7 fun v47 =>
 fa 1 v47 fun v48 =>
 ld Q2 s_4 v48 fun v49 =>
 bd Qd [(0, Q2, (iv 5)), (26, QU, v43), (2, Q2, v49)] fun v50 =>
 bs Qd [v50] fun v51 =>
 ap Qd s_4 x5_1 v51 fun v52 s_5 =>
 gC Qx 6 x2_1 fun v55 =>
 ix QU v55 x7 fun v57 =>
 fa 2 v57 fun v58 =>
 ld Qr s_5 v58 fun v59 =>
 ca Q1g [v59] s_5 fun v60 s_6 =>
 ap Qd s_6 v52 v60 fun v61 s_7 =>
 nx x7 fun v37 =>
 Q1u x2_1 v61 v37 s_7) (
 Q0t x2_1 x5_1 (iv 0) s_4) := by intros; unfold Q1u; exact (Qa _ _ _ _ _ _).trans (by kernel_rfl)
theorem Q5U : ∀ x2 x5 x6 s_1, Q1t x2 x5 x6 s_1 =
 gC Qe 5 x2 fun v18 =>
 ln Qe v18 fun v19 =>
 bn Q2 .lss x6 v19 fun v20 =>
 condS v20 (
 gC Qe 5 x2 fun v25 =>
 ix Qr v25 x6 fun v27 =>
 ld Qr s_1 v27 fun v28 =>
 ca Q1g [v28] s_1 fun v29 s_2 =>
 ap Qd s_2 x5 v29 fun v30 s_3 =>
 nx x6 fun v22 =>
 Q1t x2 v30 v22 s_3) (
 Q1u x2 x5 (iv 0) s_1) := by intros; unfold Q1t; exact (Qa _ _ _ _ _ _).trans (by kernel_rfl)
theorem Qe9 (a0 : AV) (a1 : AV) (s : St) : cw (.f Q05) [a0, a1] s =
 bx Qi (.val a0) fun c2 =>
 gA Qi c2 fun v10 =>
 gC Q2 1 c2 fun v12 =>
 bd Qd [(0, Q2, (iv 1)), (3, Qi, v10), (2, Q2, v12), (1, Qk, (.val a1))] fun v14 =>
 bs Qd [v14] fun v15 =>
 Q1t c2 v15 (iv 0) s := (Q5 _ _ _).trans (by kernel_rfl)
noncomputable def Q0E : List Slot → Slot → Slot → St → Res := fun x1 x3 x4 s => lpD Zh [.seqR, .seqR, .seqL, .seqR, .block] Tryz.f86 [(1, .var x1), (3, .s x3), (4, .s x4)] s
theorem Q4J : ∀ x1 x3 x4 s_1, Q0E x1 x3 x4 s_1 =
 gC Qt 4 x1 fun v7 =>
 ln Qt v7 fun v8 =>
 bn Q2 .lss x4 v8 fun v9 =>
 condS v9 (
 gC Qt 4 x1 fun v14 =>
 ix Qp v14 x4 fun v16 =>
 ld Qp s_1 v16 fun v17 =>
 ca Zh [v17] s_1 fun v18 s_2 =>
 bind1 (max2 x3 v18) fun v19 =>
 nx x4 fun v11 =>
 Q0E x1 v19 v11 s_2) (
 nx x3 fun v21 =>
 some (.ret v21, s_1)) := by intros; unfold Q0E; exact (Qa _ _ _ _ _ _).trans (by kernel_rfl)
theorem Qc4 (a0 : AV) (s : St) : cw (.f Zh) [a0] s =
 bx Qp (.val a0) fun c1 =>
 Q0E c1 (iv 0) (iv 0) s := (Q5 _ _ _).trans (by kernel_rfl)
noncomputable def Q14 : List Slot → Slot → Slot → St → Res := fun x1 x3 x4 s => lpD Q0n [.seqR, .seqR, .seqL, .seqR, .block] Tryz.f87 [(1, .var x1), (3, .s x3), (4, .s x4)] s
theorem Q5z : ∀ x1 x3 x4 s_1, Q14 x1 x3 x4 s_1 =
 gC Qj 3 x1 fun v7 =>
 ln Qj v7 fun v8 =>
 bn Q2 .lss x4 v8 fun v9 =>
 condS v9 (
 gC Qj 3 x1 fun v14 =>
 ix Q6 v14 x4 fun v16 =>
 ld Q6 s_1 v16 fun v17 =>
 ca Q0n [v17] s_1 fun v18 s_2 =>
 bind1 (max2 x3 v18) fun v19 =>
 nx x4 fun v11 =>
 Q14 x1 v19 v11 s_2) (
 nx x3 fun v21 =>
 some (.ret v21, s_1)) := by intros; unfold Q14; exact (Qa _ _ _ _ _ _).trans (by kernel_rfl)
theorem Qd2 (a0 : AV) (s : St) : cw (.f Q0n) [a0] s =
 bx Q6 (.val a0) fun c1 =>
 Q14 c1 (iv 0) (iv 0) s := (Q5 _ _ _).trans (by kernel_rfl)
noncomputable def Q5O (x3 : Slot) (x5 : Slot) : Am.Obj := .loop .ready none Q40 [(3, .s x3), (5, .s x5)] [8] (rngAsg (codeAt [.seqR, .seqR, .seqL, .seqR, .block] (body Tryz.f88))) (rngBody (codeAt [.seqR, .seqR, .seqL, .seqR, .block] (body Tryz.f88)))
theorem Qcg (x3 : Slot) (x5 : Slot) (y8 : AV) (loc : Nat) (s_2 : St) : yldR C (Q5O x3 x5) loc [y8] s_2 = noPan (
 bx QN (.val y8) fun c_1 =>
 pZ QN c_1 fun c6 =>
 bindS (beginL loc s_2) fun s_3 =>
 gA QN c6 fun v9 =>
 ca Q3b [v9] s_3 fun v10 s_4 =>
 condS v10 (
 ld Q2 s_4 x5 fun v11 =>
 nx v11 fun v12 =>
 bx Q2 v12 fun c_2 =>
 sto s_4 x5 c_2 fun s_5 =>
 ld Q2 s_5 x5 fun v13 =>
 ld Q2 s_5 x3 fun v14 =>
 bn Q2 .geq v13 v14 fun v15 =>
 condS v15 (
 bindS (setLoop loc .done (some (.exit 0)) s_5) fun s_6 =>
 some (.ret (bv false), s_6)) (
 bindS (setLoop loc .ready none s_5) fun s_7 =>
 some (.ret (bv true), s_7))) (
 ld Q2 s_4 x5 fun v13_1 =>
 ld Q2 s_4 x3 fun v14_1 =>
 bn Q2 .geq v13_1 v14_1 fun v15_1 =>
 condS v15_1 (
 bindS (setLoop loc .done (some (.exit 0)) s_4) fun s_8 =>
 some (.ret (bv false), s_8)) (
 bindS (setLoop loc .ready none s_4) fun s_9 =>
 some (.ret (bv true), s_9)))) := by kernel_rfl
theorem QfK (a0 : AV) (a1 : AV) (s : St) : cw (.f Q40) [a0, a1] s =
 bx Q2 (.val a1) fun c3 =>
 bindA (avs c3) fun l3 =>
 bx Q2 (iv 0) fun c =>
 sto (St.addLoc s (.var (List.map .val (C.ti Q2).zero))) (.val (.vp s.locs.length 0)) c fun s_1 =>
 rangeC C cw (.val a0) s_1.locs.length (St.addLoc s_1 (Q5O (.val (.cp l3)) (.val (.vp s.locs.length 0)))) fun s_10 =>
 endX s_1.locs.length s_10 (fun s_11 =>
 ld Q2 s_11 (.val (.vp s.locs.length 0)) fun v16 =>
 some (.ret v16, s_11)) (fun s_12 =>
 some (.ret (iv 0), s_12)) (fun j s_13 =>
 bif Nat.beq j 0 then (
 ld Q2 s_13 (.val (.vp s.locs.length 0)) fun v16_1 =>
 some (.ret v16_1, s_13)) else (
(none : Res))) := (Q5 _ _ _).trans (by kernel_rfl)
noncomputable def QB : List Slot → List Slot → Slot → Slot → St → Res := fun x1 x2 x3 x4 s => pwD Q0U [.seqR, .seqR, .seqR, .seqR] Tryz.f89 [(1, .var x1), (2, .var x2), (3, .s x3), (4, .s x4)] s
theorem Q8q : ∀ x1 x2 x3 x4 s_2, QB x1 x2 x3 x4 s_2 =
 bn Qo .eql x3 (iv 0) fun v82 =>
 condS v82 (
 bd Q3 [] fun v83 =>
 bx Q3 v83 fun c =>
 pt x2 0 c fun c2 =>
 gA Q3 c2 fun v => some (.ret v, s_2)) (
 bn Qo .neq x3 (iv 8) fun v86 =>
 condS v86 (
 gC Q2 7 x1 fun v89 =>
 bd Q3 [(0, Qo, x3), (1, Q2, v89), (2, Q1, (sv []))] fun v91 =>
 bx Q3 v91 fun c_1 =>
 pt x2 0 c_1 fun c2_1 =>
 gA Q3 c2_1 fun v => some (.ret v, s_2)) (
 gC Q2 7 x1 fun v89_1 =>
 bd Q3 [(0, Qo, x3), (1, Q2, v89_1), (2, Q1, x4)] fun v91_1 =>
 bx Q3 v91_1 fun c_2 =>
 pt x2 0 c_2 fun c2_2 =>
 gA Q3 c2_2 fun v => some (.ret v, s_2))) := by intros; unfold QB; exact (Z8 _).trans (by kernel_rfl)
theorem Q9X (a0 : AV) (s : St) : cw (.f Q0U) [a0] s =
 bx QN (.val a0) fun c1 =>
 gC Q2m 0 c1 fun v17 =>
 bn Q2m .neq v17 (.val (.nilp)) fun v18 =>
 condS v18 (
 gA QN c1 fun v19 =>
 cn Q00 [v19] s fun v20 s_1 =>
 gC Q2m 0 c1 fun v22 =>
 bind1 (nilCheckV v22) fun v23 =>
 fa 2 v23 fun v24 =>
 bind1 (ldV (C.ti Q1) true s_1 v24) fun v25 =>
 QB c1 ((List.map .val (C.ti Q3).zero)) v20 v25 s_1) (
 gC Q1m 2 c1 fun v28 =>
 bn Q1m .neq v28 (.val (.nilp)) fun v29 =>
 condS v29 (
 gC Q1m 2 c1 fun v31 =>
 bind1 (nilCheckV v31) fun v32 =>
 fa 0 v32 fun v33 =>
 ld Q1 s v33 fun v34 =>
 ca Q1X [v34] s fun v36 s_3 =>
 nt v36 fun v37 =>
 condS v37 (
 QB c1 ((List.map .val (C.ti Q3).zero)) (iv 8) v34 s_3) (
 QB c1 ((List.map .val (C.ti Q3).zero)) (iv 0) v34 s_3)) (
 gC Q0K 3 c1 fun v40 =>
 bn Q0K .neq v40 (.val (.nilp)) fun v41 =>
 condS v41 (
 gC Q0K 3 c1 fun v43 =>
 bind1 (nilCheckV v43) fun v44 =>
 bind1 (ldV (C.ti Z4) true s v44) fun v45 =>
 cn Q45 [v45] s fun v46 s_4 =>
 gC Q0K 3 c1 fun v48 =>
 bind1 (nilCheckV v48) fun v49 =>
 fa 0 v49 fun v50 =>
 bind1 (ldV (C.ti Q1) true s_4 v50) fun v51 =>
 QB c1 ((List.map .val (C.ti Q3).zero)) v46 v51 s_4) (
 gC Q2n 4 c1 fun v54 =>
 bn Q2n .neq v54 (.val (.nilp)) fun v55 =>
 condS v55 (
 gC Q2n 4 c1 fun v57 =>
 bind1 (nilCheckV v57) fun v58 =>
 bind1 (ldV (C.ti Qn) true s v58) fun v59 =>
 cn Q46 [v59] s fun v60 s_5 =>
 gC Q2n 4 c1 fun v62 =>
 bind1 (nilCheckV v62) fun v63 =>
 fa 2 v63 fun v64 =>
 bind1 (ldV (C.ti Q1) true s_5 v64) fun v65 =>
 QB c1 ((List.map .val (C.ti Q3).zero)) v60 v65 s_5) (
 gC Q0q 5 c1 fun v68 =>
 bn Q0q .neq v68 (.val (.nilp)) fun v69 =>
 condS v69 (
 gC Q0q 5 c1 fun v71 =>
 bind1 (nilCheckV v71) fun v72 =>
 bind1 (ldV (C.ti Qp) true s v72) fun v73 =>
 cn Q2A [v73] s fun v74 s_6 =>
 gC Q0q 5 c1 fun v76 =>
 bind1 (nilCheckV v76) fun v77 =>
 fa 2 v77 fun v78 =>
 bind1 (ldV (C.ti Q1) true s_6 v78) fun v79 =>
 QB c1 ((List.map .val (C.ti Q3).zero)) v74 v79 s_6) (
 gC Q5q 6 c1 fun v6 =>
 bind1 (nilCheckV v6) fun v7 =>
 bind1 (ldV (C.ti Q6) true s v7) fun v8 =>
 cn Q1l [v8] s fun v9 s_7 =>
 gC Q5q 6 c1 fun v11 =>
 bind1 (nilCheckV v11) fun v12 =>
 fa 2 v12 fun v13 =>
 bind1 (ldV (C.ti Q1) true s_7 v13) fun v14 =>
 QB c1 ((List.map .val (C.ti Q3).zero)) v9 v14 s_7))))) := (Q5 _ _ _).trans (by kernel_rfl)
theorem Qb9 (a0 : AV) (a1 : AV) (s : St) : cw (.f Q3G) [a0, a1] s =
 bd Qz [(0, Ql, (.val a0))] fun v4 =>
 ld Qs s (.val a1) fun v5 =>
 ca Za [v4, v5, (bv false)] s fun v6 s_1 =>
 rt [] s_1 := (Q5 _ _ _).trans (by kernel_rfl)
noncomputable def ZO : Slot → Slot → List Slot → Slot → Slot → Slot → Slot → Slot → St → Res := fun x1_2 x2_2 x3_2 x8_1 x14_2 x15_2 x80 x81 s => lpD Za [.seqR, .seqL, .seqR, .block, .loop, .seqR, .seqR, .seqL, .block, .seqR, .seqR, .seqR, .seqR, .seqR, .block] Tryz.f91 [(1, .s x1_2), (2, .s x2_2), (3, .var x3_2), (8, .s x8_1), (14, .s x14_2), (15, .s x15_2), (80, .s x80), (81, .s x81)] s
noncomputable def ZN : Slot → Slot → List Slot → Slot → Slot → Slot → Slot → Slot → St → Res := fun x1_1 x2_1 x3_1 x8 x14_1 x15_1 x45 x46 s => lpD Za [.seqR, .seqL, .seqR, .block, .loop, .seqR, .seqR, .seqL, .block, .seqR, .seqR, .seqR, .seqL, .seqR, .block] Tryz.f91 [(1, .s x1_1), (2, .s x2_1), (3, .var x3_1), (8, .s x8), (14, .s x14_1), (15, .s x15_1), (45, .s x45), (46, .s x46)] s
noncomputable def Z3 : Slot → Slot → List Slot → Slot → Slot → St → Res := fun x1 x2 x3 x14 x15 s => lpD Za [.seqR, .seqL, .seqR, .block] Tryz.f91 [(1, .s x1), (2, .s x2), (3, .var x3), (14, .s x14), (15, .s x15)] s
theorem Q3v : ∀ x1_2 x2_2 x3_2 x8_1 x14_2 x15_2 x80 x81 s_7, ZO x1_2 x2_2 x3_2 x8_1 x14_2 x15_2 x80 x81 s_7 =
 bn Q2 .lss x81 x80 fun v82 =>
 condS v82 (
 bind1 (nilCheckV x8_1) fun v85 =>
 fa 4 v85 fun v86 =>
 ld Qv s_7 v86 fun v87 =>
 ix Z4 v87 x81 fun v89 =>
 gC Ql 0 x3_2 fun v91 =>
 bind1 (nilCheckV v89) fun v94 =>
 fa 1 v94 fun v95 =>
 ld Q2 s_7 v95 fun v96 =>
 bd QN [(3, Q0K, v89), (7, Q2, v96)] fun v97 =>
 back (noPan (cal cw true (tgtV v91 [v97]) s_7)) fun v98 s_8 =>
 nt v98 fun v99 =>
 iF v99 fun w_15 =>
 iF v99 fun w_16 =>
 bind1 (gd w_16 (nilCheckV (gdV w_15 v89))) fun v102 =>
 iF v99 fun w_17 =>
 bind1 (gd w_17 (faV 2 v102)) fun v103 =>
 iF v99 fun w_18 =>
 bind1 (gd w_18 (ldV (C.ti Qk) false s_8 v103)) fun v104 =>
 iF v99 fun w_19 =>
 bindB (Slot.isB (gdV w_19 v104) true) fun w_20 =>
 bind1 (gd w_20 (ofSlots (C.ti Qz) (List.take (C.ti Qz).size x3_2))) fun v106 =>
 bindB (Slot.isB (gdV w_19 v104) true) fun w_21 =>
 bindB (Slot.isB (gdV w_19 v104) true) fun w_22 =>
 bind1 (gd w_22 (nilCheckV (gdV w_21 v89))) fun v108 =>
 bindB (Slot.isB (gdV w_19 v104) true) fun w_23 =>
 bind1 (gd w_23 (faV 3 v108)) fun v109 =>
 bindB (Slot.isB (gdV w_19 v104) true) fun w_24 =>
 bindB (Slot.isB (gdV w_19 v104) true) fun w_25 =>
 bind1 (gd w_25 (nilCheckV (gdV w_24 v89))) fun v111 =>
 bindB (Slot.isB (gdV w_19 v104) true) fun w_26 =>
 bind1 (gd w_26 (faV 1 v111)) fun v112 =>
 bindB (Slot.isB (gdV w_19 v104) true) fun w_27 =>
 bind1 (gd w_27 (ldV (C.ti Q2) false s_8 v112)) fun v113 =>
 bindB (Slot.isB (gdV w_19 v104) true) fun w_28 =>
 back (noPan (cal cw w_28 (tgtV (.val (.fn Zm [])) [v106, v109, v113]) s_8)) fun v114 s_9 =>
 bindB (Slot.isB (gdV w_19 v104) true) fun w_29 =>
 gN w_29 v114 fun v115 =>
 iF v99 fun w_30 =>
 bind1 (gd w_30 (pickS (gdV w_19 v104) v115 (bv false))) fun v116 =>
 pk v99 (bv true) v116 fun v117 =>
 condS v117 (
 some (.ret (bv false), s_9)) (
 nx x81 fun v118 =>
 ZO x1_2 x2_2 x3_2 x8_1 x14_2 x15_2 x80 v118 s_9)) (
 nx x15_2 fun v119 =>
 Z3 x1_2 x2_2 x3_2 x14_2 v119 s_7) := by intros; unfold ZO; exact (Qa _ _ _ _ _ _).trans (by kernel_rfl)
theorem Q3u : ∀ x1_1 x2_1 x3_1 x8 x14_1 x15_1 x45 x46 s_4, ZN x1_1 x2_1 x3_1 x8 x14_1 x15_1 x45 x46 s_4 =
 bn Q2 .lss x46 x45 fun v47 =>
 condS v47 (
 bind1 (nilCheckV x8) fun v50 =>
 fa 6 v50 fun v51 =>
 ld Qx s_4 v51 fun v52 =>
 ix QU v52 x46 fun v54 =>
 gC Ql 0 x3_1 fun v56 =>
 bind1 (nilCheckV v54) fun v59 =>
 fa 1 v59 fun v60 =>
 ld Q2 s_4 v60 fun v61 =>
 bd QN [(2, Q1m, v54), (7, Q2, v61)] fun v62 =>
 back (noPan (cal cw true (tgtV v56 [v62]) s_4)) fun v63 s_5 =>
 nt v63 fun v64 =>
 iF v64 fun w_7 =>
 bind1 (gd w_7 (ofSlots (C.ti Qz) (List.take (C.ti Qz).size x3_1))) fun v66 =>
 iF v64 fun w_8 =>
 iF v64 fun w_9 =>
 bind1 (gd w_9 (nilCheckV (gdV w_8 v54))) fun v68 =>
 iF v64 fun w_10 =>
 bind1 (gd w_10 (faV 2 v68)) fun v69 =>
 iF v64 fun w_11 =>
 bind1 (gd w_11 (ldV (C.ti Qr) false s_5 v69)) fun v70 =>
 iF v64 fun w_12 =>
 bind1 (gd w_12 (bslF (C.ti Qr).size [v70])) fun v71 =>
 iF v64 fun w_13 =>
 back (noPan (cal cw w_13 (tgtV (.val (.fn Zl [])) [v66, v71]) s_5)) fun v72 s_6 =>
 iF v64 fun w_14 =>
 gN w_14 v72 fun v73 =>
 pk v64 (bv true) v73 fun v74 =>
 condS v74 (
 some (.ret (bv false), s_6)) (
 nx x46 fun v75 =>
 ZN x1_1 x2_1 x3_1 x8 x14_1 x15_1 x45 v75 s_6)) (
 bind1 (nilCheckV x8) fun v77 =>
 fa 4 v77 fun v78 =>
 ld Qv s_4 v78 fun v79 =>
 ln Qv v79 fun v80 =>
 ZO x1_1 x2_1 x3_1 x8 x14_1 x15_1 v80 (iv 0) s_4) := by intros; unfold ZN; exact (Qa _ _ _ _ _ _).trans (by kernel_rfl)
theorem Q3t : ∀ x1 x2 x3 x14 x15 s_1, Z3 x1 x2 x3 x14 x15 s_1 =
 bn Q2 .lss x15 x14 fun v16 =>
 condS v16 (
 ix Qi x1 x15 fun v20 =>
 gC Ql 0 x3 fun v22 =>
 bind1 (nilCheckV v20) fun v26 =>
 fa 1 v26 fun v27 =>
 ld Q2 s_1 v27 fun v28 =>
 bd QN [(0, Q2m, v20), (1, Qk, x2), (7, Q2, v28)] fun v29 =>
 back (noPan (cal cw true (tgtV v22 [v29]) s_1)) fun v30 s_2 =>
 nt v30 fun v31 =>
 iF v31 fun w =>
 bind1 (gd w (ofSlots (C.ti Qz) (List.take (C.ti Qz).size x3))) fun v33 =>
 iF v31 fun w_1 =>
 iF v31 fun w_2 =>
 bind1 (gd w_2 (nilCheckV (gdV w_1 v20))) fun v35 =>
 iF v31 fun w_3 =>
 bind1 (gd w_3 (faV 5 v35)) fun v36 =>
 iF v31 fun w_4 =>
 bind1 (gd w_4 (ldV (C.ti Qe) false s_2 v36)) fun v37 =>
 iF v31 fun w_5 =>
 back (noPan (cal cw w_5 (tgtV (.val (.fn Zl [])) [v33, v37]) s_2)) fun v38 s_3 =>
 iF v31 fun w_6 =>
 gN w_6 v38 fun v39 =>
 pk v31 (bv true) v39 fun v40 =>
 condS v40 (
 some (.ret (bv false), s_3)) (
 bind1 (nilCheckV v20) fun v42 =>
 fa 6 v42 fun v43 =>
 ld Qx s_3 v43 fun v44 =>
 ln Qx v44 fun v45 =>
 ZN x1 x2 x3 v20 x14 x15 v45 (iv 0) s_3)) (
 some (.ret (bv true), s_1)) := by intros; unfold Z3; exact (Qa _ _ _ _ _ _).trans (by kernel_rfl)
theorem Q4S (a0 : AV) (a1 : AV) (a2 : AV) (s : St) : cw (.f Za) [a0, a1, a2] s =
 bx Qz (.val a0) fun c3 =>
 ln Qs (.val a1) fun v14 =>
 Z3 (.val a1) (.val a2) c3 v14 (iv 0) s := (Q5 _ _ _).trans (by kernel_rfl)
noncomputable def Q0e : Slot → Slot → Slot → Slot → St → Res := fun x3 x6 x7 x8 s => lpD Zs [.seqR, .seqR, .seqL, .seqR, .block] Tryz.f92 [(3, .s x3), (6, .s x6), (7, .s x7), (8, .s x8)] s
theorem Q4A : ∀ x3 x6 x7 x8 s_1, Q0e x3 x6 x7 x8 s_1 =
 bn Q2 .lss x8 x7 fun v9 =>
 condS v9 (
 ix Qr x6 x8 fun v10 =>
 ld Qr s_1 v10 fun v11 =>
 bx Qr v11 fun c =>
 pZ Qr c fun c5 =>
 gC Qp 0 c5 fun v14 =>
 cn Q0p [v14] s_1 fun v15 s_2 =>
 gC Qn 5 c5 fun v17 =>
 cn ZR [v17] s_2 fun v18 s_3 =>
 bind1 (max3 x3 v15 v18) fun v19 =>
 nx x8 fun v20 =>
 Q0e v19 x6 x7 v20 s_3) (
 some (.ret x3, s_1)) := by intros; unfold Q0e; exact (Qa _ _ _ _ _ _).trans (by kernel_rfl)
theorem Q6i (a0 : AV) (s : St) : cw (.f Zs) [a0] s =
 ln Qe (.val a0) fun v7 =>
 Q0e (iv 0) (.val a0) v7 (iv 0) s := (Q5 _ _ _).trans (by kernel_rfl)
noncomputable def Q1R : Slot → Slot → Slot → Slot → St → Res := fun x3 x7 x8 x9 s => lpD Q0J [.seqR, .seqR, .seqL, .seqR, .block] Tryz.f93 [(3, .s x3), (7, .s x7), (8, .s x8), (9, .s x9)] s
theorem Q6m : ∀ x3 x7 x8 x9 s_1, Q1R x3 x7 x8 x9 s_1 =
 bn Q2 .lss x9 x8 fun v10 =>
 condS v10 (
 ix Q6 x7 x9 fun v11 =>
 ld Q6 s_1 v11 fun v12 =>
 bx Q6 v12 fun c =>
 pZ Q6 c fun c5 =>
 gA Q6 c5 fun v14 =>
 ca Q0J [v14] s_1 fun v15 s_2 =>
 bind1 (max2 x3 v15) fun v16 =>
 nx x9 fun v17 =>
 Q1R v16 x7 x8 v17 s_2) (
 nx x3 fun v19 =>
 some (.ret v19, s_1)) := by intros; unfold Q1R; exact (Qa _ _ _ _ _ _).trans (by kernel_rfl)
theorem Qex (a0 : AV) (s : St) : cw (.f Q0J) [a0] s =
 bx Q6 (.val a0) fun c1 =>
 gC Qj 3 c1 fun v7 =>
 ln Qj v7 fun v8 =>
 Q1R (iv 0) v7 v8 (iv 0) s := (Q5 _ _ _).trans (by kernel_rfl)
noncomputable def Q7o : List Slot → List Slot → Slot → Slot → Slot → St → Res := fun x4 x5 x10 x11 x12 s => lpD Q50 [.seqR, .seqR, .seqL, .seqR, .block] Tryz.f94 [(4, .var x4), (5, .var x5), (10, .s x10), (11, .s x11), (12, .s x12)] s
theorem Qby : ∀ x4 x5 x10 x11 x12 s_1, Q7o x4 x5 x10 x11 x12 s_1 =
 bn Q2 .lss x12 x11 fun v13 =>
 condS v13 (
 ix Q6 x10 x12 fun v14 =>
 ld Q6 s_1 v14 fun v15 =>
 bx Q6 v15 fun c_1 =>
 pZ Q6 c_1 fun c7 =>
 gC Qj 3 x5 fun v17 =>
 gA Q6 c7 fun v18 =>
 cn Q51 [v18] s_1 fun v19 s_2 =>
 bs Q6 [v19] fun v20 =>
 ap Q6 s_2 v17 v20 fun v21 s_3 =>
 bx Qj v21 fun c_2 =>
 pt x5 3 c_2 fun c5_1 =>
 nx x12 fun v23 =>
 Q7o x4 c5_1 x10 x11 v23 s_3) (
 gA Q6 x5 fun v24 =>
 bx Q6 v24 fun c_3 =>
 pt x4 0 c_3 fun c4 =>
 gA Q6 c4 fun v => some (.ret v, s_1)) := by intros; unfold Q7o; exact (Qa _ _ _ _ _ _).trans (by kernel_rfl)
theorem QkW (a0 : AV) (a1 : AV) (s : St) : cw (.f Q50) [a0, a1] s =
 bd Q6 [(0, Qm, (iv 2)), (2, Q1, (.val a0))] fun v9 =>
 bx Q6 v9 fun c =>
 pZ Q6 c fun c5 =>
 ln Qj (.val a1) fun v11 =>
 Q7o ((List.map .val (C.ti Q6).zero)) c5 (.val a1) v11 (iv 0) s := (Q5 _ _ _).trans (by kernel_rfl)
theorem Q1d (a0 : AV) (s : St) : cw (.f Zv) [a0] s =
 bn Qj .eql (.val a0) (.val (.nils)) fun v4 =>
 condS v4 (
 some (.ret (.val (.nils)), s)) (
 bs Q6 [] fun v5 =>
 bind2 (appendV Q6 (C.ti Q6) s v5 (.val a0)) fun v7 s_1 =>
 some (.ret v7, s_1)) := (Q5 _ _ _).trans (by kernel_rfl)
noncomputable def ZD : Slot → Slot → Slot → Slot → St → Res := fun x1 x4 x5 x6 s => lpD QE [.seqR, .block] Tryz.f96 [(1, .s x1), (4, .s x4), (5, .s x5), (6, .s x6)] s
theorem Q36 : ∀ x1 x4 x5 x6 s_1, ZD x1 x4 x5 x6 s_1 =
 bn Q2 .lss x6 x5 fun v7 =>
 condS v7 (
 ix Q1 x4 x6 fun v8 =>
 ld Q1 s_1 v8 fun v9 =>
 ld QM s_1 x1 fun v10 =>
 bind1 (nilCheckV v10) fun v11 =>
 fa 0 v11 fun v12 =>
 ld Qy s_1 v12 fun v13 =>
 lk Q1 Q2 s_1 v13 v9 false fun v15 =>
 bn Q2 .sub v15 (iv 1) fun v16 =>
 upd2 Q1 Q2 s_1 v13 v9 v16 fun _ s_2 =>
 nx x6 fun v17 =>
 ZD x1 x4 x5 v17 s_2) (
 rt [] s_1) := by intros; unfold ZD; exact (Qa _ _ _ _ _ _).trans (by kernel_rfl)
theorem Q9m (a0 : AV) (a1 : AV) (s : St) : cw (.f QE) [a0, a1] s =
 ld Qf s (.val a0) fun v4 =>
 ln Qf v4 fun v5 =>
 ZD (.val a1) v4 v5 (iv 0) s := (Q5 _ _ _).trans (by kernel_rfl)
noncomputable def Q0Y : Slot → Slot → Slot → Slot → St → Res := fun x3 x45 x46 x47 s => lpD Q1f [.seqR, .seqR, .seqR, .seqR, .seqL, .seqR, .block] Tryz.f97 [(3, .s x3), (45, .s x45), (46, .s x46), (47, .s x47)] s
theorem Q5s : ∀ x3 x45 x46 x47 s_1, Q0Y x3 x45 x46 x47 s_1 =
 bn Q2 .lss x47 x46 fun v48 =>
 condS v48 (
 ix Q6 x45 x47 fun v49 =>
 ld Q6 s_1 v49 fun v50 =>
 bx Q6 v50 fun c =>
 pZ Q6 c fun c10 =>
 ld Qq s_1 x3 fun v52 =>
 gA Q6 c10 fun v53 =>
 back (cal cw true (tgtV v52 [v53]) s_1) fun v54 s_2 =>
 ex v54 0 fun v55 =>
 ex v54 1 fun v56 =>
 bn Qo .neq v55 (iv 0) fun v58 =>
 condS v58 (
 rt [(some v55), (some v56)] s_2) (
 nx x47 fun v61 =>
 Q0Y x3 x45 x46 v61 s_2)) (
 rt [(some (iv 0)), (some (sv []))] s_1) := by intros; unfold Q0Y; exact (Qa _ _ _ _ _ _).trans (by kernel_rfl)
theorem QcC (a0 : AV) (a1 : AV) (a2 : AV) (a3 : AV) (s : St) : cw (.f Q1f) [a0, a1, a2, a3] s =
 bx Q6 (.val a0) fun c4 =>
 gC Qm 0 c4 fun v14 =>
 bn Qm .eql v14 (iv 1) fun v15 =>
 condS v15 (
 gC Q2 1 c4 fun v17 =>
 ld Q2 s (.val a1) fun v18 =>
 bn Q2 .geq v17 v18 fun v19 =>
 condS v19 (
 rt [(some (iv 16)), (some (sv []))] s) (
 rt [(some (iv 0)), (some (sv []))] s)) (
 ld Qy s (.val a2) fun v21 =>
 gC Q1 2 c4 fun v23 =>
 lk Q1 Q2 s v21 v23 true fun v24 =>
 ex v24 0 fun v25 =>
 ex v24 1 fun v26 =>
 nt v26 fun v29 =>
 condS v29 (
 gC Q1 2 c4 fun v31 =>
 rt [(some (iv 8)), (some v31)] s) (
 bn Q2 .geq v25 (iv 0) fun v34 =>
 iT v34 fun w =>
 iT v34 fun w_1 =>
 iT v34 fun w_2 =>
 gG w_2 w_1 Qj 3 c4 fun v38 =>
 iT v34 fun w_3 =>
 gL w_3 Qj v38 fun v39 =>
 iT v34 fun w_4 =>
 gB w_4 Q2 .neq (gdV w v25) v39 fun v40 =>
 pk v34 v40 (bv false) fun v41 =>
 condS v41 (
 gC Q1 2 c4 fun v43 =>
 rt [(some (iv 19)), (some v43)] s) (
 gC Qj 3 c4 fun v45 =>
 ln Qj v45 fun v46 =>
 Q0Y (.val a3) v45 v46 (iv 0) s))) := (Q5 _ _ _).trans (by kernel_rfl)
noncomputable def Q2X : Slot → List Slot → List Slot → Slot → Slot → Slot → St → Res := fun x1 x4 x5 x23 x24 x25 s => lpD Q3i [.seqR, .seqR, .seqR, .seqL, .seqR, .block] Tryz.f98 [(1, .s x1), (4, .var x4), (5, .var x5), (23, .s x23), (24, .s x24), (25, .s x25)] s
theorem Q8c : ∀ x1 x4 x5 x23 x24 x25 s_2, Q2X x1 x4 x5 x23 x24 x25 s_2 =
 bn Q2 .lss x25 x24 fun v26 =>
 condS v26 (
 ix Q6 x23 x25 fun v27 =>
 ld Q6 s_2 v27 fun v28 =>
 bx Q6 v28 fun c_2 =>
 pZ Q6 c_2 fun c7 =>
 gC Qj 3 x5 fun v30 =>
 gA Q6 c7 fun v31 =>
 cn Q3i [v31, x1] s_2 fun v33 s_3 =>
 bs Q6 [v33] fun v34 =>
 ap Q6 s_3 v30 v34 fun v35 s_4 =>
 bx Qj v35 fun c_3 =>
 pt x5 3 c_3 fun c5_1 =>
 nx x25 fun v37 =>
 Q2X x1 x4 c5_1 x23 x24 v37 s_4) (
 gA Q6 x5 fun v38 =>
 bx Q6 v38 fun c_4 =>
 pt x4 0 c_4 fun c4_1 =>
 gA Q6 c4_1 fun v => some (.ret v, s_2)) := by intros; unfold Q2X; exact (Qa _ _ _ _ _ _).trans (by kernel_rfl)
theorem Qhd (a0 : AV) (a1 : AV) (s : St) : cw (.f Q3i) [a0, a1] s =
 bx Q6 (.val a0) fun c2 =>
 gC Qm 0 c2 fun v9 =>
 bn Qm .eql v9 (iv 1) fun v10 =>
 condS v10 (
 gC Q2 1 c2 fun v13 =>
 back (cal cw true (tgtV (.val a1) [v13]) s) fun v14 s_1 =>
 bx Q6 v14 fun c =>
 pZ Q6 c fun c4 =>
 gA Q6 c4 fun v => some (.ret v, s_1)) (
 gC Qm 0 c2 fun v16 =>
 gC Q2 1 c2 fun v18 =>
 gC Q1 2 c2 fun v20 =>
 bd Q6 [(0, Qm, v16), (1, Q2, v18), (2, Q1, v20)] fun v21 =>
 bx Q6 v21 fun c_1 =>
 pZ Q6 c_1 fun c5 =>
 gC Qj 3 c2 fun v23 =>
 ln Qj v23 fun v24 =>
 Q2X (.val a1) ((List.map .val (C.ti Q6).zero)) c5 v23 v24 (iv 0) s) := (Q5 _ _ _).trans (by kernel_rfl)
theorem Qbz (a0 : AV) (a1 : AV) (s : St) : cw (.f Q93) [a0, a1] s =
 bn Q2 .geq (.val a0) (iv 0) fun v5 =>
 iT v5 fun w =>
 iT v5 fun w_1 =>
 bind1 (gd w_1 (ldV (C.ti Qj) false s (.val a1))) fun v8 =>
 iT v5 fun w_2 =>
 gL w_2 Qj v8 fun v9 =>
 iT v5 fun w_3 =>
 gB w_3 Q2 .lss (gdV w (.val a0)) v9 fun v10 =>
 pk v5 v10 (bv false) fun v11 =>
 condS v11 (
 ld Qj s (.val a1) fun v12 =>
 ix Q6 v12 (.val a0) fun v14 =>
 ld Q6 s v14 fun v15 =>
 ca Q51 [v15] s fun v16 s_1 =>
 bx Q6 v16 fun c =>
 pZ Q6 c fun c3 =>
 gA Q6 c3 fun v => some (.ret v, s_1)) (
 bd Q6 [(0, Qm, (iv 1)), (1, Q2, (.val a0))] fun v18 =>
 bx Q6 v18 fun c_1 =>
 pZ Q6 c_1 fun c3_1 =>
 gA Q6 c3_1 fun v => some (.ret v, s)) := (Q5 _ _ _).trans (by kernel_rfl)
noncomputable def Q5G : List Slot → List Slot → Slot → Slot → Slot → St → Res := fun x2 x3 x9 x10 x11 s => lpD Q51 [.seqR, .seqR, .seqR, .seqL, .seqR, .block] Tryz.f100 [(2, .var x2), (3, .var x3), (9, .s x9), (10, .s x10), (11, .s x11)] s
theorem QaL : ∀ x2 x3 x9 x10 x11 s_1, Q5G x2 x3 x9 x10 x11 s_1 =
 bn Q2 .lss x11 x10 fun v12 =>
 condS v12 (
 ix Q6 x9 x11 fun v13 =>
 ld Q6 s_1 v13 fun v14 =>
 bx Q6 v14 fun c_2 =>
 pZ Q6 c_2 fun c5 =>
 gC Qj 3 x3 fun v16 =>
 gA Q6 c5 fun v17 =>
 cn Q51 [v17] s_1 fun v18 s_2 =>
 bs Q6 [v18] fun v19 =>
 ap Q6 s_2 v16 v19 fun v20 s_3 =>
 bx Qj v20 fun c_3 =>
 pt x3 3 c_3 fun c3_2 =>
 nx x11 fun v22 =>
 Q5G x2 c3_2 x9 x10 v22 s_3) (
 gA Q6 x3 fun v23 =>
 bx Q6 v23 fun c_4 =>
 pt x2 0 c_4 fun c2 =>
 gA Q6 c2 fun v => some (.ret v, s_1)) := by intros; unfold Q5G; exact (Qa _ _ _ _ _ _).trans (by kernel_rfl)
theorem QjZ (a0 : AV) (s : St) : cw (.f Q51) [a0] s =
 bx Q6 (.val a0) fun c1 =>
 gA Q6 c1 fun v6 =>
 bx Q6 v6 fun c =>
 pZ Q6 c fun c3 =>
 bx Qj (.val (.nils)) fun c_1 =>
 pt c3 3 c_1 fun c3_1 =>
 gC Qj 3 c1 fun v9 =>
 ln Qj v9 fun v10 =>
 Q5G ((List.map .val (C.ti Q6).zero)) c3_1 v9 v10 (iv 0) s := (Q5 _ _ _).trans (by kernel_rfl)
theorem QgV (a0 : AV) (a1 : AV) (a2 : AV) (a3 : AV) (s : St) : cw (.f Q5h) [a0, a1, a2, a3] s =
 ca Q2D [(.val a0), (.val a1)] s fun v14 s_1 =>
 ex v14 0 fun v15 =>
 ex v14 1 fun v16 =>
 bx Q8 v15 fun c =>
 pZ Q8 c fun c9 =>
 nt v16 fun v18 =>
 condS v18 (
 bd Q3 [(0, Qo, (iv 17)), (1, Q2, (.val a2)), (2, Q1, (.val a1))] fun v21 =>
 bx Q3 v21 fun c_1 =>
 pZ Q3 c_1 fun c8 =>
 gA Q3 c8 fun v => some (.ret v, s_1)) (
 gC Qk 4 c9 fun v23 =>
 bn Q2 .eql (.val a3) (iv 1) fun v25 =>
 bn Qk .neq v23 v25 fun v26 =>
 condS v26 (
 bd Q3 [(0, Qo, (iv 19)), (1, Q2, (.val a2)), (2, Q1, (.val a1))] fun v29 =>
 bx Q3 v29 fun c_2 =>
 pZ Q3 c_2 fun c8_1 =>
 gA Q3 c8_1 fun v => some (.ret v, s_1)) (
 bd Q3 [] fun v30 =>
 bx Q3 v30 fun c_3 =>
 pZ Q3 c_3 fun c8_2 =>
 gA Q3 c8_2 fun v => some (.ret v, s_1))) := (Q5 _ _ _).trans (by kernel_rfl)
noncomputable def Q12 : List Slot → List Slot → List Slot → Slot → St → Res := fun x1 x2 x3 x4 s => lpD Zu [.seqR, .seqR, .seqL, .seqR, .block] Tryz.f102 [(1, .var x1), (2, .var x2), (3, .var x3), (4, .s x4)] s
theorem Q5v : ∀ x1 x2 x3 x4 s_1, Q12 x1 x2 x3 x4 s_1 =
 gC Qj 3 x1 fun v14 =>
 ln Qj v14 fun v15 =>
 bn Q2 .lss x4 v15 fun v16 =>
 condS v16 (
 gC Qj 3 x3 fun v20 =>
 gC Qj 3 x1 fun v22 =>
 ix Q6 v22 x4 fun v24 =>
 ld Q6 s_1 v24 fun v25 =>
 cn Zu [v25] s_1 fun v26 s_2 =>
 bs Q6 [v26] fun v27 =>
 ap Q6 s_2 v20 v27 fun v28 s_3 =>
 bx Qj v28 fun c_1 =>
 pt x3 3 c_1 fun c3_1 =>
 nx x4 fun v18 =>
 Q12 x1 x2 c3_1 v18 s_3) (
 gA Q6 x3 fun v30 =>
 bx Q6 v30 fun c_2 =>
 pt x2 0 c_2 fun c2 =>
 gA Q6 c2 fun v => some (.ret v, s_1)) := by intros; unfold Q12; exact (Qa _ _ _ _ _ _).trans (by kernel_rfl)
theorem QcX (a0 : AV) (s : St) : cw (.f Zu) [a0] s =
 bx Q6 (.val a0) fun c1 =>
 gC Qm 0 c1 fun v6 =>
 gC Q2 1 c1 fun v8 =>
 gC Q1 2 c1 fun v10 =>
 bd Q6 [(0, Qm, v6), (1, Q2, v8), (2, Q1, v10)] fun v11 =>
 bx Q6 v11 fun c =>
 pZ Q6 c fun c3 =>
 Q12 c1 ((List.map .val (C.ti Q6).zero)) c3 (iv 0) s := (Q5 _ _ _).trans (by kernel_rfl)
noncomputable def Q3n : Slot → List Slot → List Slot → Slot → St → Res := fun x1 x4 x5 x6 s => lpD Q6p [.seqR, .seqR, .seqL, .seqR, .block] Tryz.f103 [(1, .s x1), (4, .var x4), (5, .var x5), (6, .s x6)] s
theorem Q8J : ∀ x1 x4 x5 x6 s_1, Q3n x1 x4 x5 x6 s_1 =
 ln Qj x1 fun v11 =>
 bn Q2 .lss x6 v11 fun v12 =>
 condS v12 (
 gC Qj 3 x5 fun v16 =>
 ix Q6 x1 x6 fun v19 =>
 ld Q6 s_1 v19 fun v20 =>
 cn Zu [v20] s_1 fun v21 s_2 =>
 bs Q6 [v21] fun v22 =>
 ap Q6 s_2 v16 v22 fun v23 s_3 =>
 bx Qj v23 fun c_1 =>
 pt x5 3 c_1 fun c5_1 =>
 nx x6 fun v14 =>
 Q3n x1 x4 c5_1 v14 s_3) (
 gA Q6 x5 fun v25 =>
 bx Q6 v25 fun c_2 =>
 pt x4 0 c_2 fun c4 =>
 gA Q6 c4 fun v => some (.ret v, s_1)) := by intros; unfold Q3n; exact (Qa _ _ _ _ _ _).trans (by kernel_rfl)
theorem QhO (a0 : AV) (a1 : AV) (s : St) : cw (.f Q6p) [a0, a1] s =
 bd Q6 [(0, Qm, (iv 2)), (2, Q1, (.val a0))] fun v8 =>
 bx Q6 v8 fun c =>
 pZ Q6 c fun c5 =>
 Q3n (.val a1) ((List.map .val (C.ti Q6).zero)) c5 (iv 0) s := (Q5 _ _ _).trans (by kernel_rfl)
theorem Q9q (a0 : AV) (a1 : AV) (s : St) : cw (.f Q2v) [a0, a1] s =
 bd Qz [(0, Ql, (.val a0))] fun v4 =>
 ca Zw [v4, (.val a1)] s fun v5 s_1 =>
 rt [] s_1 := (Q5 _ _ _).trans (by kernel_rfl)
noncomputable def ZP : Slot → List Slot → Slot → Slot → St → Res := fun x1 x2 x29 x30 s => lpD Zw [.seqR, .seqR, .seqL, .seqR, .block] Tryz.f105 [(1, .s x1), (2, .var x2), (29, .s x29), (30, .s x30)] s
theorem Q3w : ∀ x1 x2 x29 x30 s_3, ZP x1 x2 x29 x30 s_3 =
 bn Q2 .lss x30 x29 fun v31 =>
 condS v31 (
 gA Qz x2 fun v33 =>
 bind1 (nilCheckV x1) fun v35 =>
 fa 4 v35 fun v36 =>
 ld Qu s_3 v36 fun v37 =>
 ix Qn v37 x30 fun v39 =>
 cn Zw [v33, v39] s_3 fun v40 s_4 =>
 nt v40 fun v41 =>
 condS v41 (
 some (.ret (bv false), s_4)) (
 nx x30 fun v42 =>
 ZP x1 x2 x29 v42 s_4)) (
 gA Qz x2 fun v43 =>
 bind1 (nilCheckV x1) fun v45 =>
 fa 5 v45 fun v46 =>
 ld Qe s_3 v46 fun v47 =>
 cn Zl [v43, v47] s_3 fun v48 s_5 =>
 some (.ret v48, s_5)) := by intros; unfold ZP; exact (Qa _ _ _ _ _ _).trans (by kernel_rfl)
theorem Q9Y (a0 : AV) (a1 : AV) (s : St) : cw (.f Zw) [a0, a1] s =
 bx Qz (.val a0) fun c2 =>
 gC Ql 0 c2 fun v7 =>
 bind1 (nilCheckV (.val a1)) fun v10 =>
 fa 1 v10 fun v11 =>
 ld Q2 s v11 fun v12 =>
 bd QN [(4, Q2n, (.val a1)), (7, Q2, v12)] fun v13 =>
 back (noPan (cal cw true (tgtV v7 [v13]) s)) fun v14 s_1 =>
 nt v14 fun v15 =>
 iF v15 fun w =>
 bind1 (gd w (ofSlots (C.ti Qz) (List.take (C.ti Qz).size c2))) fun v17 =>
 iF v15 fun w_1 =>
 iF v15 fun w_2 =>
 bind1 (gd w_2 (nilCheckV (gdV w_1 (.val a1)))) fun v19 =>
 iF v15 fun w_3 =>
 bind1 (gd w_3 (faV 6 v19)) fun v20 =>
 iF v15 fun w_4 =>
 bind1 (gd w_4 (ldV (C.ti Qs) false s_1 v20)) fun v21 =>
 iF v15 fun w_5 =>
 back (noPan (cal cw w_5 (tgtV (.val (.fn Za [])) [v17, v21, (bv true)]) s_1)) fun v22 s_2 =>
 iF v15 fun w_6 =>
 gN w_6 v22 fun v23 =>
 pk v15 (bv true) v23 fun v24 =>
 condS v24 (
 some (.ret (bv false), s_2)) (
 bind1 (nilCheckV (.val a1)) fun v26 =>
 fa 4 v26 fun v27 =>
 ld Qu s_2 v27 fun v28 =>
 ln Qu v28 fun v29 =>
 ZP (.val a1) c2 v29 (iv 0) s_2) := (Q5 _ _ _).trans (by kernel_rfl)
theorem QcZ (a0 : AV) (s : St) : cw (.f Q1g) [a0] s =
 bx Qr (.val a0) fun c1 =>
 gC Qp 0 c1 fun v4 =>
 cn Q0I [v4] s fun v5 s_1 =>
 gC Qn 5 c1 fun v7 =>
 cn Q06 [v7] s_1 fun v8 s_2 =>
 ap Qd s_2 v5 v8 fun v9 s_3 =>
 some (.ret v9, s_3) := (Q5 _ _ _).trans (by kernel_rfl)
theorem Qdt (a0 : AV) (s : St) : cw (.f Q4Y) [a0] s =
 bx Qp (.val a0) fun c1 =>
 bindA (avs c1) fun l1 =>
 bind1 (fnS Z9 [(.val (.cp l1))]) fun v3 =>
 some (.ret v3, s) := (Q5 _ _ _).trans (by kernel_rfl)
theorem QgQ (a0 : AV) (a1 : AV) (s : St) : cw (.f Q8e) [a0, a1] s =
 bx Qi (.val a0) fun c2 =>
 gC Qc 0 c2 fun v10 =>
 bn Qc .eql v10 (iv 1) fun v11 =>
 gC Qc 0 c2 fun v13 =>
 bn Qc .eql v13 (iv 2) fun v14 =>
 gC Qc 0 c2 fun v16 =>
 bn Qc .eql v16 (iv 3) fun v17 =>
 gC Qc 0 c2 fun v19 =>
 bn Qc .eql v19 (iv 4) fun v20 =>
 nt v11 fun v22 =>
 iT v22 fun w =>
 iT v22 fun w_1 =>
 bind1 (gd w_1 (unS .not (gdV w v14))) fun v25 =>
 pk v22 v25 (bv false) fun v26 =>
 iT v26 fun w_2 =>
 iT v26 fun w_3 =>
 bind1 (gd w_3 (unS .not (gdV w_2 v17))) fun v29 =>
 pk v26 v29 (bv false) fun v30 =>
 iT v30 fun w_4 =>
 iT v30 fun w_5 =>
 bind1 (gd w_5 (unS .not (gdV w_4 v20))) fun v33 =>
 pk v30 v33 (bv false) fun v34 =>
 iF v34 fun w_6 =>
 iF v34 fun w_7 =>
 bindB (Slot.isB (gdV w_7 (gdV w_6 (.val a1))) true) fun w_8 =>
 bindB (Slot.isB (gdV w_7 (gdV w_6 (.val a1))) true) fun w_9 =>
 bind1 (gd w_9 (unS .not (gdV w_8 v11))) fun v39 =>
 iF v34 fun w_10 =>
 bind1 (gd w_10 (pickS (gdV w_7 (gdV w_6 (.val a1))) v39 (bv false))) fun v40 =>
 iF v34 fun w_11 =>
 bindB (Slot.isB (gdV w_11 v40) true) fun w_12 =>
 bindB (Slot.isB (gdV w_11 v40) true) fun w_13 =>
 bind1 (gd w_13 (unS .not (gdV w_12 v14))) fun v43 =>
 iF v34 fun w_14 =>
 bind1 (gd w_14 (pickS (gdV w_11 v40) v43 (bv false))) fun v44 =>
 pk v34 (bv true) v44 fun v45 =>
 condS v45 (
 some (.ret (iv 29), s)) (
 nt v11 fun v47 =>
 iT v47 fun w_15 =>
 iT v47 fun w_16 =>
 gG w_16 w_15 Qe 5 c2 fun v50 =>
 iT v47 fun w_17 =>
 gL w_17 Qe v50 fun v51 =>
 iT v47 fun w_18 =>
 gB w_18 Q2 .gtr v51 (iv 0) fun v52 =>
 pk v47 v52 (bv false) fun v53 =>
 iF v53 fun w_19 =>
 iF v53 fun w_20 =>
 bind1 (gd w_20 (unS .not (gdV w_19 v14))) fun v56 =>
 iF v53 fun w_21 =>
 bindB (Slot.isB (gdV w_21 v56) true) fun w_22 =>
 bindB (Slot.isB (gdV w_21 v56) true) fun w_23 =>
 gG w_23 w_22 Qx 6 c2 fun v59 =>
 bindB (Slot.isB (gdV w_21 v56) true) fun w_24 =>
 gL w_24 Qx v59 fun v60 =>
 bindB (Slot.isB (gdV w_21 v56) true) fun w_25 =>
 gB w_25 Q2 .gtr v60 (iv 0) fun v61 =>
 iF v53 fun w_26 =>
 bind1 (gd w_26 (pickS (gdV w_21 v56) v61 (bv false))) fun v62 =>
 pk v53 (bv true) v62 fun v63 =>
 iF v63 fun w_27 =>
 iF v63 fun w_28 =>
 bind1 (gd w_28 (unS .not (gdV w_27 v17))) fun v66 =>
 iF v63 fun w_29 =>
 bindB (Slot.isB (gdV w_29 v66) true) fun w_30 =>
 bindB (Slot.isB (gdV w_29 v66) true) fun w_31 =>
 gG w_31 w_30 Q1 2 c2 fun v69 =>
 bindB (Slot.isB (gdV w_29 v66) true) fun w_32 =>
 gB w_32 Q1 .neq v69 (sv []) fun v70 =>
 bindB (Slot.isB (gdV w_29 v66) true) fun w_33 =>
 bindB (Slot.isB (gdV w_33 v70) false) fun w_34 =>
 bindB (Slot.isB (gdV w_33 v70) false) fun w_35 =>
 gG w_35 w_34 Q2 3 c2 fun v73 =>
 bindB (Slot.isB (gdV w_33 v70) false) fun w_36 =>
 gB w_36 Q2 .neq v73 (iv 0) fun v74 =>
 bindB (Slot.isB (gdV w_29 v66) true) fun w_37 =>
 bind1 (gd w_37 (pickS (gdV w_33 v70) (bv true) v74)) fun v75 =>
 iF v63 fun w_38 =>
 bind1 (gd w_38 (pickS (gdV w_29 v66) v75 (bv false))) fun v76 =>
 pk v63 (bv true) v76 fun v77 =>
 iF v77 fun w_39 =>
 iF v77 fun w_40 =>
 bind1 (gd w_40 (unS .not (gdV w_39 v17))) fun v80 =>
 iF v77 fun w_41 =>
 bindB (Slot.isB (gdV w_41 v80) true) fun w_42 =>
 bindB (Slot.isB (gdV w_41 v80) true) fun w_43 =>
 bind1 (gd w_43 (unS .not (gdV w_42 v20))) fun v83 =>
 iF v77 fun w_44 =>
 bind1 (gd w_44 (pickS (gdV w_41 v80) v83 (bv false))) fun v84 =>
 iF v77 fun w_45 =>
 bindB (Slot.isB (gdV w_45 v84) true) fun w_46 =>
 bindB (Slot.isB (gdV w_45 v84) true) fun w_47 =>
 gG w_47 w_46 Qv 4 c2 fun v87 =>
 bindB (Slot.isB (gdV w_45 v84) true) fun w_48 =>
 gL w_48 Qv v87 fun v88 =>
 bindB (Slot.isB (gdV w_45 v84) true) fun w_49 =>
 gB w_49 Q2 .gtr v88 (iv 0) fun v89 =>
 iF v77 fun w_50 =>
 bind1 (gd w_50 (pickS (gdV w_45 v84) v89 (bv false))) fun v90 =>
 pk v77 (bv true) v90 fun v91 =>
 condS v91 (
 some (.ret (iv 29), s)) (
 iT v17 fun w_51 =>
 iT v17 fun w_52 =>
 gG w_52 w_51 Q1 2 c2 fun v95 =>
 iT v17 fun w_53 =>
 cg w_53 Q19 [v95] s fun v96 s_1 =>
 iT v17 fun w_54 =>
 gN w_54 v96 fun v97 =>
 pk v17 v97 (bv false) fun v98 =>
 condS v98 (
 some (.ret (iv 8), s_1)) (
 iT v11 fun w_55 =>
 iT v11 fun w_56 =>
 gG w_56 w_55 Qe 5 c2 fun v102 =>
 iT v11 fun w_57 =>
 gL w_57 Qe v102 fun v103 =>
 iT v11 fun w_58 =>
 gB w_58 Q2 .neq v103 (iv 1) fun v104 =>
 pk v11 v104 (bv false) fun v105 =>
 iF v105 fun w_59 =>
 iF v105 fun w_60 =>
 bindB (Slot.isB (gdV w_60 (gdV w_59 v14)) true) fun w_61 =>
 bindB (Slot.isB (gdV w_60 (gdV w_59 v14)) true) fun w_62 =>
 gG w_62 w_61 Qx 6 c2 fun v110 =>
 bindB (Slot.isB (gdV w_60 (gdV w_59 v14)) true) fun w_63 =>
 gL w_63 Qx v110 fun v111 =>
 bindB (Slot.isB (gdV w_60 (gdV w_59 v14)) true) fun w_64 =>
 gB w_64 Q2 .lss v111 (iv 1) fun v112 =>
 iF v105 fun w_65 =>
 bind1 (gd w_65 (pickS (gdV w_60 (gdV w_59 v14)) v112 (bv false))) fun v113 =>
 pk v105 (bv true) v113 fun v114 =>
 iF v114 fun w_66 =>
 iF v114 fun w_67 =>
 bindB (Slot.isB (gdV w_67 (gdV w_66 v17)) true) fun w_68 =>
 bindB (Slot.isB (gdV w_67 (gdV w_66 v17)) true) fun w_69 =>
 gG w_69 w_68 Q2 3 c2 fun v119 =>
 bindB (Slot.isB (gdV w_67 (gdV w_66 v17)) true) fun w_70 =>
 cg w_70 Q0P [v119, (iv 0), (iv 8)] s_1 fun v120 s_2 =>
 bindB (Slot.isB (gdV w_67 (gdV w_66 v17)) true) fun w_71 =>
 gN w_71 v120 fun v121 =>
 bindB (Slot.isB (gdV w_67 (gdV w_66 v17)) true) fun w_72 =>
 bindB (Slot.isB (gdV w_72 v121) false) fun w_73 =>
 bindB (Slot.isB (gdV w_72 v121) false) fun w_74 =>
 gG w_74 w_73 Qv 4 c2 fun v124 =>
 bindB (Slot.isB (gdV w_72 v121) false) fun w_75 =>
 gL w_75 Qv v124 fun v125 =>
 bindB (Slot.isB (gdV w_72 v121) false) fun w_76 =>
 cg w_76 Q0P [v125, (iv 1), (iv 64)] s_2 fun v126 s_3 =>
 bindB (Slot.isB (gdV w_72 v121) false) fun w_77 =>
 gN w_77 v126 fun v127 =>
 bindB (Slot.isB (gdV w_67 (gdV w_66 v17)) true) fun w_78 =>
 bind1 (gd w_78 (pickS (gdV w_72 v121) (bv true) v127)) fun v128 =>
 iF v114 fun w_79 =>
 bind1 (gd w_79 (pickS (gdV w_67 (gdV w_66 v17)) v128 (bv false))) fun v129 =>
 pk v114 (bv true) v129 fun v130 =>
 iF v130 fun w_80 =>
 iF v130 fun w_81 =>
 bindB (Slot.isB (gdV w_81 (gdV w_80 v20)) true) fun w_82 =>
 bindB (Slot.isB (gdV w_81 (gdV w_80 v20)) true) fun w_83 =>
 gG w_83 w_82 Qv 4 c2 fun v135 =>
 bindB (Slot.isB (gdV w_81 (gdV w_80 v20)) true) fun w_84 =>
 gL w_84 Qv v135 fun v136 =>
 bindB (Slot.isB (gdV w_81 (gdV w_80 v20)) true) fun w_85 =>
 gB w_85 Q2 .neq v136 (iv 1) fun v137 =>
 iF v130 fun w_86 =>
 bind1 (gd w_86 (pickS (gdV w_81 (gdV w_80 v20)) v137 (bv false))) fun v138 =>
 pk v130 (bv true) v138 fun v139 =>
 condS v139 (
 some (.ret (iv 19), s_3)) (
 some (.ret (iv 0), s_3))))) := (Q5 _ _ _).trans (by kernel_rfl)
theorem QgR (a0 : AV) (s : St) : cw (.f Q8f) [a0] s =
 bindL (boxCells (C.ti Qn) (.val a0)) fun c1 =>
 bind1 (ofSlots (C.ti Q4) (List.take (C.ti Q4).size (List.drop 0 c1))) fun v10 =>
 bind1 (binS (C.ti Q4) .lss v10 (.val (.int .i64 1))) fun v12 =>
 bindB (Slot.isB v12 false) fun w =>
 bindB (Slot.isB v12 false) fun w_1 =>
 bind1 (gd w_1 (binS (C.ti Q4) .gtr (gdV w v10) (.val (.int .i64 20)))) fun v15 =>
 bind1 (pickS v12 (.val (.bool true)) v15) fun v16 =>
 condS v16 (
 some (.ret (.val (.int .i64 29)), s)) (
 back (cal cw true (tgtV (.val (.fn Q1h [])) [v10]) s) fun v19 s_1 =>
 bind1 (extractS v19 0) fun v20 =>
 bind1 (extractS v19 1) fun v21 =>
 bind1 (extractS v19 2) fun v22 =>
 bind1 (binS (C.ti Q4) .eql v10 (.val (.int .i64 5))) fun v24 =>
 bindB (Slot.isB v24 false) fun w_2 =>
 bindB (Slot.isB v24 false) fun w_3 =>
 bind1 (gd w_3 (binS (C.ti Q4) .eql (gdV w_2 v10) (.val (.int .i64 9)))) fun v27 =>
 bind1 (pickS v24 (.val (.bool true)) v27) fun v28 =>
 bindB (Slot.isB v28 false) fun w_4 =>
 bindB (Slot.isB v28 false) fun w_5 =>
 bind1 (gd w_5 (binS (C.ti Q4) .eql (gdV w_4 v10) (.val (.int .i64 11)))) fun v31 =>
 bind1 (pickS v28 (.val (.bool true)) v31) fun v32 =>
 bind1 (binS (C.ti Q4) .eql v10 (.val (.int .i64 2))) fun v34 =>
 bindB (Slot.isB v34 false) fun w_6 =>
 bindB (Slot.isB v34 false) fun w_7 =>
 bind1 (gd w_7 (binS (C.ti Q4) .eql (gdV w_6 v10) (.val (.int .i64 3)))) fun v37 =>
 bind1 (pickS v34 (.val (.bool true)) v37) fun v38 =>
 bind1 (unS .not v38) fun v40 =>
 bindB (Slot.isB v40 true) fun w_8 =>
 bindB (Slot.isB v40 true) fun w_9 =>
 bind1 (gd w_9 (bif w_8 then (ofSlots (C.ti Q1) (List.take (C.ti Q1).size (List.drop 2 c1))) else none)) fun v43 =>
 bindB (Slot.isB v40 true) fun w_10 =>
 bind1 (gd w_10 (binS (C.ti Q1) .neq v43 (.val (.str [])))) fun v44 =>
 bind1 (pickS v40 v44 (.val (.bool false))) fun v45 =>
 bindB (Slot.isB v45 false) fun w_11 =>
 bindB (Slot.isB v45 false) fun w_12 =>
 bind1 (gd w_12 (binS (C.ti Q4) .neq (gdV w_11 v10) (.val (.int .i64 1)))) fun v48 =>
 bindB (Slot.isB v45 false) fun w_13 =>
 bindB (Slot.isB (gdV w_13 v48) true) fun w_14 =>
 bindB (Slot.isB (gdV w_13 v48) true) fun w_15 =>
 bind1 (gd w_15 (binS (C.ti Q4) .neq (gdV w_14 v10) (.val (.int .i64 13)))) fun v51 =>
 bindB (Slot.isB v45 false) fun w_16 =>
 bind1 (gd w_16 (pickS (gdV w_13 v48) v51 (.val (.bool false)))) fun v52 =>
 bindB (Slot.isB v45 false) fun w_17 =>
 bindB (Slot.isB (gdV w_17 v52) true) fun w_18 =>
 bindB (Slot.isB (gdV w_17 v52) true) fun w_19 =>
 bind1 (gd w_19 (bif w_18 then (ofSlots (C.ti Q2) (List.take (C.ti Q2).size (List.drop 3 c1))) else none)) fun v55 =>
 bindB (Slot.isB (gdV w_17 v52) true) fun w_20 =>
 bind1 (gd w_20 (binS (C.ti Q2) .neq v55 (.val (.int .i64 0)))) fun v56 =>
 bindB (Slot.isB v45 false) fun w_21 =>
 bind1 (gd w_21 (pickS (gdV w_17 v52) v56 (.val (.bool false)))) fun v57 =>
 bind1 (pickS v45 (.val (.bool true)) v57) fun v58 =>
 bindB (Slot.isB v58 false) fun w_22 =>
 bindB (Slot.isB v58 false) fun w_23 =>
 bind1 (gd w_23 (unS .not (gdV w_22 v22))) fun v61 =>
 bindB (Slot.isB v58 false) fun w_24 =>
 bindB (Slot.isB (gdV w_24 v61) true) fun w_25 =>
 bindB (Slot.isB (gdV w_24 v61) true) fun w_26 =>
 bind1 (gd w_26 (bif w_25 then (ofSlots (C.ti Qu) (List.take (C.ti Qu).size (List.drop 4 c1))) else none)) fun v64 =>
 bindB (Slot.isB (gdV w_24 v61) true) fun w_27 =>
 bind1 (gd w_27 (lenS (C.ti Qu) v64)) fun v65 =>
 bindB (Slot.isB (gdV w_24 v61) true) fun w_28 =>
 bind1 (gd w_28 (binS (C.ti Q2) .gtr v65 (.val (.int .i64 0)))) fun v66 =>
 bindB (Slot.isB v58 false) fun w_29 =>
 bind1 (gd w_29 (pickS (gdV w_24 v61) v66 (.val (.bool false)))) fun v67 =>
 bind1 (pickS v58 (.val (.bool true)) v67) fun v68 =>
 bindB (Slot.isB v68 false) fun w_30 =>
 bindB (Slot.isB v68 false) fun w_31 =>
 bind1 (gd w_31 (unS .not (gdV w_30 v32))) fun v71 =>
 bindB (Slot.isB v68 false) fun w_32 =>
 bindB (Slot.isB (gdV w_32 v71) true) fun w_33 =>
 bindB (Slot.isB (gdV w_32 v71) true) fun w_34 =>
 bind1 (gd w_34 (bif w_33 then (ofSlots (C.ti Qe) (List.take (C.ti Qe).size (List.drop 5 c1))) else none)) fun v74 =>
 bindB (Slot.isB (gdV w_32 v71) true) fun w_35 =>
 bind1 (gd w_35 (lenS (C.ti Qe) v74)) fun v75 =>
 bindB (Slot.isB (gdV w_32 v71) true) fun w_36 =>
 bind1 (gd w_36 (binS (C.ti Q2) .gtr v75 (.val (.int .i64 0)))) fun v76 =>
 bindB (Slot.isB v68 false) fun w_37 =>
 bind1 (gd w_37 (pickS (gdV w_32 v71) v76 (.val (.bool false)))) fun v77 =>
 bind1 (pickS v68 (.val (.bool true)) v77) fun v78 =>
 bindB (Slot.isB v78 false) fun w_38 =>
 bindB (Slot.isB v78 false) fun w_39 =>
 bind1 (gd w_39 (binS (C.ti Q4) .neq (gdV w_38 v10) (.val (.int .i64 7)))) fun v81 =>
 bindB (Slot.isB v78 false) fun w_40 =>
 bindB (Slot.isB (gdV w_40 v81) true) fun w_41 =>
 bindB (Slot.isB (gdV w_40 v81) true) fun w_42 =>
 bind1 (gd w_42 (bif w_41 then (ofSlots (C.ti Qs) (List.take (C.ti Qs).size (List.drop 6 c1))) else none)) fun v84 =>
 bindB (Slot.isB (gdV w_40 v81) true) fun w_43 =>
 bind1 (gd w_43 (lenS (C.ti Qs) v84)) fun v85 =>
 bindB (Slot.isB (gdV w_40 v81) true) fun w_44 =>
 bind1 (gd w_44 (binS (C.ti Q2) .gtr v85 (.val (.int .i64 0)))) fun v86 =>
 bindB (Slot.isB v78 false) fun w_45 =>
 bind1 (gd w_45 (pickS (gdV w_40 v81) v86 (.val (.bool false)))) fun v87 =>
 bind1 (pickS v78 (.val (.bool true)) v87) fun v88 =>
 condS v88 (
 some (.ret (.val (.int .i64 29)), s_1)) (
 bind1 (binS (C.ti Q4) .eql v10 (.val (.int .i64 2))) fun v90 =>
 bindB (Slot.isB v90 true) fun w_46 =>
 bindB (Slot.isB v90 true) fun w_47 =>
 bind1 (gd w_47 (bif w_46 then (ofSlots (C.ti Q1) (List.take (C.ti Q1).size (List.drop 2 c1))) else none)) fun v93 =>
 bindB (Slot.isB v90 true) fun w_48 =>
 back (cal cw w_48 (tgtV (.val (.fn Q19 [])) [v93]) s_1) fun v94 s_2 =>
 bindB (Slot.isB v90 true) fun w_49 =>
 bind1 (gd w_49 (unS .not v94)) fun v95 =>
 bind1 (pickS v90 v95 (.val (.bool false))) fun v96 =>
 bindB (Slot.isB v96 false) fun w_50 =>
 bindB (Slot.isB v96 false) fun w_51 =>
 bind1 (gd w_51 (binS (C.ti Q4) .eql (gdV w_50 v10) (.val (.int .i64 3)))) fun v99 =>
 bindB (Slot.isB v96 false) fun w_52 =>
 bindB (Slot.isB (gdV w_52 v99) true) fun w_53 =>
 bindB (Slot.isB (gdV w_52 v99) true) fun w_54 =>
 bind1 (gd w_54 (bif w_53 then (ofSlots (C.ti Q1) (List.take (C.ti Q1).size (List.drop 2 c1))) else none)) fun v102 =>
 bindB (Slot.isB (gdV w_52 v99) true) fun w_55 =>
 back (cal cw w_55 (tgtV (.val (.fn Q5g [])) [v102]) s_2) fun v103 s_3 =>
 bindB (Slot.isB (gdV w_52 v99) true) fun w_56 =>
 bind1 (gd w_56 (unS .not v103)) fun v104 =>
 bindB (Slot.isB v96 false) fun w_57 =>
 bind1 (gd w_57 (pickS (gdV w_52 v99) v104 (.val (.bool false)))) fun v105 =>
 bind1 (pickS v96 (.val (.bool true)) v105) fun v106 =>
 condS v106 (
 some (.ret (.val (.int .i64 8)), s_3)) (
 bind1 (binS (C.ti Q4) .eql v10 (.val (.int .i64 1))) fun v108 =>
 bindB (Slot.isB v108 true) fun w_58 =>
 bindB (Slot.isB v108 true) fun w_59 =>
 bind1 (gd w_59 (bif w_58 then (ofSlots (C.ti Q2) (List.take (C.ti Q2).size (List.drop 3 c1))) else none)) fun v111 =>
 bindB (Slot.isB v108 true) fun w_60 =>
 back (cal cw w_60 (tgtV (.val (.fn Q3A [])) [v111]) s_3) fun v112 s_4 =>
 bindB (Slot.isB v108 true) fun w_61 =>
 bind1 (gd w_61 (unS .not v112)) fun v113 =>
 bind1 (pickS v108 v113 (.val (.bool false))) fun v114 =>
 bindB (Slot.isB v114 false) fun w_62 =>
 bindB (Slot.isB v114 false) fun w_63 =>
 bind1 (gd w_63 (binS (C.ti Q4) .eql (gdV w_62 v10) (.val (.int .i64 13)))) fun v117 =>
 bindB (Slot.isB v114 false) fun w_64 =>
 bindB (Slot.isB (gdV w_64 v117) true) fun w_65 =>
 bindB (Slot.isB (gdV w_64 v117) true) fun w_66 =>
 bind1 (gd w_66 (bif w_65 then (ofSlots (C.ti Q2) (List.take (C.ti Q2).size (List.drop 3 c1))) else none)) fun v120 =>
 bindB (Slot.isB (gdV w_64 v117) true) fun w_67 =>
 back (cal cw w_67 (tgtV (.val (.fn Q0P [])) [v120, (.val (.int .i64 1)), (.val (.int .i64 9))]) s_4) fun v121 s_5 =>
 bindB (Slot.isB (gdV w_64 v117) true) fun w_68 =>
 bind1 (gd w_68 (unS .not v121)) fun v122 =>
 bindB (Slot.isB v114 false) fun w_69 =>
 bind1 (gd w_69 (pickS (gdV w_64 v117) v122 (.val (.bool false)))) fun v123 =>
 bind1 (pickS v114 (.val (.bool true)) v123) fun v124 =>
 condS v124 (
 some (.ret (.val (.int .i64 2)), s_5)) (
 bindB (Slot.isB v22 true) fun w_70 =>
 bindB (Slot.isB v22 true) fun w_71 =>
 bind1 (gd w_71 (bif w_70 then (ofSlots (C.ti Qu) (List.take (C.ti Qu).size (List.drop 4 c1))) else none)) fun v128 =>
 bindB (Slot.isB v22 true) fun w_72 =>
 bind1 (gd w_72 (lenS (C.ti Qu) v128)) fun v129 =>
 bindB (Slot.isB v22 true) fun w_73 =>
 bindB (Slot.isB v22 true) fun w_74 =>
 bindB (Slot.isB v22 true) fun w_75 =>
 back (cal cw w_75 (tgtV (.val (.fn Q0P [])) [v129, (gdV w_73 v20), (gdV w_74 v21)]) s_5) fun v132 s_6 =>
 bindB (Slot.isB v22 true) fun w_76 =>
 bind1 (gd w_76 (unS .not v132)) fun v133 =>
 bind1 (pickS v22 v133 (.val (.bool false))) fun v134 =>
 bindB (Slot.isB v134 false) fun w_77 =>
 bindB (Slot.isB v134 false) fun w_78 =>
 bindB (Slot.isB (gdV w_78 (gdV w_77 v32)) true) fun w_79 =>
 bindB (Slot.isB (gdV w_78 (gdV w_77 v32)) true) fun w_80 =>
 bind1 (gd w_80 (bif w_79 then (ofSlots (C.ti Qe) (List.take (C.ti Qe).size (List.drop 5 c1))) else none)) fun v139 =>
 bindB (Slot.isB (gdV w_78 (gdV w_77 v32)) true) fun w_81 =>
 bind1 (gd w_81 (lenS (C.ti Qe) v139)) fun v140 =>
 bindB (Slot.isB (gdV w_78 (gdV w_77 v32)) true) fun w_82 =>
 bind1 (gd w_82 (binS (C.ti Q2) .lss v140 (.val (.int .i64 1)))) fun v141 =>
 bindB (Slot.isB v134 false) fun w_83 =>
 bind1 (gd w_83 (pickS (gdV w_78 (gdV w_77 v32)) v141 (.val (.bool false)))) fun v142 =>
 bind1 (pickS v134 (.val (.bool true)) v142) fun v143 =>
 bindB (Slot.isB v143 false) fun w_84 =>
 bindB (Slot.isB v143 false) fun w_85 =>
 bind1 (gd w_85 (binS (C.ti Q4) .eql (gdV w_84 v10) (.val (.int .i64 7)))) fun v146 =>
 bindB (Slot.isB v143 false) fun w_86 =>
 bindB (Slot.isB (gdV w_86 v146) true) fun w_87 =>
 bindB (Slot.isB (gdV w_86 v146) true) fun w_88 =>
 bind1 (gd w_88 (bif w_87 then (ofSlots (C.ti Qs) (List.take (C.ti Qs).size (List.drop 6 c1))) else none)) fun v149 =>
 bindB (Slot.isB (gdV w_86 v146) true) fun w_89 =>
 bind1 (gd w_89 (lenS (C.ti Qs) v149)) fun v150 =>
 bindB (Slot.isB (gdV w_86 v146) true) fun w_90 =>
 bind1 (gd w_90 (binS (C.ti Q2) .lss v150 (.val (.int .i64 1)))) fun v151 =>
 bindB (Slot.isB v143 false) fun w_91 =>
 bind1 (gd w_91 (pickS (gdV w_86 v146) v151 (.val (.bool false)))) fun v152 =>
 bind1 (pickS v143 (.val (.bool true)) v152) fun v153 =>
 condS v153 (
 some (.ret (.val (.int .i64 19)), s_6)) (
 some (.ret (.val (.int .i64 0)), s_6)))))) := (Q5 _ _ _).trans (by kernel_rfl)
theorem QgT (a0 : AV) (s : St) : cw (.f Q8g) [a0] s =
 bx Qp (.val a0) fun c1 =>
 gC Qg 0 c1 fun v7 =>
 bn Qg .lss v7 (iv 1) fun v9 =>
 iF v9 fun w =>
 iF v9 fun w_1 =>
 gB w_1 Qg .gtr (gdV w v7) (iv 6) fun v12 =>
 pk v9 (bv true) v12 fun v13 =>
 condS v13 (
 some (.ret (iv 29), s)) (
 bn Qg .eql v7 (iv 2) fun v15 =>
 iF v15 fun w_2 =>
 iF v15 fun w_3 =>
 gB w_3 Qg .eql (gdV w_2 v7) (iv 4) fun v18 =>
 pk v15 (bv true) v18 fun v19 =>
 iF v19 fun w_4 =>
 iF v19 fun w_5 =>
 gB w_5 Qg .eql (gdV w_4 v7) (iv 6) fun v22 =>
 pk v19 (bv true) v22 fun v23 =>
 bn Qg .eql v7 (iv 4) fun v25 =>
 iF v25 fun w_6 =>
 iF v25 fun w_7 =>
 gB w_7 Qg .eql (gdV w_6 v7) (iv 5) fun v28 =>
 pk v25 (bv true) v28 fun v29 =>
 iF v29 fun w_8 =>
 iF v29 fun w_9 =>
 gB w_9 Qg .eql (gdV w_8 v7) (iv 6) fun v32 =>
 pk v29 (bv true) v32 fun v33 =>
 nt v23 fun v35 =>
 iT v35 fun w_10 =>
 iT v35 fun w_11 =>
 gG w_11 w_10 Q1 2 c1 fun v38 =>
 iT v35 fun w_12 =>
 gB w_12 Q1 .neq v38 (sv []) fun v39 =>
 pk v35 v39 (bv false) fun v40 =>
 iF v40 fun w_13 =>
 iF v40 fun w_14 =>
 gB w_14 Qg .neq (gdV w_13 v7) (iv 3) fun v43 =>
 iF v40 fun w_15 =>
 bindB (Slot.isB (gdV w_15 v43) true) fun w_16 =>
 bindB (Slot.isB (gdV w_15 v43) true) fun w_17 =>
 gG w_17 w_16 Q2 3 c1 fun v46 =>
 bindB (Slot.isB (gdV w_15 v43) true) fun w_18 =>
 gB w_18 Q2 .neq v46 (iv 0) fun v47 =>
 iF v40 fun w_19 =>
 bind1 (gd w_19 (pickS (gdV w_15 v43) v47 (bv false))) fun v48 =>
 pk v40 (bv true) v48 fun v49 =>
 iF v49 fun w_20 =>
 iF v49 fun w_21 =>
 bind1 (gd w_21 (unS .not (gdV w_20 v33))) fun v52 =>
 iF v49 fun w_22 =>
 bindB (Slot.isB (gdV w_22 v52) true) fun w_23 =>
 bindB (Slot.isB (gdV w_22 v52) true) fun w_24 =>
 gG w_24 w_23 Qt 4 c1 fun v55 =>
 bindB (Slot.isB (gdV w_22 v52) true) fun w_25 =>
 gL w_25 Qt v55 fun v56 =>
 bindB (Slot.isB (gdV w_22 v52) true) fun w_26 =>
 gB w_26 Q2 .gtr v56 (iv 0) fun v57 =>
 iF v49 fun w_27 =>
 bind1 (gd w_27 (pickS (gdV w_22 v52) v57 (bv false))) fun v58 =>
 pk v49 (bv true) v58 fun v59 =>
 condS v59 (
 some (.ret (iv 29), s)) (
 bn Qg .eql v7 (iv 4) fun v61 =>
 iT v61 fun w_28 =>
 iT v61 fun w_29 =>
 gG w_29 w_28 Q1 2 c1 fun v64 =>
 iT v61 fun w_30 =>
 cg w_30 Q5g [v64] s fun v65 s_1 =>
 iT v61 fun w_31 =>
 gN w_31 v65 fun v66 =>
 pk v61 v66 (bv false) fun v67 =>
 iF v67 fun w_32 =>
 iF v67 fun w_33 =>
 bindB (Slot.isB (gdV w_33 (gdV w_32 v23)) true) fun w_34 =>
 bindB (Slot.isB (gdV w_33 (gdV w_32 v23)) true) fun w_35 =>
 gB w_35 Qg .neq (gdV w_34 v7) (iv 4) fun v72 =>
 iF v67 fun w_36 =>
 bind1 (gd w_36 (pickS (gdV w_33 (gdV w_32 v23)) v72 (bv false))) fun v73 =>
 iF v67 fun w_37 =>
 bindB (Slot.isB (gdV w_37 v73) true) fun w_38 =>
 bindB (Slot.isB (gdV w_37 v73) true) fun w_39 =>
 gG w_39 w_38 Q1 2 c1 fun v76 =>
 bindB (Slot.isB (gdV w_37 v73) true) fun w_40 =>
 cg w_40 Q19 [v76] s_1 fun v77 s_2 =>
 bindB (Slot.isB (gdV w_37 v73) true) fun w_41 =>
 gN w_41 v77 fun v78 =>
 iF v67 fun w_42 =>
 bind1 (gd w_42 (pickS (gdV w_37 v73) v78 (bv false))) fun v79 =>
 pk v67 (bv true) v79 fun v80 =>
 condS v80 (
 some (.ret (iv 8), s_2)) (
 bn Qg .eql v7 (iv 3) fun v82 =>
 iT v82 fun w_43 =>
 iT v82 fun w_44 =>
 gG w_44 w_43 Q2 3 c1 fun v85 =>
 iT v82 fun w_45 =>
 cg w_45 Q3A [v85] s_2 fun v86 s_3 =>
 iT v82 fun w_46 =>
 gN w_46 v86 fun v87 =>
 pk v82 v87 (bv false) fun v88 =>
 condS v88 (
 some (.ret (iv 2), s_3)) (
 bn Qg .eql v7 (iv 4) fun v90 =>
 iT v90 fun w_47 =>
 iT v90 fun w_48 =>
 gG w_48 w_47 Qt 4 c1 fun v93 =>
 iT v90 fun w_49 =>
 gL w_49 Qt v93 fun v94 =>
 iT v90 fun w_50 =>
 gB w_50 Q2 .gtr v94 (iv 1) fun v95 =>
 pk v90 v95 (bv false) fun v96 =>
 iF v96 fun w_51 =>
 iF v96 fun w_52 =>
 gB w_52 Qg .eql (gdV w_51 v7) (iv 5) fun v99 =>
 iF v96 fun w_53 =>
 bindB (Slot.isB (gdV w_53 v99) true) fun w_54 =>
 bindB (Slot.isB (gdV w_53 v99) true) fun w_55 =>
 gG w_55 w_54 Qt 4 c1 fun v102 =>
 bindB (Slot.isB (gdV w_53 v99) true) fun w_56 =>
 gL w_56 Qt v102 fun v103 =>
 bindB (Slot.isB (gdV w_53 v99) true) fun w_57 =>
 cg w_57 Q0P [v103, (iv 2), (iv 8)] s_3 fun v104 s_4 =>
 bindB (Slot.isB (gdV w_53 v99) true) fun w_58 =>
 gN w_58 v104 fun v105 =>
 iF v96 fun w_59 =>
 bind1 (gd w_59 (pickS (gdV w_53 v99) v105 (bv false))) fun v106 =>
 pk v96 (bv true) v106 fun v107 =>
 iF v107 fun w_60 =>
 iF v107 fun w_61 =>
 gB w_61 Qg .eql (gdV w_60 v7) (iv 6) fun v110 =>
 iF v107 fun w_62 =>
 bindB (Slot.isB (gdV w_62 v110) true) fun w_63 =>
 bindB (Slot.isB (gdV w_62 v110) true) fun w_64 =>
 gG w_64 w_63 Qt 4 c1 fun v113 =>
 bindB (Slot.isB (gdV w_62 v110) true) fun w_65 =>
 gL w_65 Qt v113 fun v114 =>
 bindB (Slot.isB (gdV w_62 v110) true) fun w_66 =>
 gB w_66 Q2 .neq v114 (iv 1) fun v115 =>
 iF v107 fun w_67 =>
 bind1 (gd w_67 (pickS (gdV w_62 v110) v115 (bv false))) fun v116 =>
 pk v107 (bv true) v116 fun v117 =>
 condS v117 (
 some (.ret (iv 19), s_4)) (
 some (.ret (iv 0), s_4)))))) := (Q5 _ _ _).trans (by kernel_rfl)
theorem QhM (a0 : AV) (s : St) : cw (.f Q91) [a0] s =
 bx Q6 (.val a0) fun c1 =>
 gC Qm 0 c1 fun v6 =>
 bn Qm .eql v6 (iv 1) fun v7 =>
 condS v7 (
 gC Q1 2 c1 fun v9 =>
 bn Q1 .neq v9 (sv []) fun v10 =>
 iF v10 fun w =>
 iF v10 fun w_1 =>
 gG w_1 w Qj 3 c1 fun v13 =>
 iF v10 fun w_2 =>
 gL w_2 Qj v13 fun v14 =>
 iF v10 fun w_3 =>
 gB w_3 Q2 .gtr v14 (iv 0) fun v15 =>
 pk v10 (bv true) v15 fun v16 =>
 condS v16 (
 some (.ret (iv 29), s)) (
 gC Q2 1 c1 fun v18 =>
 bn Q2 .lss v18 (iv 0) fun v19 =>
 condS v19 (
 some (.ret (iv 2), s)) (
 some (.ret (iv 0), s)))) (
 gC Qm 0 c1 fun v21 =>
 bn Qm .neq v21 (iv 2) fun v22 =>
 iF v22 fun w_4 =>
 iF v22 fun w_5 =>
 gG w_5 w_4 Q2 1 c1 fun v25 =>
 iF v22 fun w_6 =>
 gB w_6 Q2 .neq v25 (iv 0) fun v26 =>
 pk v22 (bv true) v26 fun v27 =>
 condS v27 (
 some (.ret (iv 29), s)) (
 gC Q1 2 c1 fun v29 =>
 bn Q1 .neq v29 (sv [114, 101, 102]) fun v30 =>
 iT v30 fun w_7 =>
 iT v30 fun w_8 =>
 gG w_8 w_7 Q1 2 c1 fun v33 =>
 iT v30 fun w_9 =>
 gB w_9 Q1 .neq v33 (sv [45, 62]) fun v34 =>
 pk v30 v34 (bv false) fun v35 =>
 iT v35 fun w_10 =>
 iT v35 fun w_11 =>
 gG w_11 w_10 Q1 2 c1 fun v38 =>
 iT v35 fun w_12 =>
 gB w_12 Q1 .neq v38 (sv [42]) fun v39 =>
 pk v35 v39 (bv false) fun v40 =>
 iT v40 fun w_13 =>
 iT v40 fun w_14 =>
 gG w_14 w_13 Q1 2 c1 fun v43 =>
 iT v40 fun w_15 =>
 cg w_15 Q19 [v43] s fun v44 s_1 =>
 iT v40 fun w_16 =>
 gN w_16 v44 fun v45 =>
 pk v40 v45 (bv false) fun v46 =>
 condS v46 (
 some (.ret (iv 8), s_1)) (
 gC Q1 2 c1 fun v49 =>
 ca Q3W [v49] s_1 fun v50 s_2 =>
 ex v50 0 fun v51 =>
 ex v50 1 fun v52 =>
 gC Qj 3 c1 fun v54 =>
 ln Qj v54 fun v55 =>
 ca Q0P [v55, v51, v52] s_2 fun v58 s_3 =>
 nt v58 fun v59 =>
 condS v59 (
 some (.ret (iv 19), s_3)) (
 some (.ret (iv 0), s_3))))) := (Q5 _ _ _).trans (by kernel_rfl)
theorem QgP (a0 : AV) (s : St) : cw (.f Q19) [a0] s =
 ca Q1i [(.val a0), (bv false)] s fun v4 s_1 =>
 iT v4 fun w =>
 iT v4 fun w_1 =>
 gB w_1 Q1 .neq (gdV w (.val a0)) (sv [95]) fun v7 =>
 pk v4 v7 (bv false) fun v8 =>
 iT v8 fun w_2 =>
 iT v8 fun w_3 =>
 gB w_3 Q1 .neq (gdV w_2 (.val a0)) (sv [116, 114, 117, 101]) fun v11 =>
 pk v8 v11 (bv false) fun v12 =>
 iT v12 fun w_4 =>
 iT v12 fun w_5 =>
 gB w_5 Q1 .neq (gdV w_4 (.val a0)) (sv [102, 97, 108, 115, 101]) fun v15 =>
 pk v12 v15 (bv false) fun v16 =>
 iT v16 fun w_6 =>
 iT v16 fun w_7 =>
 cg w_7 Q5I [] s_1 fun v19 s_2 =>
 iT v16 fun w_8 =>
 cg w_8 Q3z [(gdV w_6 (.val a0)), v19] s_2 fun v20 s_3 =>
 iT v16 fun w_9 =>
 gN w_9 v20 fun v21 =>
 pk v16 v21 (bv false) fun v22 =>
 some (.ret v22, s_3) := (Q5 _ _ _).trans (by kernel_rfl)
theorem Qd6 (a0 : AV) (s : St) : cw (.f Q4W) [a0] s =
 bx Q6 (.val a0) fun c1 =>
 gC Qm 0 c1 fun v4 =>
 bn Qm .eql v4 (iv 0) fun v5 =>
 iT v5 fun w =>
 iT v5 fun w_1 =>
 gG w_1 w Q2 1 c1 fun v8 =>
 iT v5 fun w_2 =>
 gB w_2 Q2 .eql v8 (iv 0) fun v9 =>
 pk v5 v9 (bv false) fun v10 =>
 iT v10 fun w_3 =>
 iT v10 fun w_4 =>
 gG w_4 w_3 Q1 2 c1 fun v13 =>
 iT v10 fun w_5 =>
 gB w_5 Q1 .eql v13 (sv []) fun v14 =>
 pk v10 v14 (bv false) fun v15 =>
 iT v15 fun w_6 =>
 iT v15 fun w_7 =>
 gG w_7 w_6 Qj 3 c1 fun v18 =>
 iT v15 fun w_8 =>
 gL w_8 Qj v18 fun v19 =>
 iT v15 fun w_9 =>
 gB w_9 Q2 .eql v19 (iv 0) fun v20 =>
 pk v15 v20 (bv false) fun v21 =>
 some (.ret v21, s) := (Q5 _ _ _).trans (by kernel_rfl)
theorem QbX (a0 : AV) (s : St) : cw (.f Q2z) [a0] s =
 ca Q1i [(.val a0), (bv true)] s fun v4 s_1 =>
 some (.ret v4, s_1) := (Q5 _ _ _).trans (by kernel_rfl)
theorem QaE (a0 : AV) (s : St) : cw (.f Q3b) [a0] s =
 bx QN (.val a0) fun c1 =>
 gC Q1m 2 c1 fun v4 =>
 bn Q1m .eql v4 (.val (.nilp)) fun v5 =>
 iT v5 fun w =>
 iT v5 fun w_1 =>
 gG w_1 w Q0K 3 c1 fun v8 =>
 iT v5 fun w_2 =>
 gB w_2 Q0K .eql v8 (.val (.nilp)) fun v9 =>
 pk v5 v9 (bv false) fun v10 =>
 some (.ret v10, s) := (Q5 _ _ _).trans (by kernel_rfl)
end Go.Proofs.YtinphnakebeloaaGreat