/- A part of the proof: G3. -/
import Derived.Test.YtinphnakebeloaaGreatM4
set_option linter.unusedVariables false
set_option linter.unusedSimpArgs false
namespace Go.Proofs.YtinphnakebeloaaGreat
open Go Go.Am
set_option linter.unusedVariables false
noncomputable def QQ : List Slot → Slot → Slot → Slot → Slot → St → Res := fun x1 x3 x5 x7 x8 s => pwD ZV [.seqR, .seqR, .seqR, .seqR, .seqR] Tryz.f116 [(1, .var x1), (3, .s x3), (5, .s x5), (7, .s x7), (8, .s x8)] s
theorem Q5G : ∀ x1 x3 x5 x7 x8 s_1, QQ x1 x3 x5 x7 x8 s_1 =
 nt x8 fun v91 =>
 iF v91 fun w_9 =>
 iF v91 fun w_10 =>
 gG w_10 w_9 Ql 1 x1 fun v94 =>
 iF v91 fun w_11 =>
 bindB (Slot.isB (gdV w_11 v94) true) fun w_12 =>
 bindB (Slot.isB (gdV w_11 v94) true) fun w_13 =>
 bind1 (gd w_13 (nilCheckV (gdV w_12 x3))) fun v97 =>
 bindB (Slot.isB (gdV w_11 v94) true) fun w_14 =>
 bind1 (gd w_14 (faV 0 v97)) fun v98 =>
 bindB (Slot.isB (gdV w_11 v94) true) fun w_15 =>
 bind1 (gd w_15 (ldV (C.ti Qd) false s_1 v98)) fun v99 =>
 bindB (Slot.isB (gdV w_11 v94) true) fun w_16 =>
 gB w_16 Qd .neq v99 (iv 1) fun v100 =>
 iF v91 fun w_17 =>
 bind1 (gd w_17 (pickS (gdV w_11 v94) v100 (bv false))) fun v101 =>
 iF v91 fun w_18 =>
 bindB (Slot.isB (gdV w_18 v101) true) fun w_19 =>
 bindB (Slot.isB (gdV w_18 v101) true) fun w_20 =>
 bind1 (gd w_20 (nilCheckV (gdV w_19 x3))) fun v104 =>
 bindB (Slot.isB (gdV w_18 v101) true) fun w_21 =>
 bind1 (gd w_21 (faV 0 v104)) fun v105 =>
 bindB (Slot.isB (gdV w_18 v101) true) fun w_22 =>
 bind1 (gd w_22 (ldV (C.ti Qd) false s_1 v105)) fun v106 =>
 bindB (Slot.isB (gdV w_18 v101) true) fun w_23 =>
 gB w_23 Qd .neq v106 (iv 2) fun v107 =>
 iF v91 fun w_24 =>
 bind1 (gd w_24 (pickS (gdV w_18 v101) v107 (bv false))) fun v108 =>
 pk v91 (bv true) v108 fun v109 =>
 condS v109 (
 some (.ret (iv 29), s_1)) (
 bind1 (nilCheckV x3) fun v111 =>
 fa 0 v111 fun v112 =>
 ld Qd s_1 v112 fun v113 =>
 bn Qd .eql v113 (iv 1) fun v115 =>
 condS v115 (
 bind1 (nilCheckV x3) fun v117 =>
 fa 5 v117 fun v118 =>
 ld Qb s_1 v118 fun v119 =>
 ln Qb v119 fun v120 =>
 bn Q1 .eql v120 (iv 1) fun v121 =>
 nt v121 fun v165 =>
 condS v165 (
 some (.ret (iv 19), s_1)) (
 some (.ret (iv 0), s_1))) (
 bn Qd .eql v113 (iv 2) fun v123 =>
 condS v123 (
 nt x5 fun v165_1 =>
 condS v165_1 (
 some (.ret (iv 19), s_1)) (
 some (.ret (iv 0), s_1))) (
 bn Qd .eql v113 (iv 3) fun v126 =>
 condS v126 (
 bind1 (nilCheckV x3) fun v128 =>
 fa 2 v128 fun v129 =>
 ld Q2 s_1 v129 fun v130 =>
 ca Q1G [v130] s_1 fun v131 s_2 =>
 nt v131 fun v132 =>
 condS v132 (
 some (.ret (iv 8), s_2)) (
 bind1 (nilCheckV x3) fun v134 =>
 fa 3 v134 fun v135 =>
 ld Q1 s_2 v135 fun v136 =>
 bn Q1 .geq v136 (iv 0) fun v137 =>
 iT v137 fun w_25 =>
 iT v137 fun w_26 =>
 bind1 (gd w_26 (nilCheckV (gdV w_25 x3))) fun v140 =>
 iT v137 fun w_27 =>
 bind1 (gd w_27 (faV 3 v140)) fun v141 =>
 iT v137 fun w_28 =>
 bind1 (gd w_28 (ldV (C.ti Q1) false s_2 v141)) fun v142 =>
 iT v137 fun w_29 =>
 gB w_29 Q1 .leq v142 (iv 8) fun v143 =>
 pk v137 v143 (bv false) fun v144 =>
 iT v144 fun w_30 =>
 pk v144 (gdV w_30 x7) (bv false) fun v147 =>
 iT v147 fun w_31 =>
 iT v147 fun w_32 =>
 bind1 (gd w_32 (nilCheckV (gdV w_31 x3))) fun v150 =>
 iT v147 fun w_33 =>
 bind1 (gd w_33 (faV 4 v150)) fun v151 =>
 iT v147 fun w_34 =>
 bind1 (gd w_34 (ldV (C.ti Qy) false s_2 v151)) fun v152 =>
 iT v147 fun w_35 =>
 gL w_35 Qy v152 fun v153 =>
 iT v147 fun w_36 =>
 gB w_36 Q1 .leq v153 (iv 64) fun v154 =>
 pk v147 v154 (bv false) fun v155 =>
 nt v155 fun v165_2 =>
 condS v165_2 (
 some (.ret (iv 19), s_2)) (
 some (.ret (iv 0), s_2)))) (
 bn Qd .eql v113 (iv 4) fun v157 =>
 condS v157 (
 bind1 (nilCheckV x3) fun v159 =>
 fa 4 v159 fun v160 =>
 ld Qy s_1 v160 fun v161 =>
 ln Qy v161 fun v162 =>
 bn Q1 .eql v162 (iv 1) fun v163 =>
 nt v163 fun v165_3 =>
 condS v165_3 (
 some (.ret (iv 19), s_1)) (
 some (.ret (iv 0), s_1))) (
 bind1 (unS .not (bv true)) fun v165_4 =>
 condS v165_4 (
 some (.ret (iv 19), s_1)) (
 some (.ret (iv 0), s_1))))))) := by intros; unfold QQ; exact (Zx _).trans (by kernel_rfl)
theorem Q7n (a0 : AV) (s : St) : cw (.f ZV) [a0] s =
 bx QM (.val a0) fun c1 =>
 gC Q24 0 c1 fun v11 =>
 bind1 (nilCheckV v11) fun v13 =>
 fa 5 v13 fun v14 =>
 ld Qb s v14 fun v15 =>
 ln Qb v15 fun v16 =>
 bn Q1 .gtr v16 (iv 0) fun v17 =>
 bind1 (nilCheckV v11) fun v19 =>
 fa 6 v19 fun v20 =>
 ld Qu s v20 fun v21 =>
 ln Qu v21 fun v22 =>
 bn Q1 .gtr v22 (iv 0) fun v23 =>
 bind1 (nilCheckV v11) fun v25 =>
 fa 2 v25 fun v26 =>
 ld Q2 s v26 fun v27 =>
 bn Q2 .neq v27 (sv []) fun v28 =>
 iF v28 fun w =>
 iF v28 fun w_1 =>
 bind1 (gd w_1 (nilCheckV (gdV w v11))) fun v31 =>
 iF v28 fun w_2 =>
 bind1 (gd w_2 (faV 3 v31)) fun v32 =>
 iF v28 fun w_3 =>
 bind1 (gd w_3 (ldV (C.ti Q1) false s v32)) fun v33 =>
 iF v28 fun w_4 =>
 gB w_4 Q1 .neq v33 (iv 0) fun v34 =>
 pk v28 (bv true) v34 fun v35 =>
 bind1 (nilCheckV v11) fun v37 =>
 fa 4 v37 fun v38 =>
 ld Qy s v38 fun v39 =>
 ln Qy v39 fun v40 =>
 bn Q1 .gtr v40 (iv 0) fun v41 =>
 bind1 (nilCheckV v11) fun v43 =>
 fa 0 v43 fun v44 =>
 ld Qd s v44 fun v45 =>
 bn Qd .eql v45 (iv 1) fun v47 =>
 condS v47 (
 nt v23 fun v49 =>
 iT v49 fun w_5 =>
 iT v49 fun w_6 =>
 bind1 (gd w_6 (unS .not (gdV w_5 v35))) fun v52 =>
 pk v49 v52 (bv false) fun v53 =>
 iT v53 fun w_7 =>
 iT v53 fun w_8 =>
 bind1 (gd w_8 (unS .not (gdV w_7 v41))) fun v56 =>
 pk v53 v56 (bv false) fun v57 =>
 QQ c1 v11 v23 v41 v57 s) (
 bn Qd .eql v45 (iv 2) fun v59 =>
 condS v59 (
 nt v17 fun v61 =>
 iT v61 fun w_37 =>
 iT v61 fun w_38 =>
 bind1 (gd w_38 (unS .not (gdV w_37 v35))) fun v64 =>
 pk v61 v64 (bv false) fun v65 =>
 iT v65 fun w_39 =>
 iT v65 fun w_40 =>
 bind1 (gd w_40 (unS .not (gdV w_39 v41))) fun v68 =>
 pk v65 v68 (bv false) fun v69 =>
 QQ c1 v11 v23 v41 v69 s) (
 bn Qd .eql v45 (iv 3) fun v71 =>
 condS v71 (
 nt v17 fun v73 =>
 iT v73 fun w_41 =>
 iT v73 fun w_42 =>
 bind1 (gd w_42 (unS .not (gdV w_41 v23))) fun v76 =>
 pk v73 v76 (bv false) fun v77 =>
 QQ c1 v11 v23 v41 v77 s) (
 bn Qd .eql v45 (iv 4) fun v79 =>
 condS v79 (
 nt v17 fun v81 =>
 iT v81 fun w_43 =>
 iT v81 fun w_44 =>
 bind1 (gd w_44 (unS .not (gdV w_43 v23))) fun v84 =>
 pk v81 v84 (bv false) fun v85 =>
 iT v85 fun w_45 =>
 iT v85 fun w_46 =>
 bind1 (gd w_46 (unS .not (gdV w_45 v35))) fun v88 =>
 pk v85 v88 (bv false) fun v89 =>
 QQ c1 v11 v23 v41 v89 s) (
 QQ c1 v11 v23 v41 (bv false) s)))) := (Q4 _ _ _).trans (by kernel_rfl)
theorem Qge (a0 : AV) (s : St) : cw (.f Q1G) [a0] s =
 bn Q2 .neq (.val a0) (sv []) fun v4 =>
 iT v4 fun w =>
 iT v4 fun w_1 =>
 bind1 (gd w_1 (indexS (C.ti Q2) (C.ti T_0) (gdV w (.val a0)) (iv 0))) fun v7 =>
 iT v4 fun w_2 =>
 cg w_2 Q3D [v7] s fun v8 s_1 =>
 pk v4 v8 (bv false) fun v9 =>
 iT v9 fun w_3 =>
 iT v9 fun w_4 =>
 cg w_4 Q3C [(gdV w_3 (.val a0))] s_1 fun v12 s_2 =>
 pk v9 v12 (bv false) fun v13 =>
 iT v13 fun w_5 =>
 iT v13 fun w_6 =>
 gB w_6 Q2 .add (sv [32]) (gdV w_5 (.val a0)) fun v16 =>
 iT v13 fun w_7 =>
 gB w_7 Q2 .add v16 (sv [32]) fun v17 =>
 iT v13 fun w_8 =>
 cg w_8 Q2j [(.val (.str Qbm)), v17] s_2 fun v18 s_3 =>
 iT v13 fun w_9 =>
 gN w_9 v18 fun v19 =>
 pk v13 v19 (bv false) fun v20 =>
 some (.ret v20, s_3) := (Q4 _ _ _).trans (by kernel_rfl)
theorem Qbh (a0 : AV) (s : St) : cw (.f Q3E) [a0] s =
 bx Zl (.val a0) fun c1 =>
 gC Q7 3 c1 fun v5 =>
 bx Q7 v5 fun c =>
 pZ Q7 c fun c3 =>
 gC Ql 2 c1 fun v8 =>
 nt v8 fun v9 =>
 iT v9 fun w =>
 iT v9 fun w_1 =>
 gG w_1 w Qr 0 c3 fun v12 =>
 iT v9 fun w_2 =>
 gB w_2 Qr .neq v12 (iv 0) fun v13 =>
 iT v9 fun w_3 =>
 bindB (Slot.isB (gdV w_3 v13) false) fun w_4 =>
 bindB (Slot.isB (gdV w_3 v13) false) fun w_5 =>
 gG w_5 w_4 Q1 1 c3 fun v16 =>
 bindB (Slot.isB (gdV w_3 v13) false) fun w_6 =>
 gB w_6 Q1 .neq v16 (iv 0) fun v17 =>
 iT v9 fun w_7 =>
 bind1 (gd w_7 (pickS (gdV w_3 v13) (bv true) v17)) fun v18 =>
 iT v9 fun w_8 =>
 bindB (Slot.isB (gdV w_8 v18) false) fun w_9 =>
 bindB (Slot.isB (gdV w_8 v18) false) fun w_10 =>
 gG w_10 w_9 Q2 2 c3 fun v21 =>
 bindB (Slot.isB (gdV w_8 v18) false) fun w_11 =>
 gB w_11 Q2 .neq v21 (sv []) fun v22 =>
 iT v9 fun w_12 =>
 bind1 (gd w_12 (pickS (gdV w_8 v18) (bv true) v22)) fun v23 =>
 iT v9 fun w_13 =>
 bindB (Slot.isB (gdV w_13 v23) false) fun w_14 =>
 bindB (Slot.isB (gdV w_13 v23) false) fun w_15 =>
 gG w_15 w_14 Qm 3 c3 fun v26 =>
 bindB (Slot.isB (gdV w_13 v23) false) fun w_16 =>
 gL w_16 Qm v26 fun v27 =>
 bindB (Slot.isB (gdV w_13 v23) false) fun w_17 =>
 gB w_17 Q1 .gtr v27 (iv 0) fun v28 =>
 iT v9 fun w_18 =>
 bind1 (gd w_18 (pickS (gdV w_13 v23) (bv true) v28)) fun v29 =>
 pk v9 v29 (bv false) fun v30 =>
 condS v30 (
 some (.ret (iv 29), s)) (
 gC Q2 0 c1 fun v33 =>
 ca Q2v [v33] s fun v34 s_1 =>
 nt v34 fun v35 =>
 condS v35 (
 some (.ret (iv 8), s_1)) (
 some (.ret (iv 0), s_1))) := (Q4 _ _ _).trans (by kernel_rfl)
theorem Qbi (a0 : AV) (s : St) : cw (.f Q3F) [a0] s =
 bindL (boxCells (C.ti Qj) (.val a0)) fun c1 =>
 bind1 (ofSlots (C.ti Q3) (List.take (C.ti Q3).size (List.drop 0 c1))) fun v7 =>
 back (cal cw true (tgtV (.val (.fn Q8t [])) [v7]) s) fun v8 s_1 =>
 bind1 (extractS v8 0) fun v9 =>
 bind1 (extractS v8 1) fun v10 =>
 bindL (boxCells (C.ti Q0) v9) fun c =>
 bindL (putAt (List.map .val (C.ti Q0).zero) 0 c) fun c3 =>
 bind1 (unS .not v10) fun v13 =>
 bindB (Slot.isB v13 false) fun w =>
 bindB (Slot.isB v13 false) fun w_1 =>
 bind1 (gd w_1 (bif w then (ofSlots (C.ti Ql) (List.take (C.ti Ql).size (List.drop 0 c3))) else none)) fun v16 =>
 bindB (Slot.isB v13 false) fun w_2 =>
 bind1 (gd w_2 (unS .not v16)) fun v17 =>
 bindB (Slot.isB v13 false) fun w_3 =>
 bindB (Slot.isB (gdV w_3 v17) true) fun w_4 =>
 bindB (Slot.isB (gdV w_3 v17) true) fun w_5 =>
 bind1 (gd w_5 (bif w_4 then (ofSlots (C.ti Q2) (List.take (C.ti Q2).size (List.drop 2 c1))) else none)) fun v20 =>
 bindB (Slot.isB (gdV w_3 v17) true) fun w_6 =>
 bind1 (gd w_6 (binS (C.ti Q2) .neq v20 (.val (.str [])))) fun v21 =>
 bindB (Slot.isB v13 false) fun w_7 =>
 bind1 (gd w_7 (pickS (gdV w_3 v17) v21 (.val (.bool false)))) fun v22 =>
 bind1 (pickS v13 (.val (.bool true)) v22) fun v23 =>
 bindB (Slot.isB v23 false) fun w_8 =>
 bindB (Slot.isB v23 false) fun w_9 =>
 bind1 (gd w_9 (bif w_8 then (ofSlots (C.ti Ql) (List.take (C.ti Ql).size (List.drop 1 c3))) else none)) fun v26 =>
 bindB (Slot.isB v23 false) fun w_10 =>
 bind1 (gd w_10 (unS .not v26)) fun v27 =>
 bindB (Slot.isB v23 false) fun w_11 =>
 bindB (Slot.isB (gdV w_11 v27) true) fun w_12 =>
 bindB (Slot.isB (gdV w_11 v27) true) fun w_13 =>
 bind1 (gd w_13 (bif w_12 then (ofSlots (C.ti Q1) (List.take (C.ti Q1).size (List.drop 3 c1))) else none)) fun v30 =>
 bindB (Slot.isB (gdV w_11 v27) true) fun w_14 =>
 bind1 (gd w_14 (binS (C.ti Q1) .neq v30 (.val (.int .i64 0)))) fun v31 =>
 bindB (Slot.isB v23 false) fun w_15 =>
 bind1 (gd w_15 (pickS (gdV w_11 v27) v31 (.val (.bool false)))) fun v32 =>
 bind1 (pickS v23 (.val (.bool true)) v32) fun v33 =>
 bindB (Slot.isB v33 false) fun w_16 =>
 bindB (Slot.isB v33 false) fun w_17 =>
 bind1 (gd w_17 (bif w_16 then (ofSlots (C.ti Ql) (List.take (C.ti Ql).size (List.drop 2 c3))) else none)) fun v36 =>
 bindB (Slot.isB v33 false) fun w_18 =>
 bind1 (gd w_18 (unS .not v36)) fun v37 =>
 bindB (Slot.isB v33 false) fun w_19 =>
 bindB (Slot.isB (gdV w_19 v37) true) fun w_20 =>
 bindB (Slot.isB (gdV w_19 v37) true) fun w_21 =>
 bind1 (gd w_21 (bif w_20 then (ofSlots (C.ti Qb) (List.take (C.ti Qb).size (List.drop 5 c1))) else none)) fun v40 =>
 bindB (Slot.isB (gdV w_19 v37) true) fun w_22 =>
 bind1 (gd w_22 (lenS (C.ti Qb) v40)) fun v41 =>
 bindB (Slot.isB (gdV w_19 v37) true) fun w_23 =>
 bind1 (gd w_23 (binS (C.ti Q1) .gtr v41 (.val (.int .i64 0)))) fun v42 =>
 bindB (Slot.isB v33 false) fun w_24 =>
 bind1 (gd w_24 (pickS (gdV w_19 v37) v42 (.val (.bool false)))) fun v43 =>
 bind1 (pickS v33 (.val (.bool true)) v43) fun v44 =>
 bindB (Slot.isB v44 false) fun w_25 =>
 bindB (Slot.isB v44 false) fun w_26 =>
 bind1 (gd w_26 (bif w_25 then (ofSlots (C.ti Ql) (List.take (C.ti Ql).size (List.drop 3 c3))) else none)) fun v47 =>
 bindB (Slot.isB v44 false) fun w_27 =>
 bind1 (gd w_27 (unS .not v47)) fun v48 =>
 bindB (Slot.isB v44 false) fun w_28 =>
 bindB (Slot.isB (gdV w_28 v48) true) fun w_29 =>
 bindB (Slot.isB (gdV w_28 v48) true) fun w_30 =>
 bind1 (gd w_30 (bif w_29 then (ofSlots (C.ti Qq) (List.take (C.ti Qq).size (List.drop 6 c1))) else none)) fun v51 =>
 bindB (Slot.isB (gdV w_28 v48) true) fun w_31 =>
 bind1 (gd w_31 (lenS (C.ti Qq) v51)) fun v52 =>
 bindB (Slot.isB (gdV w_28 v48) true) fun w_32 =>
 bind1 (gd w_32 (binS (C.ti Q1) .gtr v52 (.val (.int .i64 0)))) fun v53 =>
 bindB (Slot.isB v44 false) fun w_33 =>
 bind1 (gd w_33 (pickS (gdV w_28 v48) v53 (.val (.bool false)))) fun v54 =>
 bind1 (pickS v44 (.val (.bool true)) v54) fun v55 =>
 bindB (Slot.isB v55 false) fun w_34 =>
 bindB (Slot.isB v55 false) fun w_35 =>
 bind1 (gd w_35 (bif w_34 then (ofSlots (C.ti Q1) (List.take (C.ti Q1).size (List.drop 5 c3))) else none)) fun v58 =>
 bindB (Slot.isB v55 false) fun w_36 =>
 bind1 (gd w_36 (binS (C.ti Q1) .eql v58 (.val (.int .i64 0)))) fun v59 =>
 bindB (Slot.isB v55 false) fun w_37 =>
 bindB (Slot.isB (gdV w_37 v59) true) fun w_38 =>
 bindB (Slot.isB (gdV w_37 v59) true) fun w_39 =>
 bind1 (gd w_39 (bif w_38 then (ofSlots (C.ti Qs) (List.take (C.ti Qs).size (List.drop 4 c1))) else none)) fun v62 =>
 bindB (Slot.isB (gdV w_37 v59) true) fun w_40 =>
 bind1 (gd w_40 (lenS (C.ti Qs) v62)) fun v63 =>
 bindB (Slot.isB (gdV w_37 v59) true) fun w_41 =>
 bind1 (gd w_41 (binS (C.ti Q1) .gtr v63 (.val (.int .i64 0)))) fun v64 =>
 bindB (Slot.isB v55 false) fun w_42 =>
 bind1 (gd w_42 (pickS (gdV w_37 v59) v64 (.val (.bool false)))) fun v65 =>
 bind1 (pickS v55 (.val (.bool true)) v65) fun v66 =>
 condS v66 (
 some (.ret (.val (.int .i64 29)), s_1)) (
 bind1 (ofSlots (C.ti Q3) (List.take (C.ti Q3).size (List.drop 0 c1))) fun v69 =>
 bind1 (binS (C.ti Q3) .eql v69 (.val (.int .i64 2))) fun v70 =>
 bindB (Slot.isB v70 true) fun w_43 =>
 bindB (Slot.isB v70 true) fun w_44 =>
 bind1 (gd w_44 (bif w_43 then (ofSlots (C.ti Q2) (List.take (C.ti Q2).size (List.drop 2 c1))) else none)) fun v73 =>
 bindB (Slot.isB v70 true) fun w_45 =>
 back (cal cw w_45 (tgtV (.val (.fn Q1G [])) [v73]) s_1) fun v74 s_2 =>
 bindB (Slot.isB v70 true) fun w_46 =>
 bind1 (gd w_46 (unS .not v74)) fun v75 =>
 bind1 (pickS v70 v75 (.val (.bool false))) fun v76 =>
 bindB (Slot.isB v76 false) fun w_47 =>
 bindB (Slot.isB v76 false) fun w_48 =>
 bind1 (gd w_48 (bif w_47 then (ofSlots (C.ti Q3) (List.take (C.ti Q3).size (List.drop 0 c1))) else none)) fun v79 =>
 bindB (Slot.isB v76 false) fun w_49 =>
 bind1 (gd w_49 (binS (C.ti Q3) .eql v79 (.val (.int .i64 3)))) fun v80 =>
 bindB (Slot.isB v76 false) fun w_50 =>
 bindB (Slot.isB (gdV w_50 v80) true) fun w_51 =>
 bindB (Slot.isB (gdV w_50 v80) true) fun w_52 =>
 bind1 (gd w_52 (bif w_51 then (ofSlots (C.ti Q2) (List.take (C.ti Q2).size (List.drop 2 c1))) else none)) fun v83 =>
 bindB (Slot.isB (gdV w_50 v80) true) fun w_53 =>
 back (cal cw w_53 (tgtV (.val (.fn Q0N [])) [v83]) s_2) fun v84 s_3 =>
 bindB (Slot.isB (gdV w_50 v80) true) fun w_54 =>
 bind1 (gd w_54 (unS .not v84)) fun v85 =>
 bindB (Slot.isB v76 false) fun w_55 =>
 bind1 (gd w_55 (pickS (gdV w_50 v80) v85 (.val (.bool false)))) fun v86 =>
 bind1 (pickS v76 (.val (.bool true)) v86) fun v87 =>
 condS v87 (
 some (.ret (.val (.int .i64 8)), s_3)) (
 bind1 (ofSlots (C.ti Q3) (List.take (C.ti Q3).size (List.drop 0 c1))) fun v90 =>
 bind1 (binS (C.ti Q3) .eql v90 (.val (.int .i64 1))) fun v91 =>
 bindB (Slot.isB v91 true) fun w_56 =>
 bindB (Slot.isB v91 true) fun w_57 =>
 bind1 (gd w_57 (bif w_56 then (ofSlots (C.ti Q1) (List.take (C.ti Q1).size (List.drop 3 c1))) else none)) fun v94 =>
 bindB (Slot.isB v91 true) fun w_58 =>
 back (cal cw w_58 (tgtV (.val (.fn Q3B [])) [v94]) s_3) fun v95 s_4 =>
 bindB (Slot.isB v91 true) fun w_59 =>
 bind1 (gd w_59 (unS .not v95)) fun v96 =>
 bind1 (pickS v91 v96 (.val (.bool false))) fun v97 =>
 bindB (Slot.isB v97 false) fun w_60 =>
 bindB (Slot.isB v97 false) fun w_61 =>
 bind1 (gd w_61 (bif w_60 then (ofSlots (C.ti Q3) (List.take (C.ti Q3).size (List.drop 0 c1))) else none)) fun v100 =>
 bindB (Slot.isB v97 false) fun w_62 =>
 bind1 (gd w_62 (binS (C.ti Q3) .eql v100 (.val (.int .i64 13)))) fun v101 =>
 bindB (Slot.isB v97 false) fun w_63 =>
 bindB (Slot.isB (gdV w_63 v101) true) fun w_64 =>
 bindB (Slot.isB (gdV w_63 v101) true) fun w_65 =>
 bind1 (gd w_65 (bif w_64 then (ofSlots (C.ti Q1) (List.take (C.ti Q1).size (List.drop 3 c1))) else none)) fun v104 =>
 bindB (Slot.isB (gdV w_63 v101) true) fun w_66 =>
 bind1 (gd w_66 (binS (C.ti Q1) .lss v104 (.val (.int .i64 1)))) fun v105 =>
 bindB (Slot.isB (gdV w_63 v101) true) fun w_67 =>
 bindB (Slot.isB (gdV w_67 v105) false) fun w_68 =>
 bindB (Slot.isB (gdV w_67 v105) false) fun w_69 =>
 bind1 (gd w_69 (bif w_68 then (ofSlots (C.ti Q1) (List.take (C.ti Q1).size (List.drop 3 c1))) else none)) fun v108 =>
 bindB (Slot.isB (gdV w_67 v105) false) fun w_70 =>
 bind1 (gd w_70 (binS (C.ti Q1) .gtr v108 (.val (.int .i64 9)))) fun v109 =>
 bindB (Slot.isB (gdV w_63 v101) true) fun w_71 =>
 bind1 (gd w_71 (pickS (gdV w_67 v105) (.val (.bool true)) v109)) fun v110 =>
 bindB (Slot.isB v97 false) fun w_72 =>
 bind1 (gd w_72 (pickS (gdV w_63 v101) v110 (.val (.bool false)))) fun v111 =>
 bind1 (pickS v97 (.val (.bool true)) v111) fun v112 =>
 condS v112 (
 some (.ret (.val (.int .i64 2)), s_4)) (
 bind1 (ofSlots (C.ti Qs) (List.take (C.ti Qs).size (List.drop 4 c1))) fun v115 =>
 bind1 (lenS (C.ti Qs) v115) fun v116 =>
 bind1 (ofSlots (C.ti Q1) (List.take (C.ti Q1).size (List.drop 4 c3))) fun v118 =>
 bind1 (binS (C.ti Q1) .lss v116 v118) fun v119 =>
 bindB (Slot.isB v119 false) fun w_73 =>
 bindB (Slot.isB v119 false) fun w_74 =>
 bind1 (gd w_74 (bif w_73 then (ofSlots (C.ti Qs) (List.take (C.ti Qs).size (List.drop 4 c1))) else none)) fun v122 =>
 bindB (Slot.isB v119 false) fun w_75 =>
 bind1 (gd w_75 (lenS (C.ti Qs) v122)) fun v123 =>
 bindB (Slot.isB v119 false) fun w_76 =>
 bindB (Slot.isB v119 false) fun w_77 =>
 bind1 (gd w_77 (bif w_76 then (ofSlots (C.ti Q1) (List.take (C.ti Q1).size (List.drop 5 c3))) else none)) fun v125 =>
 bindB (Slot.isB v119 false) fun w_78 =>
 bind1 (gd w_78 (binS (C.ti Q1) .gtr v123 v125)) fun v126 =>
 bind1 (pickS v119 (.val (.bool true)) v126) fun v127 =>
 bindB (Slot.isB v127 false) fun w_79 =>
 bindB (Slot.isB v127 false) fun w_80 =>
 bind1 (gd w_80 (bif w_79 then (ofSlots (C.ti Ql) (List.take (C.ti Ql).size (List.drop 2 c3))) else none)) fun v130 =>
 bindB (Slot.isB v127 false) fun w_81 =>
 bindB (Slot.isB (gdV w_81 v130) true) fun w_82 =>
 bindB (Slot.isB (gdV w_81 v130) true) fun w_83 =>
 bind1 (gd w_83 (bif w_82 then (ofSlots (C.ti Qb) (List.take (C.ti Qb).size (List.drop 5 c1))) else none)) fun v133 =>
 bindB (Slot.isB (gdV w_81 v130) true) fun w_84 =>
 bind1 (gd w_84 (lenS (C.ti Qb) v133)) fun v134 =>
 bindB (Slot.isB (gdV w_81 v130) true) fun w_85 =>
 bind1 (gd w_85 (binS (C.ti Q1) .eql v134 (.val (.int .i64 0)))) fun v135 =>
 bindB (Slot.isB v127 false) fun w_86 =>
 bind1 (gd w_86 (pickS (gdV w_81 v130) v135 (.val (.bool false)))) fun v136 =>
 bind1 (pickS v127 (.val (.bool true)) v136) fun v137 =>
 bindB (Slot.isB v137 false) fun w_87 =>
 bindB (Slot.isB v137 false) fun w_88 =>
 bind1 (gd w_88 (bif w_87 then (ofSlots (C.ti Ql) (List.take (C.ti Ql).size (List.drop 3 c3))) else none)) fun v140 =>
 bindB (Slot.isB v137 false) fun w_89 =>
 bindB (Slot.isB (gdV w_89 v140) true) fun w_90 =>
 bindB (Slot.isB (gdV w_89 v140) true) fun w_91 =>
 bind1 (gd w_91 (bif w_90 then (ofSlots (C.ti Qq) (List.take (C.ti Qq).size (List.drop 6 c1))) else none)) fun v143 =>
 bindB (Slot.isB (gdV w_89 v140) true) fun w_92 =>
 bind1 (gd w_92 (lenS (C.ti Qq) v143)) fun v144 =>
 bindB (Slot.isB (gdV w_89 v140) true) fun w_93 =>
 bind1 (gd w_93 (binS (C.ti Q1) .eql v144 (.val (.int .i64 0)))) fun v145 =>
 bindB (Slot.isB v137 false) fun w_94 =>
 bind1 (gd w_94 (pickS (gdV w_89 v140) v145 (.val (.bool false)))) fun v146 =>
 bind1 (pickS v137 (.val (.bool true)) v146) fun v147 =>
 condS v147 (
 some (.ret (.val (.int .i64 19)), s_4)) (
 some (.ret (.val (.int .i64 0)), s_4))))) := (Q4 _ _ _).trans (by kernel_rfl)
noncomputable def Z5 : List Slot → Slot → Slot → Slot → Slot → St → Res := fun x1 x3 x4 x5 x6 s => pwD Q2g [.seqR, .seqR, .seqR] Tryz.f120 [(1, .var x1), (3, .s x3), (4, .s x4), (5, .s x5), (6, .s x6)] s
theorem Q8Y : ∀ x1 x3 x4 x5 x6 s_1, Z5 x1 x3 x4 x5 x6 s_1 =
 nt x3 fun v23 =>
 iT v23 fun w =>
 iT v23 fun w_1 =>
 gG w_1 w Q2 2 x1 fun v26 =>
 iT v23 fun w_2 =>
 gB w_2 Q2 .neq v26 (sv []) fun v27 =>
 pk v23 v27 (bv false) fun v28 =>
 iF v28 fun w_3 =>
 iF v28 fun w_4 =>
 bind1 (gd w_4 (unS .not (gdV w_3 x4))) fun v31 =>
 iF v28 fun w_5 =>
 bindB (Slot.isB (gdV w_5 v31) true) fun w_6 =>
 bindB (Slot.isB (gdV w_5 v31) true) fun w_7 =>
 gG w_7 w_6 Q1 3 x1 fun v34 =>
 bindB (Slot.isB (gdV w_5 v31) true) fun w_8 =>
 gB w_8 Q1 .neq v34 (iv 0) fun v35 =>
 iF v28 fun w_9 =>
 bind1 (gd w_9 (pickS (gdV w_5 v31) v35 (bv false))) fun v36 =>
 pk v28 (bv true) v36 fun v37 =>
 iF v37 fun w_10 =>
 iF v37 fun w_11 =>
 gB w_11 Q1 .eql (gdV w_10 x6) (iv 0) fun v40 =>
 iF v37 fun w_12 =>
 bindB (Slot.isB (gdV w_12 v40) true) fun w_13 =>
 bindB (Slot.isB (gdV w_12 v40) true) fun w_14 =>
 gG w_14 w_13 Qt 4 x1 fun v43 =>
 bindB (Slot.isB (gdV w_12 v40) true) fun w_15 =>
 gL w_15 Qt v43 fun v44 =>
 bindB (Slot.isB (gdV w_12 v40) true) fun w_16 =>
 gB w_16 Q1 .gtr v44 (iv 0) fun v45 =>
 iF v37 fun w_17 =>
 bind1 (gd w_17 (pickS (gdV w_12 v40) v45 (bv false))) fun v46 =>
 pk v37 (bv true) v46 fun v47 =>
 condS v47 (
 some (.ret (iv 29), s_1)) (
 gC Qf 0 x1 fun v50 =>
 bn Qf .eql v50 (iv 4) fun v51 =>
 iT v51 fun w_18 =>
 iT v51 fun w_19 =>
 gG w_19 w_18 Q2 2 x1 fun v54 =>
 iT v51 fun w_20 =>
 cg w_20 Q0N [v54] s_1 fun v55 s_2 =>
 iT v51 fun w_21 =>
 gN w_21 v55 fun v56 =>
 pk v51 v56 (bv false) fun v57 =>
 iF v57 fun w_22 =>
 iF v57 fun w_23 =>
 bindB (Slot.isB (gdV w_23 (gdV w_22 x3)) true) fun w_24 =>
 bindB (Slot.isB (gdV w_23 (gdV w_22 x3)) true) fun w_25 =>
 gG w_25 w_24 Qf 0 x1 fun v62 =>
 bindB (Slot.isB (gdV w_23 (gdV w_22 x3)) true) fun w_26 =>
 gB w_26 Qf .neq v62 (iv 4) fun v63 =>
 iF v57 fun w_27 =>
 bind1 (gd w_27 (pickS (gdV w_23 (gdV w_22 x3)) v63 (bv false))) fun v64 =>
 iF v57 fun w_28 =>
 bindB (Slot.isB (gdV w_28 v64) true) fun w_29 =>
 bindB (Slot.isB (gdV w_28 v64) true) fun w_30 =>
 gG w_30 w_29 Q2 2 x1 fun v67 =>
 bindB (Slot.isB (gdV w_28 v64) true) fun w_31 =>
 cg w_31 Q1G [v67] s_2 fun v68 s_3 =>
 bindB (Slot.isB (gdV w_28 v64) true) fun w_32 =>
 gN w_32 v68 fun v69 =>
 iF v57 fun w_33 =>
 bind1 (gd w_33 (pickS (gdV w_28 v64) v69 (bv false))) fun v70 =>
 pk v57 (bv true) v70 fun v71 =>
 condS v71 (
 some (.ret (iv 8), s_3)) (
 iT x4 fun w_34 =>
 iT x4 fun w_35 =>
 gG w_35 w_34 Q1 3 x1 fun v76 =>
 iT x4 fun w_36 =>
 cg w_36 Q3B [v76] s_3 fun v77 s_4 =>
 iT x4 fun w_37 =>
 gN w_37 v77 fun v78 =>
 pk x4 v78 (bv false) fun v79 =>
 condS v79 (
 some (.ret (iv 2), s_4)) (
 gC Qt 4 x1 fun v82 =>
 ln Qt v82 fun v83 =>
 bn Q1 .lss v83 x5 fun v85 =>
 iF v85 fun w_38 =>
 iF v85 fun w_39 =>
 gG w_39 w_38 Qt 4 x1 fun v88 =>
 iF v85 fun w_40 =>
 gL w_40 Qt v88 fun v89 =>
 iF v85 fun w_41 =>
 iF v85 fun w_42 =>
 gB w_42 Q1 .gtr v89 (gdV w_41 x6) fun v91 =>
 pk v85 (bv true) v91 fun v92 =>
 condS v92 (
 some (.ret (iv 19), s_4)) (
 some (.ret (iv 0), s_4))))) := by intros; unfold Z5; exact (Zx _).trans (by kernel_rfl)
theorem Qbj (a0 : AV) (s : St) : cw (.f Q2g) [a0] s =
 bx Qo (.val a0) fun c1 =>
 gC Qf 0 c1 fun v8 =>
 bn Qf .eql v8 (iv 1) fun v10 =>
 condS v10 (
 Z5 c1 (bv false) (bv false) (iv 0) (iv 0) s) (
 bn Qf .eql v8 (iv 2) fun v12 =>
 condS v12 (
 Z5 c1 (bv true) (bv false) (iv 0) (iv 0) s) (
 bn Qf .eql v8 (iv 3) fun v14 =>
 condS v14 (
 Z5 c1 (bv false) (bv true) (iv 0) (iv 0) s) (
 bn Qf .eql v8 (iv 4) fun v16 =>
 condS v16 (
 Z5 c1 (bv true) (bv false) (iv 0) (iv 1) s) (
 bn Qf .eql v8 (iv 5) fun v18 =>
 condS v18 (
 Z5 c1 (bv false) (bv false) (iv 2) (iv 8) s) (
 bn Qf .eql v8 (iv 6) fun v20 =>
 condS v20 (
 Z5 c1 (bv true) (bv false) (iv 1) (iv 1) s) (
 some (.ret (iv 29), s))))))) := (Q4 _ _ _).trans (by kernel_rfl)
noncomputable def ZB : Slot → Slot → Slot → St → Res := fun x3_1 x4_1 x5_1 s => pwD Q1b [.seqR, .seqR, .seqR, .seqR, .seqR] Tryz.f121 [(3, .s x3_1), (4, .s x4_1), (5, .s x5_1)] s
noncomputable def ZZ : List Slot → Slot → Slot → Slot → Slot → Slot → St → Res := fun x1 x3 x4 x5 x56 x61 s => pwD Q1b [.seqR, .seqR, .seqR, .seqR, .seqL, .seqR, .block, .seqR] Tryz.f121 [(1, .var x1), (3, .s x3), (4, .s x4), (5, .s x5), (56, .s x56), (61, .s x61)] s
theorem Q9N : ∀ x3_1 x4_1 x5_1 s_2, ZB x3_1 x4_1 x5_1 s_2 =
 bn Q1 .lss x3_1 x4_1 fun v74 =>
 iF v74 fun w_26 =>
 iF v74 fun w_27 =>
 iF v74 fun w_28 =>
 gB w_28 Q1 .gtr (gdV w_26 x3_1) (gdV w_27 x5_1) fun v78 =>
 pk v74 (bv true) v78 fun v79 =>
 condS v79 (
 some (.ret (iv 19), s_2)) (
 some (.ret (iv 0), s_2)) := by intros; unfold ZB; exact (Zx _).trans (by kernel_rfl)
theorem Q9M : ∀ x1 x3 x4 x5 x56 x61 s_1, ZZ x1 x3 x4 x5 x56 x61 s_1 =
 condS x61 (
 ZB x3 x4 x5 s_1) (
 bn Q2 .eql x56 (sv [114, 101, 102]) fun v67 =>
 condS v67 (
 ZB x3 (iv 1) (iv 1) s_1) (
 bn Q2 .eql x56 (sv [45, 62]) fun v69 =>
 condS v69 (
 ZB x3 (iv 2) (iv 2) s_1) (
 bn Q2 .eql x56 (sv [42]) fun v71 =>
 condS v71 (
 ZB x3 (iv 2) (iv 8) s_1) (
 gC Q2 2 x1 fun v58 =>
 ca Q1G [v58] s_1 fun v59 s_3 =>
 nt v59 fun v60 =>
 condS v60 (
 some (.ret (iv 8), s_3)) (
 ZB x3 x4 (iv 8) s_3))))) := by intros; unfold ZZ; exact (Zx _).trans (by kernel_rfl)
theorem Qci (a0 : AV) (s : St) : cw (.f Q1b) [a0] s =
 bx Q7 (.val a0) fun c1 =>
 gC Qm 3 c1 fun v7 =>
 ln Qm v7 fun v8 =>
 gC Qr 0 c1 fun v11 =>
 bn Qr .eql v11 (iv 1) fun v12 =>
 iT v12 fun w =>
 iT v12 fun w_1 =>
 gG w_1 w Q2 2 c1 fun v15 =>
 iT v12 fun w_2 =>
 gB w_2 Q2 .neq v15 (sv []) fun v16 =>
 iT v12 fun w_3 =>
 bindB (Slot.isB (gdV w_3 v16) false) fun w_4 =>
 bindB (Slot.isB (gdV w_3 v16) false) fun w_5 =>
 gB w_5 Q1 .gtr (gdV w_4 v8) (iv 0) fun v19 =>
 iT v12 fun w_6 =>
 bind1 (gd w_6 (pickS (gdV w_3 v16) (bv true) v19)) fun v20 =>
 pk v12 v20 (bv false) fun v21 =>
 iF v21 fun w_7 =>
 iF v21 fun w_8 =>
 gG w_8 w_7 Qr 0 c1 fun v24 =>
 iF v21 fun w_9 =>
 gB w_9 Qr .eql v24 (iv 2) fun v25 =>
 iF v21 fun w_10 =>
 bindB (Slot.isB (gdV w_10 v25) true) fun w_11 =>
 bindB (Slot.isB (gdV w_10 v25) true) fun w_12 =>
 gG w_12 w_11 Q1 1 c1 fun v28 =>
 bindB (Slot.isB (gdV w_10 v25) true) fun w_13 =>
 gB w_13 Q1 .neq v28 (iv 0) fun v29 =>
 iF v21 fun w_14 =>
 bind1 (gd w_14 (pickS (gdV w_10 v25) v29 (bv false))) fun v30 =>
 pk v21 (bv true) v30 fun v31 =>
 iF v31 fun w_15 =>
 iF v31 fun w_16 =>
 gG w_16 w_15 Qr 0 c1 fun v34 =>
 iF v31 fun w_17 =>
 gB w_17 Qr .neq v34 (iv 1) fun v35 =>
 iF v31 fun w_18 =>
 bindB (Slot.isB (gdV w_18 v35) true) fun w_19 =>
 bindB (Slot.isB (gdV w_18 v35) true) fun w_20 =>
 gG w_20 w_19 Qr 0 c1 fun v38 =>
 bindB (Slot.isB (gdV w_18 v35) true) fun w_21 =>
 gB w_21 Qr .neq v38 (iv 2) fun v39 =>
 iF v31 fun w_22 =>
 bind1 (gd w_22 (pickS (gdV w_18 v35) v39 (bv false))) fun v40 =>
 pk v31 (bv true) v40 fun v41 =>
 condS v41 (
 some (.ret (iv 29), s)) (
 gC Qr 0 c1 fun v44 =>
 bn Qr .eql v44 (iv 1) fun v45 =>
 iT v45 fun w_23 =>
 iT v45 fun w_24 =>
 gG w_24 w_23 Q1 1 c1 fun v48 =>
 iT v45 fun w_25 =>
 gB w_25 Q1 .lss v48 (iv 0) fun v49 =>
 pk v45 v49 (bv false) fun v50 =>
 condS v50 (
 some (.ret (iv 2), s)) (
 gC Qr 0 c1 fun v53 =>
 bn Qr .eql v53 (iv 1) fun v54 =>
 condS v54 (
 some (.ret (iv 0), s)) (
 gC Q2 2 c1 fun v56 =>
 bn Q2 .eql v56 (sv [105, 110, 116]) fun v62 =>
 condS v62 (
 ZZ c1 v8 (iv 0) (iv 0) v56 v62 s) (
 bn Q2 .eql v56 (sv [98, 111, 111, 108]) fun v63 =>
 condS v63 (
 ZZ c1 v8 (iv 0) (iv 0) v56 v63 s) (
 bn Q2 .eql v56 (sv [117, 110, 105, 116]) fun v64 =>
 condS v64 (
 ZZ c1 v8 (iv 0) (iv 0) v56 v64 s) (
 bn Q2 .eql v56 (sv [101, 120, 110]) fun v65 =>
 ZZ c1 v8 (iv 0) (iv 0) v56 v65 s)))))) := (Q4 _ _ _).trans (by kernel_rfl)
noncomputable def Zz : Slot → List Slot → Slot → Slot → St → Res := fun x1 x2 x7 x8 s => lpD Ze [.seqR, .seqL, .seqR, .block] Tryz.f122 [(1, .s x1), (2, .var x2), (7, .s x7), (8, .s x8)] s
theorem Q2D : ∀ x1 x2 x7 x8 s_1, Zz x1 x2 x7 x8 s_1 =
 bn Q1 .lss x8 x7 fun v9 =>
 condS v9 (
 gA Qz x2 fun v11 =>
 ix Qp x1 x8 fun v14 =>
 fa 0 v14 fun v15 =>
 cn QT [v11, v15] s_1 fun v16 s_2 =>
 nt v16 fun v17 =>
 iF v17 fun w =>
 bind1 (gd w (ofSlots (C.ti Qz) (List.take (C.ti Qz).size x2))) fun v19 =>
 iF v17 fun w_1 =>
 iF v17 fun w_2 =>
 iF v17 fun w_3 =>
 bind1 (gd w_3 (ixS (C.ti Qp).size (gdV w_1 x1) (gdV w_2 x8))) fun v22 =>
 iF v17 fun w_4 =>
 bind1 (gd w_4 (faV 5 v22)) fun v23 =>
 iF v17 fun w_5 =>
 back (noPan (cal cw w_5 (tgtV (.val (.fn Zq [])) [v19, v23]) s_2)) fun v24 s_3 =>
 iF v17 fun w_6 =>
 gN w_6 v24 fun v25 =>
 pk v17 (bv true) v25 fun v26 =>
 condS v26 (
 some (.ret (bv false), s_3)) (
 nx x8 fun v27 =>
 Zz x1 x2 x7 v27 s_3)) (
 some (.ret (bv true), s_1)) := by intros; unfold Zz; exact (Qa _ _ _ _ _ _).trans (by kernel_rfl)
theorem Q41 (a0 : AV) (a1 : AV) (s : St) : cw (.f Ze) [a0, a1] s =
 bx Qz (.val a0) fun c2 =>
 ln Qb (.val a1) fun v7 =>
 Zz (.val a1) c2 v7 (iv 0) s := (Q4 _ _ _).trans (by kernel_rfl)
noncomputable def ZA : Slot → Slot → List Slot → Slot → Slot → St → Res := fun x1 x2 x3 x19 x20 s => lpD Zf [.seqR, .seqR, .seqL, .seqR, .block] Tryz.f123 [(1, .s x1), (2, .s x2), (3, .var x3), (19, .s x19), (20, .s x20)] s
theorem Q2E : ∀ x1 x2 x3 x19 x20 s_2, ZA x1 x2 x3 x19 x20 s_2 =
 bn Q1 .lss x20 x19 fun v21 =>
 condS v21 (
 gA Qz x3 fun v23 =>
 bind1 (nilCheckV x1) fun v25 =>
 fa 3 v25 fun v26 =>
 ld Qm s_2 v26 fun v27 =>
 ix Q7 v27 x20 fun v29 =>
 cn Zf [v23, v29, x2] s_2 fun v31 s_3 =>
 nt v31 fun v32 =>
 condS v32 (
 some (.ret (bv false), s_3)) (
 nx x20 fun v33 =>
 ZA x1 x2 x3 x19 v33 s_3)) (
 some (.ret (bv true), s_2)) := by intros; unfold ZA; exact (Qa _ _ _ _ _ _).trans (by kernel_rfl)
theorem Q8p (a0 : AV) (a1 : AV) (a2 : AV) (s : St) : cw (.f Zf) [a0, a1, a2] s =
 bx Qz (.val a0) fun c3 =>
 gC Qk 0 c3 fun v9 =>
 bd QM [(6, Q4J, (.val a1)), (7, Q1, (.val a2))] fun v12 =>
 back (cal cw true (tgtV v9 [v12]) s) fun v13 s_1 =>
 nt v13 fun v14 =>
 condS v14 (
 some (.ret (bv false), s_1)) (
 bind1 (nilCheckV (.val a1)) fun v16 =>
 fa 3 v16 fun v17 =>
 ld Qm s_1 v17 fun v18 =>
 ln Qm v18 fun v19 =>
 ZA (.val a1) (.val a2) c3 v19 (iv 0) s_1) := (Q4 _ _ _).trans (by kernel_rfl)
noncomputable def Q0X : Slot → Slot → Slot → Slot → St → Res := fun x3 x7 x8 x9 s => lpD Q0h [.seqR, .seqR, .seqL, .seqR, .block] Tryz.f124 [(3, .s x3), (7, .s x7), (8, .s x8), (9, .s x9)] s
theorem Q4V : ∀ x3 x7 x8 x9 s_1, Q0X x3 x7 x8 x9 s_1 =
 bn Q1 .lss x9 x8 fun v10 =>
 condS v10 (
 ix Qo x7 x9 fun v11 =>
 ld Qo s_1 v11 fun v12 =>
 bx Qo v12 fun c =>
 pZ Qo c fun c5 =>
 gA Qo c5 fun v14 =>
 ca Q0h [v14] s_1 fun v15 s_2 =>
 bind1 (max2 x3 v15) fun v16 =>
 nx x9 fun v17 =>
 Q0X v16 x7 x8 v17 s_2) (
 nx x3 fun v19 =>
 some (.ret v19, s_1)) := by intros; unfold Q0X; exact (Qa _ _ _ _ _ _).trans (by kernel_rfl)
theorem Qcf (a0 : AV) (s : St) : cw (.f Q0h) [a0] s =
 bx Qo (.val a0) fun c1 =>
 gC Qt 4 c1 fun v7 =>
 ln Qt v7 fun v8 =>
 Q0X (iv 0) v7 v8 (iv 0) s := (Q4 _ _ _).trans (by kernel_rfl)
noncomputable def Q1q : List Slot → Slot → Slot → St → Res := fun x1 x3 x4 s => lpD Q0y [.seqR, .seqR, .seqL, .seqR, .block] Tryz.f125 [(1, .var x1), (3, .s x3), (4, .s x4)] s
theorem Q5e : ∀ x1 x3 x4 s_1, Q1q x1 x3 x4 s_1 =
 gC Qt 4 x1 fun v12 =>
 ln Qt v12 fun v13 =>
 bn Q1 .lss x4 v13 fun v14 =>
 condS v14 (
 gC Qt 4 x1 fun v19 =>
 ix Qo v19 x4 fun v21 =>
 ld Qo s_1 v21 fun v22 =>
 ca Q0y [v22] s_1 fun v23 s_2 =>
 ap Qc s_2 x3 v23 fun v24 s_3 =>
 nx x4 fun v16 =>
 Q1q x1 v24 v16 s_3) (
 some (.ret x3, s_1)) := by intros; unfold Q1q; exact (Qa _ _ _ _ _ _).trans (by kernel_rfl)
theorem QcW (a0 : AV) (s : St) : cw (.f Q0y) [a0] s =
 bx Qo (.val a0) fun c1 =>
 gA Qo c1 fun v5 =>
 gC Q1 1 c1 fun v7 =>
 bd Qc [(0, Q1, (iv 3)), (17, Qo, v5), (2, Q1, v7)] fun v8 =>
 bs Qc [v8] fun v9 =>
 Q1q c1 v9 (iv 0) s := (Q4 _ _ _).trans (by kernel_rfl)
theorem Qaa (a0 : AV) (a1 : AV) (s : St) : cw (.f Z3) [a0, a1] s =
 bd Qz [(0, Qk, (.val a0))] fun v4 =>
 ca QT [v4, (.val a1)] s fun v5 s_1 =>
 rt [] s_1 := (Q4 _ _ _).trans (by kernel_rfl)
noncomputable def Zg : Slot → List Slot → Slot → Slot → St → Res := fun x1 x2 x20 x21 s => lpD QT [.seqR, .seqR, .seqL, .seqR, .block] Tryz.f127 [(1, .s x1), (2, .var x2), (20, .s x20), (21, .s x21)] s
theorem ZQ : ∀ x1 x2 x20 x21 s_2, Zg x1 x2 x20 x21 s_2 =
 bn Q1 .lss x21 x20 fun v22 =>
 condS v22 (
 gA Qz x2 fun v24 =>
 bind1 (nilCheckV x1) fun v26 =>
 fa 4 v26 fun v27 =>
 ld Qt s_2 v27 fun v28 =>
 ix Qo v28 x21 fun v30 =>
 cn QT [v24, v30] s_2 fun v31 s_3 =>
 nt v31 fun v32 =>
 condS v32 (
 some (.ret (bv false), s_3)) (
 nx x21 fun v33 =>
 Zg x1 x2 x20 v33 s_3)) (
 some (.ret (bv true), s_2)) := by intros; unfold Zg; exact (Qa _ _ _ _ _ _).trans (by kernel_rfl)
theorem Q4i (a0 : AV) (a1 : AV) (s : St) : cw (.f QT) [a0, a1] s =
 bx Qz (.val a0) fun c2 =>
 gC Qk 0 c2 fun v7 =>
 bind1 (nilCheckV (.val a1)) fun v10 =>
 fa 1 v10 fun v11 =>
 ld Q1 s v11 fun v12 =>
 bd QM [(5, Q0i, (.val a1)), (7, Q1, v12)] fun v13 =>
 back (noPan (cal cw true (tgtV v7 [v13]) s)) fun v14 s_1 =>
 nt v14 fun v15 =>
 condS v15 (
 some (.ret (bv false), s_1)) (
 bind1 (nilCheckV (.val a1)) fun v17 =>
 fa 4 v17 fun v18 =>
 ld Qt s_1 v18 fun v19 =>
 ln Qt v19 fun v20 =>
 Zg (.val a1) c2 v20 (iv 0) s_1) := (Q4 _ _ _).trans (by kernel_rfl)
theorem Qg8 (a0 : AV) (a1 : AV) (a2 : AV) (s : St) : cw (.f Q0J) [a0, a1, a2] s =
 bn Q1 .geq (.val a0) (.val a1) fun v9 =>
 iT v9 fun w =>
 iT v9 fun w_1 =>
 iT v9 fun w_2 =>
 gB w_2 Q1 .leq (gdV w (.val a0)) (gdV w_1 (.val a2)) fun v13 =>
 pk v9 v13 (bv false) fun v14 =>
 some (.ret v14, s) := (Q4 _ _ _).trans (by kernel_rfl)
noncomputable def Q02 : Slot → Slot → St → Res := fun x5_1 x18 s => pw (run C false Q18 (codeAt [.seqR, .seqL, .seqR, .block, .seqR, .els, .seqR, .els, .seqR, .els, .seqR] (body Tryz.f129)) [(5, .s x5_1), (18, .s x18)] s (ctxR C false Q18 [.seqR, .seqL, .seqR, .block, .seqR, .els, .seqR, .els, .seqR, .els, .seqR] (body Tryz.f129) (outK C (Tryz.f129).results.toList)))
noncomputable def Zm : Slot → Slot → St → Res := fun x5 x10 s => pw (run C false Q18 (codeAt [.seqR, .seqL, .seqR, .block, .seqR, .els, .seqR, .els, .seqR] (body Tryz.f129)) [(5, .s x5), (10, .s x10)] s (ctxR C false Q18 [.seqR, .seqL, .seqR, .block, .seqR, .els, .seqR, .els, .seqR] (body Tryz.f129) (outK C (Tryz.f129).results.toList)))
theorem Qb6 (x5_1 : Slot) (x18 : Slot) (s_2 : St) : Q02 x5_1 x18 s_2 =
 condS x18 (
 bind1 (tupS [(some (.val (.int .i64 2))), (some (.val (.int .i64 2))), (some (.val (.bool true)))]) fun v => some (.ret v, s_2)) (
 bind1 (binS (C.ti Q3) .eql x5_1 (.val (.int .i64 8))) fun v25 =>
 condS v25 (
 bind1 (tupS [(some (.val (.int .i64 3))), (some (.val (.int .i64 3))), (some (.val (.bool true)))]) fun v => some (.ret v, s_2)) (
 bind1 (binS (C.ti Q3) .eql x5_1 (.val (.int .i64 10))) fun v27 =>
 condS v27 (
 bind1 (tupS [(some (.val (.int .i64 2))), (some (.val (.int .i64 1099511627776))), (some (.val (.bool true)))]) fun v => some (.ret v, s_2)) (
 bind1 (tupS [(some (.val (.int .i64 0))), (some (.val (.int .i64 0))), (some (.val (.bool false)))]) fun v => some (.ret v, s_2)))) := by unfold Q02; exact (Zx _).trans (by kernel_rfl)
theorem Qb5 (x5 : Slot) (x10 : Slot) (s_1 : St) : Zm x5 x10 s_1 =
 condS x10 (
 bind1 (tupS [(some (.val (.int .i64 1))), (some (.val (.int .i64 1))), (some (.val (.bool true)))]) fun v => some (.ret v, s_1)) (
 bind1 (binS (C.ti Q3) .eql x5 (.val (.int .i64 6))) fun v19 =>
 condS v19 (
 Q02 (x5) (v19) s_1) (
 bind1 (binS (C.ti Q3) .eql x5 (.val (.int .i64 13))) fun v20 =>
 condS v20 (
 Q02 (x5) (v20) s_1) (
 bind1 (binS (C.ti Q3) .eql x5 (.val (.int .i64 14))) fun v21 =>
 condS v21 (
 Q02 (x5) (v21) s_1) (
 bind1 (binS (C.ti Q3) .eql x5 (.val (.int .i64 15))) fun v22 =>
 condS v22 (
 Q02 (x5) (v22) s_1) (
 bind1 (binS (C.ti Q3) .eql x5 (.val (.int .i64 18))) fun v23 =>
 Q02 (x5) (v23) s_1))))) := by unfold Zm; exact (Zx _).trans (by kernel_rfl)
theorem Qe6 (a0 : AV) (s : St) : cw (.f Q18) [a0] s =
 bind1 (binS (C.ti Q3) .eql (.val a0) (.val (.int .i64 3))) fun v7 =>
 condS v7 (
 bind1 (tupS [(some (.val (.int .i64 0))), (some (.val (.int .i64 1))), (some (.val (.bool true)))]) fun v => some (.ret v, s)) (
 bind1 (binS (C.ti Q3) .eql (.val a0) (.val (.int .i64 4))) fun v9 =>
 condS v9 (
 bind1 (tupS [(some (.val (.int .i64 2))), (some (.val (.int .i64 8))), (some (.val (.bool true)))]) fun v => some (.ret v, s)) (
 bind1 (binS (C.ti Q3) .eql (.val a0) (.val (.int .i64 7))) fun v11 =>
 condS v11 (
 Zm ((.val a0)) (v11) s) (
 bind1 (binS (C.ti Q3) .eql (.val a0) (.val (.int .i64 9))) fun v12 =>
 condS v12 (
 Zm ((.val a0)) (v12) s) (
 bind1 (binS (C.ti Q3) .eql (.val a0) (.val (.int .i64 11))) fun v13 =>
 condS v13 (
 Zm ((.val a0)) (v13) s) (
 bind1 (binS (C.ti Q3) .eql (.val a0) (.val (.int .i64 12))) fun v14 =>
 condS v14 (
 Zm ((.val a0)) (v14) s) (
 bind1 (binS (C.ti Q3) .eql (.val a0) (.val (.int .i64 16))) fun v15 =>
 condS v15 (
 Zm ((.val a0)) (v15) s) (
 bind1 (binS (C.ti Q3) .eql (.val a0) (.val (.int .i64 17))) fun v16 =>
 condS v16 (
 Zm ((.val a0)) (v16) s) (
 bind1 (binS (C.ti Q3) .eql (.val a0) (.val (.int .i64 19))) fun v17 =>
 Zm ((.val a0)) (v17) s)))))))) := (Q4 _ _ _).trans (by kernel_rfl)
theorem Qfk (a0 : AV) (s : St) : cw (.f Q4C) [a0] s =
 ca Q2f [(.val a0)] s fun v4 s_1 =>
 iF v4 fun w =>
 iF v4 fun w_1 =>
 gB w_1 Q2 .eql (gdV w (.val a0)) (sv [116, 114, 117, 101]) fun v7 =>
 pk v4 (bv true) v7 fun v8 =>
 iF v8 fun w_2 =>
 iF v8 fun w_3 =>
 gB w_3 Q2 .eql (gdV w_2 (.val a0)) (sv [102, 97, 108, 115, 101]) fun v11 =>
 pk v8 (bv true) v11 fun v12 =>
 iF v12 fun w_4 =>
 iF v12 fun w_5 =>
 gB w_5 Q2 .eql (gdV w_4 (.val a0)) (sv [40, 41]) fun v15 =>
 pk v12 (bv true) v15 fun v16 =>
 some (.ret v16, s_1) := (Q4 _ _ _).trans (by kernel_rfl)
theorem Qd4 (a0 : AV) (s : St) : cw (.f Q35) [a0] s =
 ca Q3s [(.val a0)] s fun v4 s_1 =>
 bn Q1 .eql v4 (.val a0) fun v6 =>
 some (.ret v6, s_1) := (Q4 _ _ _).trans (by kernel_rfl)
noncomputable def Q0F : Slot → Slot → St → Res := fun x4 x5 s => pwD Q3t [.seqR, .seqL, .seqR, .block, .seqR] Tryz.f132 [(4, .s x4), (5, .s x5)] s
theorem QaV : ∀ x4 x5 s_1, Q0F x4 x5 s_1 =
 condS x5 (
 rt [(some (iv 0)), (some (iv 0))] s_1) (
 bn Q2 .eql x4 (sv [114, 101, 102]) fun v11 =>
 condS v11 (
 rt [(some (iv 1)), (some (iv 1))] s_1) (
 bn Q2 .eql x4 (sv [45, 62]) fun v13 =>
 condS v13 (
 rt [(some (iv 2)), (some (iv 2))] s_1) (
 bn Q2 .eql x4 (sv [42]) fun v15 =>
 condS v15 (
 rt [(some (iv 2)), (some (iv 8))] s_1) (
 rt [(some (iv 0)), (some (iv 8))] s_1)))) := by intros; unfold Q0F; exact (Zx _).trans (by kernel_rfl)
theorem Qe2 (a0 : AV) (s : St) : cw (.f Q3t) [a0] s =
 bn Q2 .eql (.val a0) (sv [105, 110, 116]) fun v6 =>
 condS v6 (
 Q0F (.val a0) v6 s) (
 bn Q2 .eql (.val a0) (sv [98, 111, 111, 108]) fun v7 =>
 condS v7 (
 Q0F (.val a0) v7 s) (
 bn Q2 .eql (.val a0) (sv [117, 110, 105, 116]) fun v8 =>
 condS v8 (
 Q0F (.val a0) v8 s) (
 bn Q2 .eql (.val a0) (sv [101, 120, 110]) fun v9 =>
 Q0F (.val a0) v9 s))) := (Q4 _ _ _).trans (by kernel_rfl)
noncomputable def ZY : Slot → Slot → St → Res := fun x0 x5 s => lpD Q19 [.seqR, .seqR, .seqL, .seqR, .block] Tryz.f133 [(0, .s x0), (5, .s x5)] s
theorem Q4R : ∀ x0 x5 s_2, ZY x0 x5 s_2 =
 ln Q2 x0 fun v23 =>
 bn Q1 .lss x5 v23 fun v24 =>
 condS v24 (
 bind1 (indexS (C.ti Q2) (C.ti T_0) x0 x5) fun v29 =>
 ca Q5N [v29] s_2 fun v30 s_3 =>
 nt v30 fun v31 =>
 condS v31 (
 some (.ret (bv false), s_3)) (
 nx x5 fun v26 =>
 ZY x0 v26 s_3)) (
 some (.ret (bv true), s_2)) := by intros; unfold ZY; exact (Qa _ _ _ _ _ _).trans (by kernel_rfl)
theorem Qc0 (a0 : AV) (a1 : AV) (s : St) : cw (.f Q19) [a0, a1] s =
 ln Q2 (.val a0) fun v7 =>
 bn Q1 .lss v7 (iv 1) fun v8 =>
 iF v8 fun w =>
 iF v8 fun w_1 =>
 gL w_1 Q2 (gdV w (.val a0)) fun v11 =>
 iF v8 fun w_2 =>
 gB w_2 Q1 .gtr v11 (iv 32) fun v12 =>
 pk v8 (bv true) v12 fun v13 =>
 iF v13 fun w_3 =>
 iF v13 fun w_4 =>
 bind1 (gd w_4 (indexS (C.ti Q2) (C.ti T_0) (gdV w_3 (.val a0)) (iv 0))) fun v16 =>
 iF v13 fun w_5 =>
 iF v13 fun w_6 =>
 cg w_6 Q4k [v16, (gdV w_5 (.val a1))] s fun v18 s_1 =>
 iF v13 fun w_7 =>
 gN w_7 v18 fun v19 =>
 pk v13 (bv true) v19 fun v20 =>
 condS v20 (
 some (.ret (bv false), s_1)) (
 ZY (.val a0) (iv 1) s_1) := (Q4 _ _ _).trans (by kernel_rfl)
noncomputable def Q1r : Slot → Slot → Slot → St → Res := fun x0 x1 x5 s => lpD Q34 [.seqR, .seqL, .seqR, .block] Tryz.f134 [(0, .s x0), (1, .s x1), (5, .s x5)] s
theorem Q5f : ∀ x0 x1 x5 s_1, Q1r x0 x1 x5 s_1 =
 ln Qe x1 fun v8 =>
 bn Q1 .lss x5 v8 fun v9 =>
 condS v9 (
 ix Q2 x1 x5 fun v14 =>
 ld Q2 s_1 v14 fun v15 =>
 bn Q2 .eql v15 x0 fun v17 =>
 condS v17 (
 some (.ret (bv true), s_1)) (
 nx x5 fun v11 =>
 Q1r x0 x1 v11 s_1)) (
 some (.ret (bv false), s_1)) := by intros; unfold Q1r; exact (Qa _ _ _ _ _ _).trans (by kernel_rfl)
theorem QcZ (a0 : AV) (a1 : AV) (s : St) : cw (.f Q34) [a0, a1] s =
 Q1r (.val a0) (.val a1) (iv 0) s := (Q4 _ _ _).trans (by kernel_rfl)
theorem QcY (s : St) : cw (.f Q4Y) [] s =
 bs Q2 [(sv [97, 110, 100]), (sv [97, 110, 100, 97, 108, 115, 111]), (sv [97, 115]), (sv [99, 97, 115, 101]), (sv [100, 97, 116, 97, 116, 121, 112, 101]), (sv [100, 105, 118]), (sv [101, 108, 115, 101]), (sv [101, 110, 100]), (sv [101, 120, 99, 101, 112, 116, 105, 111, 110]), (sv [102, 110]), (sv [102, 117, 110]), (sv [104, 97, 110, 100, 108, 101]), (sv [105, 102]), (sv [105, 110]), (sv [108, 101, 116]), (sv [109, 111, 100]), (sv [111, 102]), (sv [111, 114, 101, 108, 115, 101]), (sv [112, 114, 105, 110, 116]), (sv [114, 97, 105, 115, 101]), (sv [114, 101, 97, 100]), (sv [114, 101, 102]), (sv [116, 104, 101, 110]), (sv [118, 97, 108])] fun v1 =>
 some (.ret v1, s) := (Q4 _ _ _).trans (by kernel_rfl)
theorem Qel (a0 : AV) (s : St) : cw (.f Q3D) [a0] s =
 bn QH .geq (.val a0) (.val (.int .u8 97)) fun v4 =>
 iT v4 fun w =>
 iT v4 fun w_1 =>
 gB w_1 QH .leq (gdV w (.val a0)) (.val (.int .u8 122)) fun v7 =>
 pk v4 v7 (bv false) fun v8 =>
 iF v8 fun w_2 =>
 iF v8 fun w_3 =>
 gB w_3 QH .eql (gdV w_2 (.val a0)) (.val (.int .u8 95)) fun v11 =>
 pk v8 (bv true) v11 fun v12 =>
 some (.ret v12, s) := (Q4 _ _ _).trans (by kernel_rfl)
noncomputable def Q2X : Slot → Slot → St → Res := fun x0 x3 s => lpD Q3C [.seqR, .seqL, .seqR, .block] Tryz.f137 [(0, .s x0), (3, .s x3)] s
theorem Q7S : ∀ x0 x3 s_1, Q2X x0 x3 s_1 =
 ln Q2 x0 fun v7 =>
 bn Q1 .lss x3 v7 fun v8 =>
 condS v8 (
 bind1 (indexS (C.ti Q2) (C.ti T_0) x0 x3) fun v13 =>
 ca Q3D [v13] s_1 fun v15 s_2 =>
 nt v15 fun v16 =>
 iT v16 fun w =>
 iT v16 fun w_1 =>
 cg w_1 Q3A [(gdV w v13)] s_2 fun v19 s_3 =>
 iT v16 fun w_2 =>
 gN w_2 v19 fun v20 =>
 pk v16 v20 (bv false) fun v21 =>
 iT v21 fun w_3 =>
 iT v21 fun w_4 =>
 gB w_4 QH .lss (gdV w_3 v13) (.val (.int .u8 48)) fun v24 =>
 iT v21 fun w_5 =>
 bindB (Slot.isB (gdV w_5 v24) false) fun w_6 =>
 bindB (Slot.isB (gdV w_5 v24) false) fun w_7 =>
 gB w_7 QH .gtr (gdV w_6 v13) (.val (.int .u8 57)) fun v27 =>
 iT v21 fun w_8 =>
 bind1 (gd w_8 (pickS (gdV w_5 v24) (bv true) v27)) fun v28 =>
 pk v21 v28 (bv false) fun v29 =>
 iT v29 fun w_9 =>
 iT v29 fun w_10 =>
 gB w_10 QH .neq (gdV w_9 v13) (.val (.int .u8 39)) fun v32 =>
 pk v29 v32 (bv false) fun v33 =>
 condS v33 (
 some (.ret (bv false), s_3)) (
 nx x3 fun v10 =>
 Q2X x0 v10 s_3)) (
 ln Q2 x0 fun v35 =>
 bn Q1 .leq v35 (iv 32) fun v36 =>
 some (.ret v36, s_1)) := by intros; unfold Q2X; exact (Qa _ _ _ _ _ _).trans (by kernel_rfl)
theorem Qgf (a0 : AV) (s : St) : cw (.f Q3C) [a0] s =
 Q2X (.val a0) (iv 1) s := (Q4 _ _ _).trans (by kernel_rfl)
theorem Qcc (a0 : AV) (s : St) : cw (.f Q2v) [a0] s =
 bn Q2 .neq (.val a0) (sv []) fun v4 =>
 iT v4 fun w =>
 iT v4 fun w_1 =>
 bind1 (gd w_1 (indexS (C.ti Q2) (C.ti T_0) (gdV w (.val a0)) (iv 0))) fun v7 =>
 iT v4 fun w_2 =>
 cg w_2 Q3A [v7] s fun v8 s_1 =>
 pk v4 v8 (bv false) fun v9 =>
 iT v9 fun w_3 =>
 iT v9 fun w_4 =>
 cg w_4 Q3C [(gdV w_3 (.val a0))] s_1 fun v12 s_2 =>
 pk v9 v12 (bv false) fun v13 =>
 some (.ret v13, s_2) := (Q4 _ _ _).trans (by kernel_rfl)
theorem Q7R (a0 : AV) (s : St) : cw (.f Q8t) [a0] s =
 bind1 (binS (C.ti Q3) .eql (.val a0) (.val (.int .i64 1))) fun v6 =>
 condS v6 (
 bindL (boxCells (C.ti Ql) (.val (.bool true))) fun c =>
 bindL (putAt (List.map .val (C.ti Q0).zero) 1 c) fun c2 =>
 bind1 (ofSlots (C.ti Q0) (List.take (C.ti Q0).size c2)) fun v58 =>
 bindL (boxCells (C.ti Q0) v58) fun c_1 =>
 bindL (putAt c2 0 c_1) fun c2_1 =>
 bind1 (tupS [(ofSlots (C.ti Q0) (List.take (C.ti Q0).size c2_1)), (some (.val (.bool true)))]) fun v => some (.ret v, s)) (
 bind1 (binS (C.ti Q3) .eql (.val a0) (.val (.int .i64 2))) fun v8 =>
 condS v8 (
 bindL (boxCells (C.ti Ql) (.val (.bool true))) fun c_2 =>
 bindL (putAt (List.map .val (C.ti Q0).zero) 0 c_2) fun c2_2 =>
 bind1 (ofSlots (C.ti Q0) (List.take (C.ti Q0).size c2_2)) fun v58_1 =>
 bindL (boxCells (C.ti Q0) v58_1) fun c_3 =>
 bindL (putAt c2_2 0 c_3) fun c2_3 =>
 bind1 (tupS [(ofSlots (C.ti Q0) (List.take (C.ti Q0).size c2_3)), (some (.val (.bool true)))]) fun v => some (.ret v, s)) (
 bind1 (binS (C.ti Q3) .eql (.val a0) (.val (.int .i64 3))) fun v10 =>
 condS v10 (
 bindL (boxCells (C.ti Ql) (.val (.bool true))) fun c_4 =>
 bindL (putAt (List.map .val (C.ti Q0).zero) 0 c_4) fun c2_4 =>
 bindL (boxCells (C.ti Q1) (.val (.int .i64 1))) fun c_5 =>
 bindL (putAt c2_4 5 c_5) fun c2_5 =>
 bind1 (ofSlots (C.ti Q0) (List.take (C.ti Q0).size c2_5)) fun v58_2 =>
 bindL (boxCells (C.ti Q0) v58_2) fun c_6 =>
 bindL (putAt c2_5 0 c_6) fun c2_6 =>
 bind1 (tupS [(ofSlots (C.ti Q0) (List.take (C.ti Q0).size c2_6)), (some (.val (.bool true)))]) fun v => some (.ret v, s)) (
 bind1 (binS (C.ti Q3) .eql (.val a0) (.val (.int .i64 4))) fun v12 =>
 condS v12 (
 bindL (boxCells (C.ti Q1) (.val (.int .i64 2))) fun c_7 =>
 bindL (putAt (List.map .val (C.ti Q0).zero) 4 c_7) fun c2_7 =>
 bindL (boxCells (C.ti Q1) (.val (.int .i64 8))) fun c_8 =>
 bindL (putAt c2_7 5 c_8) fun c2_8 =>
 bind1 (ofSlots (C.ti Q0) (List.take (C.ti Q0).size c2_8)) fun v58_3 =>
 bindL (boxCells (C.ti Q0) v58_3) fun c_9 =>
 bindL (putAt c2_8 0 c_9) fun c2_9 =>
 bind1 (tupS [(ofSlots (C.ti Q0) (List.take (C.ti Q0).size c2_9)), (some (.val (.bool true)))]) fun v => some (.ret v, s)) (
 bind1 (binS (C.ti Q3) .eql (.val a0) (.val (.int .i64 5))) fun v14 =>
 condS v14 (
 bindL (boxCells (C.ti Ql) (.val (.bool true))) fun c_10 =>
 bindL (putAt (List.map .val (C.ti Q0).zero) 2 c_10) fun c2_10 =>
 bind1 (ofSlots (C.ti Q0) (List.take (C.ti Q0).size c2_10)) fun v58_4 =>
 bindL (boxCells (C.ti Q0) v58_4) fun c_11 =>
 bindL (putAt c2_10 0 c_11) fun c2_11 =>
 bind1 (tupS [(ofSlots (C.ti Q0) (List.take (C.ti Q0).size c2_11)), (some (.val (.bool true)))]) fun v => some (.ret v, s)) (
 bind1 (binS (C.ti Q3) .eql (.val a0) (.val (.int .i64 10))) fun v16 =>
 condS v16 (
 bindL (boxCells (C.ti Q1) (.val (.int .i64 2))) fun c_12 =>
 bindL (putAt (List.map .val (C.ti Q0).zero) 4 c_12) fun c2_12 =>
 bindL (boxCells (C.ti Q1) (.val (.int .i64 4611686018427387904))) fun c_13 =>
 bindL (putAt c2_12 5 c_13) fun c2_13 =>
 bind1 (ofSlots (C.ti Q0) (List.take (C.ti Q0).size c2_13)) fun v58_5 =>
 bindL (boxCells (C.ti Q0) v58_5) fun c_14 =>
 bindL (putAt c2_13 0 c_14) fun c2_14 =>
 bind1 (tupS [(ofSlots (C.ti Q0) (List.take (C.ti Q0).size c2_14)), (some (.val (.bool true)))]) fun v => some (.ret v, s)) (
 bind1 (binS (C.ti Q3) .eql (.val a0) (.val (.int .i64 8))) fun v18 =>
 condS v18 (
 bindL (boxCells (C.ti Q1) (.val (.int .i64 3))) fun c_15 =>
 bindL (putAt (List.map .val (C.ti Q0).zero) 4 c_15) fun c2_15 =>
 bindL (boxCells (C.ti Q1) (.val (.int .i64 3))) fun c_16 =>
 bindL (putAt c2_15 5 c_16) fun c2_16 =>
 bind1 (ofSlots (C.ti Q0) (List.take (C.ti Q0).size c2_16)) fun v58_6 =>
 bindL (boxCells (C.ti Q0) v58_6) fun c_17 =>
 bindL (putAt c2_16 0 c_17) fun c2_17 =>
 bind1 (tupS [(ofSlots (C.ti Q0) (List.take (C.ti Q0).size c2_17)), (some (.val (.bool true)))]) fun v => some (.ret v, s)) (
 bind1 (binS (C.ti Q3) .eql (.val a0) (.val (.int .i64 7))) fun v20 =>
 condS v20 (
 bindL (boxCells (C.ti Ql) (.val (.bool true))) fun c_18 =>
 bindL (putAt (List.map .val (C.ti Q0).zero) 3 c_18) fun c2_18 =>
 bindL (boxCells (C.ti Q1) (.val (.int .i64 1))) fun c_19 =>
 bindL (putAt c2_18 4 c_19) fun c2_19 =>
 bindL (boxCells (C.ti Q1) (.val (.int .i64 1))) fun c_20 =>
 bindL (putAt c2_19 5 c_20) fun c2_20 =>
 bind1 (ofSlots (C.ti Q0) (List.take (C.ti Q0).size c2_20)) fun v58_7 =>
 bindL (boxCells (C.ti Q0) v58_7) fun c_21 =>
 bindL (putAt c2_20 0 c_21) fun c2_21 =>
 bind1 (tupS [(ofSlots (C.ti Q0) (List.take (C.ti Q0).size c2_21)), (some (.val (.bool true)))]) fun v => some (.ret v, s)) (
 bind1 (binS (C.ti Q3) .eql (.val a0) (.val (.int .i64 9))) fun v22 =>
 condS v22 (
 condS v22 (
 bindL (boxCells (C.ti Ql) (.val (.bool true))) fun c_22 =>
 bindL (putAt (List.map .val (C.ti Q0).zero) 2 c_22) fun c2_22 =>
 bindL (boxCells (C.ti Q1) (.val (.int .i64 1))) fun c_23 =>
 bindL (putAt c2_22 4 c_23) fun c2_23 =>
 bindL (boxCells (C.ti Q1) (.val (.int .i64 1))) fun c_24 =>
 bindL (putAt c2_23 5 c_24) fun c2_24 =>
 bind1 (ofSlots (C.ti Q0) (List.take (C.ti Q0).size c2_24)) fun v58_8 =>
 bindL (boxCells (C.ti Q0) v58_8) fun c_25 =>
 bindL (putAt c2_24 0 c_25) fun c2_25 =>
 bind1 (tupS [(ofSlots (C.ti Q0) (List.take (C.ti Q0).size c2_25)), (some (.val (.bool true)))]) fun v => some (.ret v, s)) (
 bind1 (binS (C.ti Q3) .eql (.val a0) (.val (.int .i64 12))) fun v25 =>
 condS v25 (
 condS v25 (
 bindL (boxCells (C.ti Q1) (.val (.int .i64 1))) fun c_26 =>
 bindL (putAt (List.map .val (C.ti Q0).zero) 4 c_26) fun c2_26 =>
 bindL (boxCells (C.ti Q1) (.val (.int .i64 1))) fun c_27 =>
 bindL (putAt c2_26 5 c_27) fun c2_27 =>
 bind1 (ofSlots (C.ti Q0) (List.take (C.ti Q0).size c2_27)) fun v58_9 =>
 bindL (boxCells (C.ti Q0) v58_9) fun c_28 =>
 bindL (putAt c2_27 0 c_28) fun c2_28 =>
 bind1 (tupS [(ofSlots (C.ti Q0) (List.take (C.ti Q0).size c2_28)), (some (.val (.bool true)))]) fun v => some (.ret v, s)) (
 bind1 (binS (C.ti Q3) .eql (.val a0) (.val (.int .i64 13))) fun v30 =>
 condS v30 (
 bindL (boxCells (C.ti Ql) (.val (.bool true))) fun c_29 =>
 bindL (putAt (List.map .val (C.ti Q0).zero) 1 c_29) fun c2_29 =>
 bindL (boxCells (C.ti Q1) (.val (.int .i64 2))) fun c_30 =>
 bindL (putAt c2_29 4 c_30) fun c2_30 =>
 bindL (boxCells (C.ti Q1) (.val (.int .i64 2))) fun c_31 =>
 bindL (putAt c2_30 5 c_31) fun c2_31 =>
 bind1 (ofSlots (C.ti Q0) (List.take (C.ti Q0).size c2_31)) fun v58_10 =>
 bindL (boxCells (C.ti Q0) v58_10) fun c_32 =>
 bindL (putAt c2_31 0 c_32) fun c2_32 =>
 bind1 (tupS [(ofSlots (C.ti Q0) (List.take (C.ti Q0).size c2_32)), (some (.val (.bool true)))]) fun v => some (.ret v, s)) (
 bind1 (binS (C.ti Q3) .eql (.val a0) (.val (.int .i64 6))) fun v32 =>
 condS v32 (
 condS v32 (
 bindL (boxCells (C.ti Q1) (.val (.int .i64 2))) fun c_33 =>
 bindL (putAt (List.map .val (C.ti Q0).zero) 4 c_33) fun c2_33 =>
 bindL (boxCells (C.ti Q1) (.val (.int .i64 2))) fun c_34 =>
 bindL (putAt c2_33 5 c_34) fun c2_34 =>
 bind1 (ofSlots (C.ti Q0) (List.take (C.ti Q0).size c2_34)) fun v58_11 =>
 bindL (boxCells (C.ti Q0) v58_11) fun c_35 =>
 bindL (putAt c2_34 0 c_35) fun c2_35 =>
 bind1 (tupS [(ofSlots (C.ti Q0) (List.take (C.ti Q0).size c2_35)), (some (.val (.bool true)))]) fun v => some (.ret v, s)) (
 bind1 (binS (C.ti Q3) .eql (.val a0) (.val (.int .i64 20))) fun v37 =>
 condS v37 (
 bind1 (ofSlots (C.ti Q0) (List.take (C.ti Q0).size (List.map .val (C.ti Q0).zero))) fun v58_12 =>
 bindL (boxCells (C.ti Q0) v58_12) fun c_36 =>
 bindL (putAt (List.map .val (C.ti Q0).zero) 0 c_36) fun c2_36 =>
 bind1 (tupS [(ofSlots (C.ti Q0) (List.take (C.ti Q0).size c2_36)), (some (.val (.bool true)))]) fun v => some (.ret v, s)) (
 bind1 (ofSlots (C.ti Q0) (List.take (C.ti Q0).size (List.map .val (C.ti Q0).zero))) fun v58_13 =>
 bindL (boxCells (C.ti Q0) v58_13) fun c_37 =>
 bindL (putAt (List.map .val (C.ti Q0).zero) 0 c_37) fun c2_37 =>
 bind1 (tupS [(ofSlots (C.ti Q0) (List.take (C.ti Q0).size c2_37)), (some (.val (.bool false)))]) fun v => some (.ret v, s)))) (
 bind1 (binS (C.ti Q3) .eql (.val a0) (.val (.int .i64 14))) fun v33 =>
 condS v33 (
 condS v33 (
 bindL (boxCells (C.ti Q1) (.val (.int .i64 2))) fun c_38 =>
 bindL (putAt (List.map .val (C.ti Q0).zero) 4 c_38) fun c2_38 =>
 bindL (boxCells (C.ti Q1) (.val (.int .i64 2))) fun c_39 =>
 bindL (putAt c2_38 5 c_39) fun c2_39 =>
 bind1 (ofSlots (C.ti Q0) (List.take (C.ti Q0).size c2_39)) fun v58_14 =>
 bindL (boxCells (C.ti Q0) v58_14) fun c_40 =>
 bindL (putAt c2_39 0 c_40) fun c2_40 =>
 bind1 (tupS [(ofSlots (C.ti Q0) (List.take (C.ti Q0).size c2_40)), (some (.val (.bool true)))]) fun v => some (.ret v, s)) (
 bind1 (binS (C.ti Q3) .eql (.val a0) (.val (.int .i64 20))) fun v37_1 =>
 condS v37_1 (
 bind1 (ofSlots (C.ti Q0) (List.take (C.ti Q0).size (List.map .val (C.ti Q0).zero))) fun v58_15 =>
 bindL (boxCells (C.ti Q0) v58_15) fun c_41 =>
 bindL (putAt (List.map .val (C.ti Q0).zero) 0 c_41) fun c2_41 =>
 bind1 (tupS [(ofSlots (C.ti Q0) (List.take (C.ti Q0).size c2_41)), (some (.val (.bool true)))]) fun v => some (.ret v, s)) (
 bind1 (ofSlots (C.ti Q0) (List.take (C.ti Q0).size (List.map .val (C.ti Q0).zero))) fun v58_16 =>
 bindL (boxCells (C.ti Q0) v58_16) fun c_42 =>
 bindL (putAt (List.map .val (C.ti Q0).zero) 0 c_42) fun c2_42 =>
 bind1 (tupS [(ofSlots (C.ti Q0) (List.take (C.ti Q0).size c2_42)), (some (.val (.bool false)))]) fun v => some (.ret v, s)))) (
 bind1 (binS (C.ti Q3) .eql (.val a0) (.val (.int .i64 15))) fun v34 =>
 condS v34 (
 condS v34 (
 bindL (boxCells (C.ti Q1) (.val (.int .i64 2))) fun c_43 =>
 bindL (putAt (List.map .val (C.ti Q0).zero) 4 c_43) fun c2_43 =>
 bindL (boxCells (C.ti Q1) (.val (.int .i64 2))) fun c_44 =>
 bindL (putAt c2_43 5 c_44) fun c2_44 =>
 bind1 (ofSlots (C.ti Q0) (List.take (C.ti Q0).size c2_44)) fun v58_17 =>
 bindL (boxCells (C.ti Q0) v58_17) fun c_45 =>
 bindL (putAt c2_44 0 c_45) fun c2_45 =>
 bind1 (tupS [(ofSlots (C.ti Q0) (List.take (C.ti Q0).size c2_45)), (some (.val (.bool true)))]) fun v => some (.ret v, s)) (
 bind1 (binS (C.ti Q3) .eql (.val a0) (.val (.int .i64 20))) fun v37_2 =>
 condS v37_2 (
 bind1 (ofSlots (C.ti Q0) (List.take (C.ti Q0).size (List.map .val (C.ti Q0).zero))) fun v58_18 =>
 bindL (boxCells (C.ti Q0) v58_18) fun c_46 =>
 bindL (putAt (List.map .val (C.ti Q0).zero) 0 c_46) fun c2_46 =>
 bind1 (tupS [(ofSlots (C.ti Q0) (List.take (C.ti Q0).size c2_46)), (some (.val (.bool true)))]) fun v => some (.ret v, s)) (
 bind1 (ofSlots (C.ti Q0) (List.take (C.ti Q0).size (List.map .val (C.ti Q0).zero))) fun v58_19 =>
 bindL (boxCells (C.ti Q0) v58_19) fun c_47 =>
 bindL (putAt (List.map .val (C.ti Q0).zero) 0 c_47) fun c2_47 =>
 bind1 (tupS [(ofSlots (C.ti Q0) (List.take (C.ti Q0).size c2_47)), (some (.val (.bool false)))]) fun v => some (.ret v, s)))) (
 bind1 (binS (C.ti Q3) .eql (.val a0) (.val (.int .i64 18))) fun v35 =>
 condS v35 (
 bindL (boxCells (C.ti Q1) (.val (.int .i64 2))) fun c_48 =>
 bindL (putAt (List.map .val (C.ti Q0).zero) 4 c_48) fun c2_48 =>
 bindL (boxCells (C.ti Q1) (.val (.int .i64 2))) fun c_49 =>
 bindL (putAt c2_48 5 c_49) fun c2_49 =>
 bind1 (ofSlots (C.ti Q0) (List.take (C.ti Q0).size c2_49)) fun v58_20 =>
 bindL (boxCells (C.ti Q0) v58_20) fun c_50 =>
 bindL (putAt c2_49 0 c_50) fun c2_50 =>
 bind1 (tupS [(ofSlots (C.ti Q0) (List.take (C.ti Q0).size c2_50)), (some (.val (.bool true)))]) fun v => some (.ret v, s)) (
 bind1 (binS (C.ti Q3) .eql (.val a0) (.val (.int .i64 20))) fun v37_3 =>
 condS v37_3 (
 bind1 (ofSlots (C.ti Q0) (List.take (C.ti Q0).size (List.map .val (C.ti Q0).zero))) fun v58_21 =>
 bindL (boxCells (C.ti Q0) v58_21) fun c_51 =>
 bindL (putAt (List.map .val (C.ti Q0).zero) 0 c_51) fun c2_51 =>
 bind1 (tupS [(ofSlots (C.ti Q0) (List.take (C.ti Q0).size c2_51)), (some (.val (.bool true)))]) fun v => some (.ret v, s)) (
 bind1 (ofSlots (C.ti Q0) (List.take (C.ti Q0).size (List.map .val (C.ti Q0).zero))) fun v58_22 =>
 bindL (boxCells (C.ti Q0) v58_22) fun c_52 =>
 bindL (putAt (List.map .val (C.ti Q0).zero) 0 c_52) fun c2_52 =>
 bind1 (tupS [(ofSlots (C.ti Q0) (List.take (C.ti Q0).size c2_52)), (some (.val (.bool false)))]) fun v => some (.ret v, s))))))))) (
 bind1 (binS (C.ti Q3) .eql (.val a0) (.val (.int .i64 16))) fun v26 =>
 condS v26 (
 condS v26 (
 bindL (boxCells (C.ti Q1) (.val (.int .i64 1))) fun c_53 =>
 bindL (putAt (List.map .val (C.ti Q0).zero) 4 c_53) fun c2_53 =>
 bindL (boxCells (C.ti Q1) (.val (.int .i64 1))) fun c_54 =>
 bindL (putAt c2_53 5 c_54) fun c2_54 =>
 bind1 (ofSlots (C.ti Q0) (List.take (C.ti Q0).size c2_54)) fun v58_23 =>
 bindL (boxCells (C.ti Q0) v58_23) fun c_55 =>
 bindL (putAt c2_54 0 c_55) fun c2_55 =>
 bind1 (tupS [(ofSlots (C.ti Q0) (List.take (C.ti Q0).size c2_55)), (some (.val (.bool true)))]) fun v => some (.ret v, s)) (
 bind1 (binS (C.ti Q3) .eql (.val a0) (.val (.int .i64 13))) fun v30_1 =>
 condS v30_1 (
 bindL (boxCells (C.ti Ql) (.val (.bool true))) fun c_56 =>
 bindL (putAt (List.map .val (C.ti Q0).zero) 1 c_56) fun c2_56 =>
 bindL (boxCells (C.ti Q1) (.val (.int .i64 2))) fun c_57 =>
 bindL (putAt c2_56 4 c_57) fun c2_57 =>
 bindL (boxCells (C.ti Q1) (.val (.int .i64 2))) fun c_58 =>
 bindL (putAt c2_57 5 c_58) fun c2_58 =>
 bind1 (ofSlots (C.ti Q0) (List.take (C.ti Q0).size c2_58)) fun v58_24 =>
 bindL (boxCells (C.ti Q0) v58_24) fun c_59 =>
 bindL (putAt c2_58 0 c_59) fun c2_59 =>
 bind1 (tupS [(ofSlots (C.ti Q0) (List.take (C.ti Q0).size c2_59)), (some (.val (.bool true)))]) fun v => some (.ret v, s)) (
 bind1 (binS (C.ti Q3) .eql (.val a0) (.val (.int .i64 6))) fun v32_1 =>
 condS v32_1 (
 condS v32_1 (
 bindL (boxCells (C.ti Q1) (.val (.int .i64 2))) fun c_60 =>
 bindL (putAt (List.map .val (C.ti Q0).zero) 4 c_60) fun c2_60 =>
 bindL (boxCells (C.ti Q1) (.val (.int .i64 2))) fun c_61 =>
 bindL (putAt c2_60 5 c_61) fun c2_61 =>
 bind1 (ofSlots (C.ti Q0) (List.take (C.ti Q0).size c2_61)) fun v58_25 =>
 bindL (boxCells (C.ti Q0) v58_25) fun c_62 =>
 bindL (putAt c2_61 0 c_62) fun c2_62 =>
 bind1 (tupS [(ofSlots (C.ti Q0) (List.take (C.ti Q0).size c2_62)), (some (.val (.bool true)))]) fun v => some (.ret v, s)) (
 bind1 (binS (C.ti Q3) .eql (.val a0) (.val (.int .i64 20))) fun v37_4 =>
 condS v37_4 (
 bind1 (ofSlots (C.ti Q0) (List.take (C.ti Q0).size (List.map .val (C.ti Q0).zero))) fun v58_26 =>
 bindL (boxCells (C.ti Q0) v58_26) fun c_63 =>
 bindL (putAt (List.map .val (C.ti Q0).zero) 0 c_63) fun c2_63 =>
 bind1 (tupS [(ofSlots (C.ti Q0) (List.take (C.ti Q0).size c2_63)), (some (.val (.bool true)))]) fun v => some (.ret v, s)) (
 bind1 (ofSlots (C.ti Q0) (List.take (C.ti Q0).size (List.map .val (C.ti Q0).zero))) fun v58_27 =>
 bindL (boxCells (C.ti Q0) v58_27) fun c_64 =>
 bindL (putAt (List.map .val (C.ti Q0).zero) 0 c_64) fun c2_64 =>
 bind1 (tupS [(ofSlots (C.ti Q0) (List.take (C.ti Q0).size c2_64)), (some (.val (.bool false)))]) fun v => some (.ret v, s)))) (
 bind1 (binS (C.ti Q3) .eql (.val a0) (.val (.int .i64 14))) fun v33_1 =>
 condS v33_1 (
 condS v33_1 (
 bindL (boxCells (C.ti Q1) (.val (.int .i64 2))) fun c_65 =>
 bindL (putAt (List.map .val (C.ti Q0).zero) 4 c_65) fun c2_65 =>
 bindL (boxCells (C.ti Q1) (.val (.int .i64 2))) fun c_66 =>
 bindL (putAt c2_65 5 c_66) fun c2_66 =>
 bind1 (ofSlots (C.ti Q0) (List.take (C.ti Q0).size c2_66)) fun v58_28 =>
 bindL (boxCells (C.ti Q0) v58_28) fun c_67 =>
 bindL (putAt c2_66 0 c_67) fun c2_67 =>
 bind1 (tupS [(ofSlots (C.ti Q0) (List.take (C.ti Q0).size c2_67)), (some (.val (.bool true)))]) fun v => some (.ret v, s)) (
 bind1 (binS (C.ti Q3) .eql (.val a0) (.val (.int .i64 20))) fun v37_5 =>
 condS v37_5 (
 bind1 (ofSlots (C.ti Q0) (List.take (C.ti Q0).size (List.map .val (C.ti Q0).zero))) fun v58_29 =>
 bindL (boxCells (C.ti Q0) v58_29) fun c_68 =>
 bindL (putAt (List.map .val (C.ti Q0).zero) 0 c_68) fun c2_68 =>
 bind1 (tupS [(ofSlots (C.ti Q0) (List.take (C.ti Q0).size c2_68)), (some (.val (.bool true)))]) fun v => some (.ret v, s)) (
 bind1 (ofSlots (C.ti Q0) (List.take (C.ti Q0).size (List.map .val (C.ti Q0).zero))) fun v58_30 =>
 bindL (boxCells (C.ti Q0) v58_30) fun c_69 =>
 bindL (putAt (List.map .val (C.ti Q0).zero) 0 c_69) fun c2_69 =>
 bind1 (tupS [(ofSlots (C.ti Q0) (List.take (C.ti Q0).size c2_69)), (some (.val (.bool false)))]) fun v => some (.ret v, s)))) (
 bind1 (binS (C.ti Q3) .eql (.val a0) (.val (.int .i64 15))) fun v34_1 =>
 condS v34_1 (
 condS v34_1 (
 bindL (boxCells (C.ti Q1) (.val (.int .i64 2))) fun c_70 =>
 bindL (putAt (List.map .val (C.ti Q0).zero) 4 c_70) fun c2_70 =>
 bindL (boxCells (C.ti Q1) (.val (.int .i64 2))) fun c_71 =>
 bindL (putAt c2_70 5 c_71) fun c2_71 =>
 bind1 (ofSlots (C.ti Q0) (List.take (C.ti Q0).size c2_71)) fun v58_31 =>
 bindL (boxCells (C.ti Q0) v58_31) fun c_72 =>
 bindL (putAt c2_71 0 c_72) fun c2_72 =>
 bind1 (tupS [(ofSlots (C.ti Q0) (List.take (C.ti Q0).size c2_72)), (some (.val (.bool true)))]) fun v => some (.ret v, s)) (
 bind1 (binS (C.ti Q3) .eql (.val a0) (.val (.int .i64 20))) fun v37_6 =>
 condS v37_6 (
 bind1 (ofSlots (C.ti Q0) (List.take (C.ti Q0).size (List.map .val (C.ti Q0).zero))) fun v58_32 =>
 bindL (boxCells (C.ti Q0) v58_32) fun c_73 =>
 bindL (putAt (List.map .val (C.ti Q0).zero) 0 c_73) fun c2_73 =>
 bind1 (tupS [(ofSlots (C.ti Q0) (List.take (C.ti Q0).size c2_73)), (some (.val (.bool true)))]) fun v => some (.ret v, s)) (
 bind1 (ofSlots (C.ti Q0) (List.take (C.ti Q0).size (List.map .val (C.ti Q0).zero))) fun v58_33 =>
 bindL (boxCells (C.ti Q0) v58_33) fun c_74 =>
 bindL (putAt (List.map .val (C.ti Q0).zero) 0 c_74) fun c2_74 =>
 bind1 (tupS [(ofSlots (C.ti Q0) (List.take (C.ti Q0).size c2_74)), (some (.val (.bool false)))]) fun v => some (.ret v, s)))) (
 bind1 (binS (C.ti Q3) .eql (.val a0) (.val (.int .i64 18))) fun v35_1 =>
 condS v35_1 (
 bindL (boxCells (C.ti Q1) (.val (.int .i64 2))) fun c_75 =>
 bindL (putAt (List.map .val (C.ti Q0).zero) 4 c_75) fun c2_75 =>
 bindL (boxCells (C.ti Q1) (.val (.int .i64 2))) fun c_76 =>
 bindL (putAt c2_75 5 c_76) fun c2_76 =>
 bind1 (ofSlots (C.ti Q0) (List.take (C.ti Q0).size c2_76)) fun v58_34 =>
 bindL (boxCells (C.ti Q0) v58_34) fun c_77 =>
 bindL (putAt c2_76 0 c_77) fun c2_77 =>
 bind1 (tupS [(ofSlots (C.ti Q0) (List.take (C.ti Q0).size c2_77)), (some (.val (.bool true)))]) fun v => some (.ret v, s)) (
 bind1 (binS (C.ti Q3) .eql (.val a0) (.val (.int .i64 20))) fun v37_7 =>
 condS v37_7 (
 bind1 (ofSlots (C.ti Q0) (List.take (C.ti Q0).size (List.map .val (C.ti Q0).zero))) fun v58_35 =>
 bindL (boxCells (C.ti Q0) v58_35) fun c_78 =>
 bindL (putAt (List.map .val (C.ti Q0).zero) 0 c_78) fun c2_78 =>
 bind1 (tupS [(ofSlots (C.ti Q0) (List.take (C.ti Q0).size c2_78)), (some (.val (.bool true)))]) fun v => some (.ret v, s)) (
 bind1 (ofSlots (C.ti Q0) (List.take (C.ti Q0).size (List.map .val (C.ti Q0).zero))) fun v58_36 =>
 bindL (boxCells (C.ti Q0) v58_36) fun c_79 =>
 bindL (putAt (List.map .val (C.ti Q0).zero) 0 c_79) fun c2_79 =>
 bind1 (tupS [(ofSlots (C.ti Q0) (List.take (C.ti Q0).size c2_79)), (some (.val (.bool false)))]) fun v => some (.ret v, s))))))))) (
 bind1 (binS (C.ti Q3) .eql (.val a0) (.val (.int .i64 17))) fun v27 =>
 condS v27 (
 condS v27 (
 bindL (boxCells (C.ti Q1) (.val (.int .i64 1))) fun c_80 =>
 bindL (putAt (List.map .val (C.ti Q0).zero) 4 c_80) fun c2_80 =>
 bindL (boxCells (C.ti Q1) (.val (.int .i64 1))) fun c_81 =>
 bindL (putAt c2_80 5 c_81) fun c2_81 =>
 bind1 (ofSlots (C.ti Q0) (List.take (C.ti Q0).size c2_81)) fun v58_37 =>
 bindL (boxCells (C.ti Q0) v58_37) fun c_82 =>
 bindL (putAt c2_81 0 c_82) fun c2_82 =>
 bind1 (tupS [(ofSlots (C.ti Q0) (List.take (C.ti Q0).size c2_82)), (some (.val (.bool true)))]) fun v => some (.ret v, s)) (
 bind1 (binS (C.ti Q3) .eql (.val a0) (.val (.int .i64 13))) fun v30_2 =>
 condS v30_2 (
 bindL (boxCells (C.ti Ql) (.val (.bool true))) fun c_83 =>
 bindL (putAt (List.map .val (C.ti Q0).zero) 1 c_83) fun c2_83 =>
 bindL (boxCells (C.ti Q1) (.val (.int .i64 2))) fun c_84 =>
 bindL (putAt c2_83 4 c_84) fun c2_84 =>
 bindL (boxCells (C.ti Q1) (.val (.int .i64 2))) fun c_85 =>
 bindL (putAt c2_84 5 c_85) fun c2_85 =>
 bind1 (ofSlots (C.ti Q0) (List.take (C.ti Q0).size c2_85)) fun v58_38 =>
 bindL (boxCells (C.ti Q0) v58_38) fun c_86 =>
 bindL (putAt c2_85 0 c_86) fun c2_86 =>
 bind1 (tupS [(ofSlots (C.ti Q0) (List.take (C.ti Q0).size c2_86)), (some (.val (.bool true)))]) fun v => some (.ret v, s)) (
 bind1 (binS (C.ti Q3) .eql (.val a0) (.val (.int .i64 6))) fun v32_2 =>
 condS v32_2 (
 condS v32_2 (
 bindL (boxCells (C.ti Q1) (.val (.int .i64 2))) fun c_87 =>
 bindL (putAt (List.map .val (C.ti Q0).zero) 4 c_87) fun c2_87 =>
 bindL (boxCells (C.ti Q1) (.val (.int .i64 2))) fun c_88 =>
 bindL (putAt c2_87 5 c_88) fun c2_88 =>
 bind1 (ofSlots (C.ti Q0) (List.take (C.ti Q0).size c2_88)) fun v58_39 =>
 bindL (boxCells (C.ti Q0) v58_39) fun c_89 =>
 bindL (putAt c2_88 0 c_89) fun c2_89 =>
 bind1 (tupS [(ofSlots (C.ti Q0) (List.take (C.ti Q0).size c2_89)), (some (.val (.bool true)))]) fun v => some (.ret v, s)) (
 bind1 (binS (C.ti Q3) .eql (.val a0) (.val (.int .i64 20))) fun v37_8 =>
 condS v37_8 (
 bind1 (ofSlots (C.ti Q0) (List.take (C.ti Q0).size (List.map .val (C.ti Q0).zero))) fun v58_40 =>
 bindL (boxCells (C.ti Q0) v58_40) fun c_90 =>
 bindL (putAt (List.map .val (C.ti Q0).zero) 0 c_90) fun c2_90 =>
 bind1 (tupS [(ofSlots (C.ti Q0) (List.take (C.ti Q0).size c2_90)), (some (.val (.bool true)))]) fun v => some (.ret v, s)) (
 bind1 (ofSlots (C.ti Q0) (List.take (C.ti Q0).size (List.map .val (C.ti Q0).zero))) fun v58_41 =>
 bindL (boxCells (C.ti Q0) v58_41) fun c_91 =>
 bindL (putAt (List.map .val (C.ti Q0).zero) 0 c_91) fun c2_91 =>
 bind1 (tupS [(ofSlots (C.ti Q0) (List.take (C.ti Q0).size c2_91)), (some (.val (.bool false)))]) fun v => some (.ret v, s)))) (
 bind1 (binS (C.ti Q3) .eql (.val a0) (.val (.int .i64 14))) fun v33_2 =>
 condS v33_2 (
 condS v33_2 (
 bindL (boxCells (C.ti Q1) (.val (.int .i64 2))) fun c_92 =>
 bindL (putAt (List.map .val (C.ti Q0).zero) 4 c_92) fun c2_92 =>
 bindL (boxCells (C.ti Q1) (.val (.int .i64 2))) fun c_93 =>
 bindL (putAt c2_92 5 c_93) fun c2_93 =>
 bind1 (ofSlots (C.ti Q0) (List.take (C.ti Q0).size c2_93)) fun v58_42 =>
 bindL (boxCells (C.ti Q0) v58_42) fun c_94 =>
 bindL (putAt c2_93 0 c_94) fun c2_94 =>
 bind1 (tupS [(ofSlots (C.ti Q0) (List.take (C.ti Q0).size c2_94)), (some (.val (.bool true)))]) fun v => some (.ret v, s)) (
 bind1 (binS (C.ti Q3) .eql (.val a0) (.val (.int .i64 20))) fun v37_9 =>
 condS v37_9 (
 bind1 (ofSlots (C.ti Q0) (List.take (C.ti Q0).size (List.map .val (C.ti Q0).zero))) fun v58_43 =>
 bindL (boxCells (C.ti Q0) v58_43) fun c_95 =>
 bindL (putAt (List.map .val (C.ti Q0).zero) 0 c_95) fun c2_95 =>
 bind1 (tupS [(ofSlots (C.ti Q0) (List.take (C.ti Q0).size c2_95)), (some (.val (.bool true)))]) fun v => some (.ret v, s)) (
 bind1 (ofSlots (C.ti Q0) (List.take (C.ti Q0).size (List.map .val (C.ti Q0).zero))) fun v58_44 =>
 bindL (boxCells (C.ti Q0) v58_44) fun c_96 =>
 bindL (putAt (List.map .val (C.ti Q0).zero) 0 c_96) fun c2_96 =>
 bind1 (tupS [(ofSlots (C.ti Q0) (List.take (C.ti Q0).size c2_96)), (some (.val (.bool false)))]) fun v => some (.ret v, s)))) (
 bind1 (binS (C.ti Q3) .eql (.val a0) (.val (.int .i64 15))) fun v34_2 =>
 condS v34_2 (
 condS v34_2 (
 bindL (boxCells (C.ti Q1) (.val (.int .i64 2))) fun c_97 =>
 bindL (putAt (List.map .val (C.ti Q0).zero) 4 c_97) fun c2_97 =>
 bindL (boxCells (C.ti Q1) (.val (.int .i64 2))) fun c_98 =>
 bindL (putAt c2_97 5 c_98) fun c2_98 =>
 bind1 (ofSlots (C.ti Q0) (List.take (C.ti Q0).size c2_98)) fun v58_45 =>
 bindL (boxCells (C.ti Q0) v58_45) fun c_99 =>
 bindL (putAt c2_98 0 c_99) fun c2_99 =>
 bind1 (tupS [(ofSlots (C.ti Q0) (List.take (C.ti Q0).size c2_99)), (some (.val (.bool true)))]) fun v => some (.ret v, s)) (
 bind1 (binS (C.ti Q3) .eql (.val a0) (.val (.int .i64 20))) fun v37_10 =>
 condS v37_10 (
 bind1 (ofSlots (C.ti Q0) (List.take (C.ti Q0).size (List.map .val (C.ti Q0).zero))) fun v58_46 =>
 bindL (boxCells (C.ti Q0) v58_46) fun c_100 =>
 bindL (putAt (List.map .val (C.ti Q0).zero) 0 c_100) fun c2_100 =>
 bind1 (tupS [(ofSlots (C.ti Q0) (List.take (C.ti Q0).size c2_100)), (some (.val (.bool true)))]) fun v => some (.ret v, s)) (
 bind1 (ofSlots (C.ti Q0) (List.take (C.ti Q0).size (List.map .val (C.ti Q0).zero))) fun v58_47 =>
 bindL (boxCells (C.ti Q0) v58_47) fun c_101 =>
 bindL (putAt (List.map .val (C.ti Q0).zero) 0 c_101) fun c2_101 =>
 bind1 (tupS [(ofSlots (C.ti Q0) (List.take (C.ti Q0).size c2_101)), (some (.val (.bool false)))]) fun v => some (.ret v, s)))) (
 bind1 (binS (C.ti Q3) .eql (.val a0) (.val (.int .i64 18))) fun v35_2 =>
 condS v35_2 (
 bindL (boxCells (C.ti Q1) (.val (.int .i64 2))) fun c_102 =>
 bindL (putAt (List.map .val (C.ti Q0).zero) 4 c_102) fun c2_102 =>
 bindL (boxCells (C.ti Q1) (.val (.int .i64 2))) fun c_103 =>
 bindL (putAt c2_102 5 c_103) fun c2_103 =>
 bind1 (ofSlots (C.ti Q0) (List.take (C.ti Q0).size c2_103)) fun v58_48 =>
 bindL (boxCells (C.ti Q0) v58_48) fun c_104 =>
 bindL (putAt c2_103 0 c_104) fun c2_104 =>
 bind1 (tupS [(ofSlots (C.ti Q0) (List.take (C.ti Q0).size c2_104)), (some (.val (.bool true)))]) fun v => some (.ret v, s)) (
 bind1 (binS (C.ti Q3) .eql (.val a0) (.val (.int .i64 20))) fun v37_11 =>
 condS v37_11 (
 bind1 (ofSlots (C.ti Q0) (List.take (C.ti Q0).size (List.map .val (C.ti Q0).zero))) fun v58_49 =>
 bindL (boxCells (C.ti Q0) v58_49) fun c_105 =>
 bindL (putAt (List.map .val (C.ti Q0).zero) 0 c_105) fun c2_105 =>
 bind1 (tupS [(ofSlots (C.ti Q0) (List.take (C.ti Q0).size c2_105)), (some (.val (.bool true)))]) fun v => some (.ret v, s)) (
 bind1 (ofSlots (C.ti Q0) (List.take (C.ti Q0).size (List.map .val (C.ti Q0).zero))) fun v58_50 =>
 bindL (boxCells (C.ti Q0) v58_50) fun c_106 =>
 bindL (putAt (List.map .val (C.ti Q0).zero) 0 c_106) fun c2_106 =>
 bind1 (tupS [(ofSlots (C.ti Q0) (List.take (C.ti Q0).size c2_106)), (some (.val (.bool false)))]) fun v => some (.ret v, s))))))))) (
 bind1 (binS (C.ti Q3) .eql (.val a0) (.val (.int .i64 19))) fun v28 =>
 condS v28 (
 bindL (boxCells (C.ti Q1) (.val (.int .i64 1))) fun c_107 =>
 bindL (putAt (List.map .val (C.ti Q0).zero) 4 c_107) fun c2_107 =>
 bindL (boxCells (C.ti Q1) (.val (.int .i64 1))) fun c_108 =>
 bindL (putAt c2_107 5 c_108) fun c2_108 =>
 bind1 (ofSlots (C.ti Q0) (List.take (C.ti Q0).size c2_108)) fun v58_51 =>
 bindL (boxCells (C.ti Q0) v58_51) fun c_109 =>
 bindL (putAt c2_108 0 c_109) fun c2_109 =>
 bind1 (tupS [(ofSlots (C.ti Q0) (List.take (C.ti Q0).size c2_109)), (some (.val (.bool true)))]) fun v => some (.ret v, s)) (
 bind1 (binS (C.ti Q3) .eql (.val a0) (.val (.int .i64 13))) fun v30_3 =>
 condS v30_3 (
 bindL (boxCells (C.ti Ql) (.val (.bool true))) fun c_110 =>
 bindL (putAt (List.map .val (C.ti Q0).zero) 1 c_110) fun c2_110 =>
 bindL (boxCells (C.ti Q1) (.val (.int .i64 2))) fun c_111 =>
 bindL (putAt c2_110 4 c_111) fun c2_111 =>
 bindL (boxCells (C.ti Q1) (.val (.int .i64 2))) fun c_112 =>
 bindL (putAt c2_111 5 c_112) fun c2_112 =>
 bind1 (ofSlots (C.ti Q0) (List.take (C.ti Q0).size c2_112)) fun v58_52 =>
 bindL (boxCells (C.ti Q0) v58_52) fun c_113 =>
 bindL (putAt c2_112 0 c_113) fun c2_113 =>
 bind1 (tupS [(ofSlots (C.ti Q0) (List.take (C.ti Q0).size c2_113)), (some (.val (.bool true)))]) fun v => some (.ret v, s)) (
 bind1 (binS (C.ti Q3) .eql (.val a0) (.val (.int .i64 6))) fun v32_3 =>
 condS v32_3 (
 condS v32_3 (
 bindL (boxCells (C.ti Q1) (.val (.int .i64 2))) fun c_114 =>
 bindL (putAt (List.map .val (C.ti Q0).zero) 4 c_114) fun c2_114 =>
 bindL (boxCells (C.ti Q1) (.val (.int .i64 2))) fun c_115 =>
 bindL (putAt c2_114 5 c_115) fun c2_115 =>
 bind1 (ofSlots (C.ti Q0) (List.take (C.ti Q0).size c2_115)) fun v58_53 =>
 bindL (boxCells (C.ti Q0) v58_53) fun c_116 =>
 bindL (putAt c2_115 0 c_116) fun c2_116 =>
 bind1 (tupS [(ofSlots (C.ti Q0) (List.take (C.ti Q0).size c2_116)), (some (.val (.bool true)))]) fun v => some (.ret v, s)) (
 bind1 (binS (C.ti Q3) .eql (.val a0) (.val (.int .i64 20))) fun v37_12 =>
 condS v37_12 (
 bind1 (ofSlots (C.ti Q0) (List.take (C.ti Q0).size (List.map .val (C.ti Q0).zero))) fun v58_54 =>
 bindL (boxCells (C.ti Q0) v58_54) fun c_117 =>
 bindL (putAt (List.map .val (C.ti Q0).zero) 0 c_117) fun c2_117 =>
 bind1 (tupS [(ofSlots (C.ti Q0) (List.take (C.ti Q0).size c2_117)), (some (.val (.bool true)))]) fun v => some (.ret v, s)) (
 bind1 (ofSlots (C.ti Q0) (List.take (C.ti Q0).size (List.map .val (C.ti Q0).zero))) fun v58_55 =>
 bindL (boxCells (C.ti Q0) v58_55) fun c_118 =>
 bindL (putAt (List.map .val (C.ti Q0).zero) 0 c_118) fun c2_118 =>
 bind1 (tupS [(ofSlots (C.ti Q0) (List.take (C.ti Q0).size c2_118)), (some (.val (.bool false)))]) fun v => some (.ret v, s)))) (
 bind1 (binS (C.ti Q3) .eql (.val a0) (.val (.int .i64 14))) fun v33_3 =>
 condS v33_3 (
 condS v33_3 (
 bindL (boxCells (C.ti Q1) (.val (.int .i64 2))) fun c_119 =>
 bindL (putAt (List.map .val (C.ti Q0).zero) 4 c_119) fun c2_119 =>
 bindL (boxCells (C.ti Q1) (.val (.int .i64 2))) fun c_120 =>
 bindL (putAt c2_119 5 c_120) fun c2_120 =>
 bind1 (ofSlots (C.ti Q0) (List.take (C.ti Q0).size c2_120)) fun v58_56 =>
 bindL (boxCells (C.ti Q0) v58_56) fun c_121 =>
 bindL (putAt c2_120 0 c_121) fun c2_121 =>
 bind1 (tupS [(ofSlots (C.ti Q0) (List.take (C.ti Q0).size c2_121)), (some (.val (.bool true)))]) fun v => some (.ret v, s)) (
 bind1 (binS (C.ti Q3) .eql (.val a0) (.val (.int .i64 20))) fun v37_13 =>
 condS v37_13 (
 bind1 (ofSlots (C.ti Q0) (List.take (C.ti Q0).size (List.map .val (C.ti Q0).zero))) fun v58_57 =>
 bindL (boxCells (C.ti Q0) v58_57) fun c_122 =>
 bindL (putAt (List.map .val (C.ti Q0).zero) 0 c_122) fun c2_122 =>
 bind1 (tupS [(ofSlots (C.ti Q0) (List.take (C.ti Q0).size c2_122)), (some (.val (.bool true)))]) fun v => some (.ret v, s)) (
 bind1 (ofSlots (C.ti Q0) (List.take (C.ti Q0).size (List.map .val (C.ti Q0).zero))) fun v58_58 =>
 bindL (boxCells (C.ti Q0) v58_58) fun c_123 =>
 bindL (putAt (List.map .val (C.ti Q0).zero) 0 c_123) fun c2_123 =>
 bind1 (tupS [(ofSlots (C.ti Q0) (List.take (C.ti Q0).size c2_123)), (some (.val (.bool false)))]) fun v => some (.ret v, s)))) (
 bind1 (binS (C.ti Q3) .eql (.val a0) (.val (.int .i64 15))) fun v34_3 =>
 condS v34_3 (
 condS v34_3 (
 bindL (boxCells (C.ti Q1) (.val (.int .i64 2))) fun c_124 =>
 bindL (putAt (List.map .val (C.ti Q0).zero) 4 c_124) fun c2_124 =>
 bindL (boxCells (C.ti Q1) (.val (.int .i64 2))) fun c_125 =>
 bindL (putAt c2_124 5 c_125) fun c2_125 =>
 bind1 (ofSlots (C.ti Q0) (List.take (C.ti Q0).size c2_125)) fun v58_59 =>
 bindL (boxCells (C.ti Q0) v58_59) fun c_126 =>
 bindL (putAt c2_125 0 c_126) fun c2_126 =>
 bind1 (tupS [(ofSlots (C.ti Q0) (List.take (C.ti Q0).size c2_126)), (some (.val (.bool true)))]) fun v => some (.ret v, s)) (
 bind1 (binS (C.ti Q3) .eql (.val a0) (.val (.int .i64 20))) fun v37_14 =>
 condS v37_14 (
 bind1 (ofSlots (C.ti Q0) (List.take (C.ti Q0).size (List.map .val (C.ti Q0).zero))) fun v58_60 =>
 bindL (boxCells (C.ti Q0) v58_60) fun c_127 =>
 bindL (putAt (List.map .val (C.ti Q0).zero) 0 c_127) fun c2_127 =>
 bind1 (tupS [(ofSlots (C.ti Q0) (List.take (C.ti Q0).size c2_127)), (some (.val (.bool true)))]) fun v => some (.ret v, s)) (
 bind1 (ofSlots (C.ti Q0) (List.take (C.ti Q0).size (List.map .val (C.ti Q0).zero))) fun v58_61 =>
 bindL (boxCells (C.ti Q0) v58_61) fun c_128 =>
 bindL (putAt (List.map .val (C.ti Q0).zero) 0 c_128) fun c2_128 =>
 bind1 (tupS [(ofSlots (C.ti Q0) (List.take (C.ti Q0).size c2_128)), (some (.val (.bool false)))]) fun v => some (.ret v, s)))) (
 bind1 (binS (C.ti Q3) .eql (.val a0) (.val (.int .i64 18))) fun v35_3 =>
 condS v35_3 (
 bindL (boxCells (C.ti Q1) (.val (.int .i64 2))) fun c_129 =>
 bindL (putAt (List.map .val (C.ti Q0).zero) 4 c_129) fun c2_129 =>
 bindL (boxCells (C.ti Q1) (.val (.int .i64 2))) fun c_130 =>
 bindL (putAt c2_129 5 c_130) fun c2_130 =>
 bind1 (ofSlots (C.ti Q0) (List.take (C.ti Q0).size c2_130)) fun v58_62 =>
 bindL (boxCells (C.ti Q0) v58_62) fun c_131 =>
 bindL (putAt c2_130 0 c_131) fun c2_131 =>
 bind1 (tupS [(ofSlots (C.ti Q0) (List.take (C.ti Q0).size c2_131)), (some (.val (.bool true)))]) fun v => some (.ret v, s)) (
 bind1 (binS (C.ti Q3) .eql (.val a0) (.val (.int .i64 20))) fun v37_15 =>
 condS v37_15 (
 bind1 (ofSlots (C.ti Q0) (List.take (C.ti Q0).size (List.map .val (C.ti Q0).zero))) fun v58_63 =>
 bindL (boxCells (C.ti Q0) v58_63) fun c_132 =>
 bindL (putAt (List.map .val (C.ti Q0).zero) 0 c_132) fun c2_132 =>
 bind1 (tupS [(ofSlots (C.ti Q0) (List.take (C.ti Q0).size c2_132)), (some (.val (.bool true)))]) fun v => some (.ret v, s)) (
 bind1 (ofSlots (C.ti Q0) (List.take (C.ti Q0).size (List.map .val (C.ti Q0).zero))) fun v58_64 =>
 bindL (boxCells (C.ti Q0) v58_64) fun c_133 =>
 bindL (putAt (List.map .val (C.ti Q0).zero) 0 c_133) fun c2_133 =>
 bind1 (tupS [(ofSlots (C.ti Q0) (List.take (C.ti Q0).size c2_133)), (some (.val (.bool false)))]) fun v => some (.ret v, s))))))))))))) (
 bind1 (binS (C.ti Q3) .eql (.val a0) (.val (.int .i64 11))) fun v23 =>
 condS v23 (
 bindL (boxCells (C.ti Ql) (.val (.bool true))) fun c_134 =>
 bindL (putAt (List.map .val (C.ti Q0).zero) 2 c_134) fun c2_134 =>
 bindL (boxCells (C.ti Q1) (.val (.int .i64 1))) fun c_135 =>
 bindL (putAt c2_134 4 c_135) fun c2_135 =>
 bindL (boxCells (C.ti Q1) (.val (.int .i64 1))) fun c_136 =>
 bindL (putAt c2_135 5 c_136) fun c2_136 =>
 bind1 (ofSlots (C.ti Q0) (List.take (C.ti Q0).size c2_136)) fun v58_65 =>
 bindL (boxCells (C.ti Q0) v58_65) fun c_137 =>
 bindL (putAt c2_136 0 c_137) fun c2_137 =>
 bind1 (tupS [(ofSlots (C.ti Q0) (List.take (C.ti Q0).size c2_137)), (some (.val (.bool true)))]) fun v => some (.ret v, s)) (
 bind1 (binS (C.ti Q3) .eql (.val a0) (.val (.int .i64 12))) fun v25_1 =>
 condS v25_1 (
 condS v25_1 (
 bindL (boxCells (C.ti Q1) (.val (.int .i64 1))) fun c_138 =>
 bindL (putAt (List.map .val (C.ti Q0).zero) 4 c_138) fun c2_138 =>
 bindL (boxCells (C.ti Q1) (.val (.int .i64 1))) fun c_139 =>
 bindL (putAt c2_138 5 c_139) fun c2_139 =>
 bind1 (ofSlots (C.ti Q0) (List.take (C.ti Q0).size c2_139)) fun v58_66 =>
 bindL (boxCells (C.ti Q0) v58_66) fun c_140 =>
 bindL (putAt c2_139 0 c_140) fun c2_140 =>
 bind1 (tupS [(ofSlots (C.ti Q0) (List.take (C.ti Q0).size c2_140)), (some (.val (.bool true)))]) fun v => some (.ret v, s)) (
 bind1 (binS (C.ti Q3) .eql (.val a0) (.val (.int .i64 13))) fun v30_4 =>
 condS v30_4 (
 bindL (boxCells (C.ti Ql) (.val (.bool true))) fun c_141 =>
 bindL (putAt (List.map .val (C.ti Q0).zero) 1 c_141) fun c2_141 =>
 bindL (boxCells (C.ti Q1) (.val (.int .i64 2))) fun c_142 =>
 bindL (putAt c2_141 4 c_142) fun c2_142 =>
 bindL (boxCells (C.ti Q1) (.val (.int .i64 2))) fun c_143 =>
 bindL (putAt c2_142 5 c_143) fun c2_143 =>
 bind1 (ofSlots (C.ti Q0) (List.take (C.ti Q0).size c2_143)) fun v58_67 =>
 bindL (boxCells (C.ti Q0) v58_67) fun c_144 =>
 bindL (putAt c2_143 0 c_144) fun c2_144 =>
 bind1 (tupS [(ofSlots (C.ti Q0) (List.take (C.ti Q0).size c2_144)), (some (.val (.bool true)))]) fun v => some (.ret v, s)) (
 bind1 (binS (C.ti Q3) .eql (.val a0) (.val (.int .i64 6))) fun v32_4 =>
 condS v32_4 (
 condS v32_4 (
 bindL (boxCells (C.ti Q1) (.val (.int .i64 2))) fun c_145 =>
 bindL (putAt (List.map .val (C.ti Q0).zero) 4 c_145) fun c2_145 =>
 bindL (boxCells (C.ti Q1) (.val (.int .i64 2))) fun c_146 =>
 bindL (putAt c2_145 5 c_146) fun c2_146 =>
 bind1 (ofSlots (C.ti Q0) (List.take (C.ti Q0).size c2_146)) fun v58_68 =>
 bindL (boxCells (C.ti Q0) v58_68) fun c_147 =>
 bindL (putAt c2_146 0 c_147) fun c2_147 =>
 bind1 (tupS [(ofSlots (C.ti Q0) (List.take (C.ti Q0).size c2_147)), (some (.val (.bool true)))]) fun v => some (.ret v, s)) (
 bind1 (binS (C.ti Q3) .eql (.val a0) (.val (.int .i64 20))) fun v37_16 =>
 condS v37_16 (
 bind1 (ofSlots (C.ti Q0) (List.take (C.ti Q0).size (List.map .val (C.ti Q0).zero))) fun v58_69 =>
 bindL (boxCells (C.ti Q0) v58_69) fun c_148 =>
 bindL (putAt (List.map .val (C.ti Q0).zero) 0 c_148) fun c2_148 =>
 bind1 (tupS [(ofSlots (C.ti Q0) (List.take (C.ti Q0).size c2_148)), (some (.val (.bool true)))]) fun v => some (.ret v, s)) (
 bind1 (ofSlots (C.ti Q0) (List.take (C.ti Q0).size (List.map .val (C.ti Q0).zero))) fun v58_70 =>
 bindL (boxCells (C.ti Q0) v58_70) fun c_149 =>
 bindL (putAt (List.map .val (C.ti Q0).zero) 0 c_149) fun c2_149 =>
 bind1 (tupS [(ofSlots (C.ti Q0) (List.take (C.ti Q0).size c2_149)), (some (.val (.bool false)))]) fun v => some (.ret v, s)))) (
 bind1 (binS (C.ti Q3) .eql (.val a0) (.val (.int .i64 14))) fun v33_4 =>
 condS v33_4 (
 condS v33_4 (
 bindL (boxCells (C.ti Q1) (.val (.int .i64 2))) fun c_150 =>
 bindL (putAt (List.map .val (C.ti Q0).zero) 4 c_150) fun c2_150 =>
 bindL (boxCells (C.ti Q1) (.val (.int .i64 2))) fun c_151 =>
 bindL (putAt c2_150 5 c_151) fun c2_151 =>
 bind1 (ofSlots (C.ti Q0) (List.take (C.ti Q0).size c2_151)) fun v58_71 =>
 bindL (boxCells (C.ti Q0) v58_71) fun c_152 =>
 bindL (putAt c2_151 0 c_152) fun c2_152 =>
 bind1 (tupS [(ofSlots (C.ti Q0) (List.take (C.ti Q0).size c2_152)), (some (.val (.bool true)))]) fun v => some (.ret v, s)) (
 bind1 (binS (C.ti Q3) .eql (.val a0) (.val (.int .i64 20))) fun v37_17 =>
 condS v37_17 (
 bind1 (ofSlots (C.ti Q0) (List.take (C.ti Q0).size (List.map .val (C.ti Q0).zero))) fun v58_72 =>
 bindL (boxCells (C.ti Q0) v58_72) fun c_153 =>
 bindL (putAt (List.map .val (C.ti Q0).zero) 0 c_153) fun c2_153 =>
 bind1 (tupS [(ofSlots (C.ti Q0) (List.take (C.ti Q0).size c2_153)), (some (.val (.bool true)))]) fun v => some (.ret v, s)) (
 bind1 (ofSlots (C.ti Q0) (List.take (C.ti Q0).size (List.map .val (C.ti Q0).zero))) fun v58_73 =>
 bindL (boxCells (C.ti Q0) v58_73) fun c_154 =>
 bindL (putAt (List.map .val (C.ti Q0).zero) 0 c_154) fun c2_154 =>
 bind1 (tupS [(ofSlots (C.ti Q0) (List.take (C.ti Q0).size c2_154)), (some (.val (.bool false)))]) fun v => some (.ret v, s)))) (
 bind1 (binS (C.ti Q3) .eql (.val a0) (.val (.int .i64 15))) fun v34_4 =>
 condS v34_4 (
 condS v34_4 (
 bindL (boxCells (C.ti Q1) (.val (.int .i64 2))) fun c_155 =>
 bindL (putAt (List.map .val (C.ti Q0).zero) 4 c_155) fun c2_155 =>
 bindL (boxCells (C.ti Q1) (.val (.int .i64 2))) fun c_156 =>
 bindL (putAt c2_155 5 c_156) fun c2_156 =>
 bind1 (ofSlots (C.ti Q0) (List.take (C.ti Q0).size c2_156)) fun v58_74 =>
 bindL (boxCells (C.ti Q0) v58_74) fun c_157 =>
 bindL (putAt c2_156 0 c_157) fun c2_157 =>
 bind1 (tupS [(ofSlots (C.ti Q0) (List.take (C.ti Q0).size c2_157)), (some (.val (.bool true)))]) fun v => some (.ret v, s)) (
 bind1 (binS (C.ti Q3) .eql (.val a0) (.val (.int .i64 20))) fun v37_18 =>
 condS v37_18 (
 bind1 (ofSlots (C.ti Q0) (List.take (C.ti Q0).size (List.map .val (C.ti Q0).zero))) fun v58_75 =>
 bindL (boxCells (C.ti Q0) v58_75) fun c_158 =>
 bindL (putAt (List.map .val (C.ti Q0).zero) 0 c_158) fun c2_158 =>
 bind1 (tupS [(ofSlots (C.ti Q0) (List.take (C.ti Q0).size c2_158)), (some (.val (.bool true)))]) fun v => some (.ret v, s)) (
 bind1 (ofSlots (C.ti Q0) (List.take (C.ti Q0).size (List.map .val (C.ti Q0).zero))) fun v58_76 =>
 bindL (boxCells (C.ti Q0) v58_76) fun c_159 =>
 bindL (putAt (List.map .val (C.ti Q0).zero) 0 c_159) fun c2_159 =>
 bind1 (tupS [(ofSlots (C.ti Q0) (List.take (C.ti Q0).size c2_159)), (some (.val (.bool false)))]) fun v => some (.ret v, s)))) (
 bind1 (binS (C.ti Q3) .eql (.val a0) (.val (.int .i64 18))) fun v35_4 =>
 condS v35_4 (
 bindL (boxCells (C.ti Q1) (.val (.int .i64 2))) fun c_160 =>
 bindL (putAt (List.map .val (C.ti Q0).zero) 4 c_160) fun c2_160 =>
 bindL (boxCells (C.ti Q1) (.val (.int .i64 2))) fun c_161 =>
 bindL (putAt c2_160 5 c_161) fun c2_161 =>
 bind1 (ofSlots (C.ti Q0) (List.take (C.ti Q0).size c2_161)) fun v58_77 =>
 bindL (boxCells (C.ti Q0) v58_77) fun c_162 =>
 bindL (putAt c2_161 0 c_162) fun c2_162 =>
 bind1 (tupS [(ofSlots (C.ti Q0) (List.take (C.ti Q0).size c2_162)), (some (.val (.bool true)))]) fun v => some (.ret v, s)) (
 bind1 (binS (C.ti Q3) .eql (.val a0) (.val (.int .i64 20))) fun v37_19 =>
 condS v37_19 (
 bind1 (ofSlots (C.ti Q0) (List.take (C.ti Q0).size (List.map .val (C.ti Q0).zero))) fun v58_78 =>
 bindL (boxCells (C.ti Q0) v58_78) fun c_163 =>
 bindL (putAt (List.map .val (C.ti Q0).zero) 0 c_163) fun c2_163 =>
 bind1 (tupS [(ofSlots (C.ti Q0) (List.take (C.ti Q0).size c2_163)), (some (.val (.bool true)))]) fun v => some (.ret v, s)) (
 bind1 (ofSlots (C.ti Q0) (List.take (C.ti Q0).size (List.map .val (C.ti Q0).zero))) fun v58_79 =>
 bindL (boxCells (C.ti Q0) v58_79) fun c_164 =>
 bindL (putAt (List.map .val (C.ti Q0).zero) 0 c_164) fun c2_164 =>
 bind1 (tupS [(ofSlots (C.ti Q0) (List.take (C.ti Q0).size c2_164)), (some (.val (.bool false)))]) fun v => some (.ret v, s))))))))) (
 bind1 (binS (C.ti Q3) .eql (.val a0) (.val (.int .i64 16))) fun v26_1 =>
 condS v26_1 (
 condS v26_1 (
 bindL (boxCells (C.ti Q1) (.val (.int .i64 1))) fun c_165 =>
 bindL (putAt (List.map .val (C.ti Q0).zero) 4 c_165) fun c2_165 =>
 bindL (boxCells (C.ti Q1) (.val (.int .i64 1))) fun c_166 =>
 bindL (putAt c2_165 5 c_166) fun c2_166 =>
 bind1 (ofSlots (C.ti Q0) (List.take (C.ti Q0).size c2_166)) fun v58_80 =>
 bindL (boxCells (C.ti Q0) v58_80) fun c_167 =>
 bindL (putAt c2_166 0 c_167) fun c2_167 =>
 bind1 (tupS [(ofSlots (C.ti Q0) (List.take (C.ti Q0).size c2_167)), (some (.val (.bool true)))]) fun v => some (.ret v, s)) (
 bind1 (binS (C.ti Q3) .eql (.val a0) (.val (.int .i64 13))) fun v30_5 =>
 condS v30_5 (
 bindL (boxCells (C.ti Ql) (.val (.bool true))) fun c_168 =>
 bindL (putAt (List.map .val (C.ti Q0).zero) 1 c_168) fun c2_168 =>
 bindL (boxCells (C.ti Q1) (.val (.int .i64 2))) fun c_169 =>
 bindL (putAt c2_168 4 c_169) fun c2_169 =>
 bindL (boxCells (C.ti Q1) (.val (.int .i64 2))) fun c_170 =>
 bindL (putAt c2_169 5 c_170) fun c2_170 =>
 bind1 (ofSlots (C.ti Q0) (List.take (C.ti Q0).size c2_170)) fun v58_81 =>
 bindL (boxCells (C.ti Q0) v58_81) fun c_171 =>
 bindL (putAt c2_170 0 c_171) fun c2_171 =>
 bind1 (tupS [(ofSlots (C.ti Q0) (List.take (C.ti Q0).size c2_171)), (some (.val (.bool true)))]) fun v => some (.ret v, s)) (
 bind1 (binS (C.ti Q3) .eql (.val a0) (.val (.int .i64 6))) fun v32_5 =>
 condS v32_5 (
 condS v32_5 (
 bindL (boxCells (C.ti Q1) (.val (.int .i64 2))) fun c_172 =>
 bindL (putAt (List.map .val (C.ti Q0).zero) 4 c_172) fun c2_172 =>
 bindL (boxCells (C.ti Q1) (.val (.int .i64 2))) fun c_173 =>
 bindL (putAt c2_172 5 c_173) fun c2_173 =>
 bind1 (ofSlots (C.ti Q0) (List.take (C.ti Q0).size c2_173)) fun v58_82 =>
 bindL (boxCells (C.ti Q0) v58_82) fun c_174 =>
 bindL (putAt c2_173 0 c_174) fun c2_174 =>
 bind1 (tupS [(ofSlots (C.ti Q0) (List.take (C.ti Q0).size c2_174)), (some (.val (.bool true)))]) fun v => some (.ret v, s)) (
 bind1 (binS (C.ti Q3) .eql (.val a0) (.val (.int .i64 20))) fun v37_20 =>
 condS v37_20 (
 bind1 (ofSlots (C.ti Q0) (List.take (C.ti Q0).size (List.map .val (C.ti Q0).zero))) fun v58_83 =>
 bindL (boxCells (C.ti Q0) v58_83) fun c_175 =>
 bindL (putAt (List.map .val (C.ti Q0).zero) 0 c_175) fun c2_175 =>
 bind1 (tupS [(ofSlots (C.ti Q0) (List.take (C.ti Q0).size c2_175)), (some (.val (.bool true)))]) fun v => some (.ret v, s)) (
 bind1 (ofSlots (C.ti Q0) (List.take (C.ti Q0).size (List.map .val (C.ti Q0).zero))) fun v58_84 =>
 bindL (boxCells (C.ti Q0) v58_84) fun c_176 =>
 bindL (putAt (List.map .val (C.ti Q0).zero) 0 c_176) fun c2_176 =>
 bind1 (tupS [(ofSlots (C.ti Q0) (List.take (C.ti Q0).size c2_176)), (some (.val (.bool false)))]) fun v => some (.ret v, s)))) (
 bind1 (binS (C.ti Q3) .eql (.val a0) (.val (.int .i64 14))) fun v33_5 =>
 condS v33_5 (
 condS v33_5 (
 bindL (boxCells (C.ti Q1) (.val (.int .i64 2))) fun c_177 =>
 bindL (putAt (List.map .val (C.ti Q0).zero) 4 c_177) fun c2_177 =>
 bindL (boxCells (C.ti Q1) (.val (.int .i64 2))) fun c_178 =>
 bindL (putAt c2_177 5 c_178) fun c2_178 =>
 bind1 (ofSlots (C.ti Q0) (List.take (C.ti Q0).size c2_178)) fun v58_85 =>
 bindL (boxCells (C.ti Q0) v58_85) fun c_179 =>
 bindL (putAt c2_178 0 c_179) fun c2_179 =>
 bind1 (tupS [(ofSlots (C.ti Q0) (List.take (C.ti Q0).size c2_179)), (some (.val (.bool true)))]) fun v => some (.ret v, s)) (
 bind1 (binS (C.ti Q3) .eql (.val a0) (.val (.int .i64 20))) fun v37_21 =>
 condS v37_21 (
 bind1 (ofSlots (C.ti Q0) (List.take (C.ti Q0).size (List.map .val (C.ti Q0).zero))) fun v58_86 =>
 bindL (boxCells (C.ti Q0) v58_86) fun c_180 =>
 bindL (putAt (List.map .val (C.ti Q0).zero) 0 c_180) fun c2_180 =>
 bind1 (tupS [(ofSlots (C.ti Q0) (List.take (C.ti Q0).size c2_180)), (some (.val (.bool true)))]) fun v => some (.ret v, s)) (
 bind1 (ofSlots (C.ti Q0) (List.take (C.ti Q0).size (List.map .val (C.ti Q0).zero))) fun v58_87 =>
 bindL (boxCells (C.ti Q0) v58_87) fun c_181 =>
 bindL (putAt (List.map .val (C.ti Q0).zero) 0 c_181) fun c2_181 =>
 bind1 (tupS [(ofSlots (C.ti Q0) (List.take (C.ti Q0).size c2_181)), (some (.val (.bool false)))]) fun v => some (.ret v, s)))) (
 bind1 (binS (C.ti Q3) .eql (.val a0) (.val (.int .i64 15))) fun v34_5 =>
 condS v34_5 (
 condS v34_5 (
 bindL (boxCells (C.ti Q1) (.val (.int .i64 2))) fun c_182 =>
 bindL (putAt (List.map .val (C.ti Q0).zero) 4 c_182) fun c2_182 =>
 bindL (boxCells (C.ti Q1) (.val (.int .i64 2))) fun c_183 =>
 bindL (putAt c2_182 5 c_183) fun c2_183 =>
 bind1 (ofSlots (C.ti Q0) (List.take (C.ti Q0).size c2_183)) fun v58_88 =>
 bindL (boxCells (C.ti Q0) v58_88) fun c_184 =>
 bindL (putAt c2_183 0 c_184) fun c2_184 =>
 bind1 (tupS [(ofSlots (C.ti Q0) (List.take (C.ti Q0).size c2_184)), (some (.val (.bool true)))]) fun v => some (.ret v, s)) (
 bind1 (binS (C.ti Q3) .eql (.val a0) (.val (.int .i64 20))) fun v37_22 =>
 condS v37_22 (
 bind1 (ofSlots (C.ti Q0) (List.take (C.ti Q0).size (List.map .val (C.ti Q0).zero))) fun v58_89 =>
 bindL (boxCells (C.ti Q0) v58_89) fun c_185 =>
 bindL (putAt (List.map .val (C.ti Q0).zero) 0 c_185) fun c2_185 =>
 bind1 (tupS [(ofSlots (C.ti Q0) (List.take (C.ti Q0).size c2_185)), (some (.val (.bool true)))]) fun v => some (.ret v, s)) (
 bind1 (ofSlots (C.ti Q0) (List.take (C.ti Q0).size (List.map .val (C.ti Q0).zero))) fun v58_90 =>
 bindL (boxCells (C.ti Q0) v58_90) fun c_186 =>
 bindL (putAt (List.map .val (C.ti Q0).zero) 0 c_186) fun c2_186 =>
 bind1 (tupS [(ofSlots (C.ti Q0) (List.take (C.ti Q0).size c2_186)), (some (.val (.bool false)))]) fun v => some (.ret v, s)))) (
 bind1 (binS (C.ti Q3) .eql (.val a0) (.val (.int .i64 18))) fun v35_5 =>
 condS v35_5 (
 bindL (boxCells (C.ti Q1) (.val (.int .i64 2))) fun c_187 =>
 bindL (putAt (List.map .val (C.ti Q0).zero) 4 c_187) fun c2_187 =>
 bindL (boxCells (C.ti Q1) (.val (.int .i64 2))) fun c_188 =>
 bindL (putAt c2_187 5 c_188) fun c2_188 =>
 bind1 (ofSlots (C.ti Q0) (List.take (C.ti Q0).size c2_188)) fun v58_91 =>
 bindL (boxCells (C.ti Q0) v58_91) fun c_189 =>
 bindL (putAt c2_188 0 c_189) fun c2_189 =>
 bind1 (tupS [(ofSlots (C.ti Q0) (List.take (C.ti Q0).size c2_189)), (some (.val (.bool true)))]) fun v => some (.ret v, s)) (
 bind1 (binS (C.ti Q3) .eql (.val a0) (.val (.int .i64 20))) fun v37_23 =>
 condS v37_23 (
 bind1 (ofSlots (C.ti Q0) (List.take (C.ti Q0).size (List.map .val (C.ti Q0).zero))) fun v58_92 =>
 bindL (boxCells (C.ti Q0) v58_92) fun c_190 =>
 bindL (putAt (List.map .val (C.ti Q0).zero) 0 c_190) fun c2_190 =>
 bind1 (tupS [(ofSlots (C.ti Q0) (List.take (C.ti Q0).size c2_190)), (some (.val (.bool true)))]) fun v => some (.ret v, s)) (
 bind1 (ofSlots (C.ti Q0) (List.take (C.ti Q0).size (List.map .val (C.ti Q0).zero))) fun v58_93 =>
 bindL (boxCells (C.ti Q0) v58_93) fun c_191 =>
 bindL (putAt (List.map .val (C.ti Q0).zero) 0 c_191) fun c2_191 =>
 bind1 (tupS [(ofSlots (C.ti Q0) (List.take (C.ti Q0).size c2_191)), (some (.val (.bool false)))]) fun v => some (.ret v, s))))))))) (
 bind1 (binS (C.ti Q3) .eql (.val a0) (.val (.int .i64 17))) fun v27_1 =>
 condS v27_1 (
 condS v27_1 (
 bindL (boxCells (C.ti Q1) (.val (.int .i64 1))) fun c_192 =>
 bindL (putAt (List.map .val (C.ti Q0).zero) 4 c_192) fun c2_192 =>
 bindL (boxCells (C.ti Q1) (.val (.int .i64 1))) fun c_193 =>
 bindL (putAt c2_192 5 c_193) fun c2_193 =>
 bind1 (ofSlots (C.ti Q0) (List.take (C.ti Q0).size c2_193)) fun v58_94 =>
 bindL (boxCells (C.ti Q0) v58_94) fun c_194 =>
 bindL (putAt c2_193 0 c_194) fun c2_194 =>
 bind1 (tupS [(ofSlots (C.ti Q0) (List.take (C.ti Q0).size c2_194)), (some (.val (.bool true)))]) fun v => some (.ret v, s)) (
 bind1 (binS (C.ti Q3) .eql (.val a0) (.val (.int .i64 13))) fun v30_6 =>
 condS v30_6 (
 bindL (boxCells (C.ti Ql) (.val (.bool true))) fun c_195 =>
 bindL (putAt (List.map .val (C.ti Q0).zero) 1 c_195) fun c2_195 =>
 bindL (boxCells (C.ti Q1) (.val (.int .i64 2))) fun c_196 =>
 bindL (putAt c2_195 4 c_196) fun c2_196 =>
 bindL (boxCells (C.ti Q1) (.val (.int .i64 2))) fun c_197 =>
 bindL (putAt c2_196 5 c_197) fun c2_197 =>
 bind1 (ofSlots (C.ti Q0) (List.take (C.ti Q0).size c2_197)) fun v58_95 =>
 bindL (boxCells (C.ti Q0) v58_95) fun c_198 =>
 bindL (putAt c2_197 0 c_198) fun c2_198 =>
 bind1 (tupS [(ofSlots (C.ti Q0) (List.take (C.ti Q0).size c2_198)), (some (.val (.bool true)))]) fun v => some (.ret v, s)) (
 bind1 (binS (C.ti Q3) .eql (.val a0) (.val (.int .i64 6))) fun v32_6 =>
 condS v32_6 (
 condS v32_6 (
 bindL (boxCells (C.ti Q1) (.val (.int .i64 2))) fun c_199 =>
 bindL (putAt (List.map .val (C.ti Q0).zero) 4 c_199) fun c2_199 =>
 bindL (boxCells (C.ti Q1) (.val (.int .i64 2))) fun c_200 =>
 bindL (putAt c2_199 5 c_200) fun c2_200 =>
 bind1 (ofSlots (C.ti Q0) (List.take (C.ti Q0).size c2_200)) fun v58_96 =>
 bindL (boxCells (C.ti Q0) v58_96) fun c_201 =>
 bindL (putAt c2_200 0 c_201) fun c2_201 =>
 bind1 (tupS [(ofSlots (C.ti Q0) (List.take (C.ti Q0).size c2_201)), (some (.val (.bool true)))]) fun v => some (.ret v, s)) (
 bind1 (binS (C.ti Q3) .eql (.val a0) (.val (.int .i64 20))) fun v37_24 =>
 condS v37_24 (
 bind1 (ofSlots (C.ti Q0) (List.take (C.ti Q0).size (List.map .val (C.ti Q0).zero))) fun v58_97 =>
 bindL (boxCells (C.ti Q0) v58_97) fun c_202 =>
 bindL (putAt (List.map .val (C.ti Q0).zero) 0 c_202) fun c2_202 =>
 bind1 (tupS [(ofSlots (C.ti Q0) (List.take (C.ti Q0).size c2_202)), (some (.val (.bool true)))]) fun v => some (.ret v, s)) (
 bind1 (ofSlots (C.ti Q0) (List.take (C.ti Q0).size (List.map .val (C.ti Q0).zero))) fun v58_98 =>
 bindL (boxCells (C.ti Q0) v58_98) fun c_203 =>
 bindL (putAt (List.map .val (C.ti Q0).zero) 0 c_203) fun c2_203 =>
 bind1 (tupS [(ofSlots (C.ti Q0) (List.take (C.ti Q0).size c2_203)), (some (.val (.bool false)))]) fun v => some (.ret v, s)))) (
 bind1 (binS (C.ti Q3) .eql (.val a0) (.val (.int .i64 14))) fun v33_6 =>
 condS v33_6 (
 condS v33_6 (
 bindL (boxCells (C.ti Q1) (.val (.int .i64 2))) fun c_204 =>
 bindL (putAt (List.map .val (C.ti Q0).zero) 4 c_204) fun c2_204 =>
 bindL (boxCells (C.ti Q1) (.val (.int .i64 2))) fun c_205 =>
 bindL (putAt c2_204 5 c_205) fun c2_205 =>
 bind1 (ofSlots (C.ti Q0) (List.take (C.ti Q0).size c2_205)) fun v58_99 =>
 bindL (boxCells (C.ti Q0) v58_99) fun c_206 =>
 bindL (putAt c2_205 0 c_206) fun c2_206 =>
 bind1 (tupS [(ofSlots (C.ti Q0) (List.take (C.ti Q0).size c2_206)), (some (.val (.bool true)))]) fun v => some (.ret v, s)) (
 bind1 (binS (C.ti Q3) .eql (.val a0) (.val (.int .i64 20))) fun v37_25 =>
 condS v37_25 (
 bind1 (ofSlots (C.ti Q0) (List.take (C.ti Q0).size (List.map .val (C.ti Q0).zero))) fun v58_100 =>
 bindL (boxCells (C.ti Q0) v58_100) fun c_207 =>
 bindL (putAt (List.map .val (C.ti Q0).zero) 0 c_207) fun c2_207 =>
 bind1 (tupS [(ofSlots (C.ti Q0) (List.take (C.ti Q0).size c2_207)), (some (.val (.bool true)))]) fun v => some (.ret v, s)) (
 bind1 (ofSlots (C.ti Q0) (List.take (C.ti Q0).size (List.map .val (C.ti Q0).zero))) fun v58_101 =>
 bindL (boxCells (C.ti Q0) v58_101) fun c_208 =>
 bindL (putAt (List.map .val (C.ti Q0).zero) 0 c_208) fun c2_208 =>
 bind1 (tupS [(ofSlots (C.ti Q0) (List.take (C.ti Q0).size c2_208)), (some (.val (.bool false)))]) fun v => some (.ret v, s)))) (
 bind1 (binS (C.ti Q3) .eql (.val a0) (.val (.int .i64 15))) fun v34_6 =>
 condS v34_6 (
 condS v34_6 (
 bindL (boxCells (C.ti Q1) (.val (.int .i64 2))) fun c_209 =>
 bindL (putAt (List.map .val (C.ti Q0).zero) 4 c_209) fun c2_209 =>
 bindL (boxCells (C.ti Q1) (.val (.int .i64 2))) fun c_210 =>
 bindL (putAt c2_209 5 c_210) fun c2_210 =>
 bind1 (ofSlots (C.ti Q0) (List.take (C.ti Q0).size c2_210)) fun v58_102 =>
 bindL (boxCells (C.ti Q0) v58_102) fun c_211 =>
 bindL (putAt c2_210 0 c_211) fun c2_211 =>
 bind1 (tupS [(ofSlots (C.ti Q0) (List.take (C.ti Q0).size c2_211)), (some (.val (.bool true)))]) fun v => some (.ret v, s)) (
 bind1 (binS (C.ti Q3) .eql (.val a0) (.val (.int .i64 20))) fun v37_26 =>
 condS v37_26 (
 bind1 (ofSlots (C.ti Q0) (List.take (C.ti Q0).size (List.map .val (C.ti Q0).zero))) fun v58_103 =>
 bindL (boxCells (C.ti Q0) v58_103) fun c_212 =>
 bindL (putAt (List.map .val (C.ti Q0).zero) 0 c_212) fun c2_212 =>
 bind1 (tupS [(ofSlots (C.ti Q0) (List.take (C.ti Q0).size c2_212)), (some (.val (.bool true)))]) fun v => some (.ret v, s)) (
 bind1 (ofSlots (C.ti Q0) (List.take (C.ti Q0).size (List.map .val (C.ti Q0).zero))) fun v58_104 =>
 bindL (boxCells (C.ti Q0) v58_104) fun c_213 =>
 bindL (putAt (List.map .val (C.ti Q0).zero) 0 c_213) fun c2_213 =>
 bind1 (tupS [(ofSlots (C.ti Q0) (List.take (C.ti Q0).size c2_213)), (some (.val (.bool false)))]) fun v => some (.ret v, s)))) (
 bind1 (binS (C.ti Q3) .eql (.val a0) (.val (.int .i64 18))) fun v35_6 =>
 condS v35_6 (
 bindL (boxCells (C.ti Q1) (.val (.int .i64 2))) fun c_214 =>
 bindL (putAt (List.map .val (C.ti Q0).zero) 4 c_214) fun c2_214 =>
 bindL (boxCells (C.ti Q1) (.val (.int .i64 2))) fun c_215 =>
 bindL (putAt c2_214 5 c_215) fun c2_215 =>
 bind1 (ofSlots (C.ti Q0) (List.take (C.ti Q0).size c2_215)) fun v58_105 =>
 bindL (boxCells (C.ti Q0) v58_105) fun c_216 =>
 bindL (putAt c2_215 0 c_216) fun c2_216 =>
 bind1 (tupS [(ofSlots (C.ti Q0) (List.take (C.ti Q0).size c2_216)), (some (.val (.bool true)))]) fun v => some (.ret v, s)) (
 bind1 (binS (C.ti Q3) .eql (.val a0) (.val (.int .i64 20))) fun v37_27 =>
 condS v37_27 (
 bind1 (ofSlots (C.ti Q0) (List.take (C.ti Q0).size (List.map .val (C.ti Q0).zero))) fun v58_106 =>
 bindL (boxCells (C.ti Q0) v58_106) fun c_217 =>
 bindL (putAt (List.map .val (C.ti Q0).zero) 0 c_217) fun c2_217 =>
 bind1 (tupS [(ofSlots (C.ti Q0) (List.take (C.ti Q0).size c2_217)), (some (.val (.bool true)))]) fun v => some (.ret v, s)) (
 bind1 (ofSlots (C.ti Q0) (List.take (C.ti Q0).size (List.map .val (C.ti Q0).zero))) fun v58_107 =>
 bindL (boxCells (C.ti Q0) v58_107) fun c_218 =>
 bindL (putAt (List.map .val (C.ti Q0).zero) 0 c_218) fun c2_218 =>
 bind1 (tupS [(ofSlots (C.ti Q0) (List.take (C.ti Q0).size c2_218)), (some (.val (.bool false)))]) fun v => some (.ret v, s))))))))) (
 bind1 (binS (C.ti Q3) .eql (.val a0) (.val (.int .i64 19))) fun v28_1 =>
 condS v28_1 (
 bindL (boxCells (C.ti Q1) (.val (.int .i64 1))) fun c_219 =>
 bindL (putAt (List.map .val (C.ti Q0).zero) 4 c_219) fun c2_219 =>
 bindL (boxCells (C.ti Q1) (.val (.int .i64 1))) fun c_220 =>
 bindL (putAt c2_219 5 c_220) fun c2_220 =>
 bind1 (ofSlots (C.ti Q0) (List.take (C.ti Q0).size c2_220)) fun v58_108 =>
 bindL (boxCells (C.ti Q0) v58_108) fun c_221 =>
 bindL (putAt c2_220 0 c_221) fun c2_221 =>
 bind1 (tupS [(ofSlots (C.ti Q0) (List.take (C.ti Q0).size c2_221)), (some (.val (.bool true)))]) fun v => some (.ret v, s)) (
 bind1 (binS (C.ti Q3) .eql (.val a0) (.val (.int .i64 13))) fun v30_7 =>
 condS v30_7 (
 bindL (boxCells (C.ti Ql) (.val (.bool true))) fun c_222 =>
 bindL (putAt (List.map .val (C.ti Q0).zero) 1 c_222) fun c2_222 =>
 bindL (boxCells (C.ti Q1) (.val (.int .i64 2))) fun c_223 =>
 bindL (putAt c2_222 4 c_223) fun c2_223 =>
 bindL (boxCells (C.ti Q1) (.val (.int .i64 2))) fun c_224 =>
 bindL (putAt c2_223 5 c_224) fun c2_224 =>
 bind1 (ofSlots (C.ti Q0) (List.take (C.ti Q0).size c2_224)) fun v58_109 =>
 bindL (boxCells (C.ti Q0) v58_109) fun c_225 =>
 bindL (putAt c2_224 0 c_225) fun c2_225 =>
 bind1 (tupS [(ofSlots (C.ti Q0) (List.take (C.ti Q0).size c2_225)), (some (.val (.bool true)))]) fun v => some (.ret v, s)) (
 bind1 (binS (C.ti Q3) .eql (.val a0) (.val (.int .i64 6))) fun v32_7 =>
 condS v32_7 (
 condS v32_7 (
 bindL (boxCells (C.ti Q1) (.val (.int .i64 2))) fun c_226 =>
 bindL (putAt (List.map .val (C.ti Q0).zero) 4 c_226) fun c2_226 =>
 bindL (boxCells (C.ti Q1) (.val (.int .i64 2))) fun c_227 =>
 bindL (putAt c2_226 5 c_227) fun c2_227 =>
 bind1 (ofSlots (C.ti Q0) (List.take (C.ti Q0).size c2_227)) fun v58_110 =>
 bindL (boxCells (C.ti Q0) v58_110) fun c_228 =>
 bindL (putAt c2_227 0 c_228) fun c2_228 =>
 bind1 (tupS [(ofSlots (C.ti Q0) (List.take (C.ti Q0).size c2_228)), (some (.val (.bool true)))]) fun v => some (.ret v, s)) (
 bind1 (binS (C.ti Q3) .eql (.val a0) (.val (.int .i64 20))) fun v37_28 =>
 condS v37_28 (
 bind1 (ofSlots (C.ti Q0) (List.take (C.ti Q0).size (List.map .val (C.ti Q0).zero))) fun v58_111 =>
 bindL (boxCells (C.ti Q0) v58_111) fun c_229 =>
 bindL (putAt (List.map .val (C.ti Q0).zero) 0 c_229) fun c2_229 =>
 bind1 (tupS [(ofSlots (C.ti Q0) (List.take (C.ti Q0).size c2_229)), (some (.val (.bool true)))]) fun v => some (.ret v, s)) (
 bind1 (ofSlots (C.ti Q0) (List.take (C.ti Q0).size (List.map .val (C.ti Q0).zero))) fun v58_112 =>
 bindL (boxCells (C.ti Q0) v58_112) fun c_230 =>
 bindL (putAt (List.map .val (C.ti Q0).zero) 0 c_230) fun c2_230 =>
 bind1 (tupS [(ofSlots (C.ti Q0) (List.take (C.ti Q0).size c2_230)), (some (.val (.bool false)))]) fun v => some (.ret v, s)))) (
 bind1 (binS (C.ti Q3) .eql (.val a0) (.val (.int .i64 14))) fun v33_7 =>
 condS v33_7 (
 condS v33_7 (
 bindL (boxCells (C.ti Q1) (.val (.int .i64 2))) fun c_231 =>
 bindL (putAt (List.map .val (C.ti Q0).zero) 4 c_231) fun c2_231 =>
 bindL (boxCells (C.ti Q1) (.val (.int .i64 2))) fun c_232 =>
 bindL (putAt c2_231 5 c_232) fun c2_232 =>
 bind1 (ofSlots (C.ti Q0) (List.take (C.ti Q0).size c2_232)) fun v58_113 =>
 bindL (boxCells (C.ti Q0) v58_113) fun c_233 =>
 bindL (putAt c2_232 0 c_233) fun c2_233 =>
 bind1 (tupS [(ofSlots (C.ti Q0) (List.take (C.ti Q0).size c2_233)), (some (.val (.bool true)))]) fun v => some (.ret v, s)) (
 bind1 (binS (C.ti Q3) .eql (.val a0) (.val (.int .i64 20))) fun v37_29 =>
 condS v37_29 (
 bind1 (ofSlots (C.ti Q0) (List.take (C.ti Q0).size (List.map .val (C.ti Q0).zero))) fun v58_114 =>
 bindL (boxCells (C.ti Q0) v58_114) fun c_234 =>
 bindL (putAt (List.map .val (C.ti Q0).zero) 0 c_234) fun c2_234 =>
 bind1 (tupS [(ofSlots (C.ti Q0) (List.take (C.ti Q0).size c2_234)), (some (.val (.bool true)))]) fun v => some (.ret v, s)) (
 bind1 (ofSlots (C.ti Q0) (List.take (C.ti Q0).size (List.map .val (C.ti Q0).zero))) fun v58_115 =>
 bindL (boxCells (C.ti Q0) v58_115) fun c_235 =>
 bindL (putAt (List.map .val (C.ti Q0).zero) 0 c_235) fun c2_235 =>
 bind1 (tupS [(ofSlots (C.ti Q0) (List.take (C.ti Q0).size c2_235)), (some (.val (.bool false)))]) fun v => some (.ret v, s)))) (
 bind1 (binS (C.ti Q3) .eql (.val a0) (.val (.int .i64 15))) fun v34_7 =>
 condS v34_7 (
 condS v34_7 (
 bindL (boxCells (C.ti Q1) (.val (.int .i64 2))) fun c_236 =>
 bindL (putAt (List.map .val (C.ti Q0).zero) 4 c_236) fun c2_236 =>
 bindL (boxCells (C.ti Q1) (.val (.int .i64 2))) fun c_237 =>
 bindL (putAt c2_236 5 c_237) fun c2_237 =>
 bind1 (ofSlots (C.ti Q0) (List.take (C.ti Q0).size c2_237)) fun v58_116 =>
 bindL (boxCells (C.ti Q0) v58_116) fun c_238 =>
 bindL (putAt c2_237 0 c_238) fun c2_238 =>
 bind1 (tupS [(ofSlots (C.ti Q0) (List.take (C.ti Q0).size c2_238)), (some (.val (.bool true)))]) fun v => some (.ret v, s)) (
 bind1 (binS (C.ti Q3) .eql (.val a0) (.val (.int .i64 20))) fun v37_30 =>
 condS v37_30 (
 bind1 (ofSlots (C.ti Q0) (List.take (C.ti Q0).size (List.map .val (C.ti Q0).zero))) fun v58_117 =>
 bindL (boxCells (C.ti Q0) v58_117) fun c_239 =>
 bindL (putAt (List.map .val (C.ti Q0).zero) 0 c_239) fun c2_239 =>
 bind1 (tupS [(ofSlots (C.ti Q0) (List.take (C.ti Q0).size c2_239)), (some (.val (.bool true)))]) fun v => some (.ret v, s)) (
 bind1 (ofSlots (C.ti Q0) (List.take (C.ti Q0).size (List.map .val (C.ti Q0).zero))) fun v58_118 =>
 bindL (boxCells (C.ti Q0) v58_118) fun c_240 =>
 bindL (putAt (List.map .val (C.ti Q0).zero) 0 c_240) fun c2_240 =>
 bind1 (tupS [(ofSlots (C.ti Q0) (List.take (C.ti Q0).size c2_240)), (some (.val (.bool false)))]) fun v => some (.ret v, s)))) (
 bind1 (binS (C.ti Q3) .eql (.val a0) (.val (.int .i64 18))) fun v35_7 =>
 condS v35_7 (
 bindL (boxCells (C.ti Q1) (.val (.int .i64 2))) fun c_241 =>
 bindL (putAt (List.map .val (C.ti Q0).zero) 4 c_241) fun c2_241 =>
 bindL (boxCells (C.ti Q1) (.val (.int .i64 2))) fun c_242 =>
 bindL (putAt c2_241 5 c_242) fun c2_242 =>
 bind1 (ofSlots (C.ti Q0) (List.take (C.ti Q0).size c2_242)) fun v58_119 =>
 bindL (boxCells (C.ti Q0) v58_119) fun c_243 =>
 bindL (putAt c2_242 0 c_243) fun c2_243 =>
 bind1 (tupS [(ofSlots (C.ti Q0) (List.take (C.ti Q0).size c2_243)), (some (.val (.bool true)))]) fun v => some (.ret v, s)) (
 bind1 (binS (C.ti Q3) .eql (.val a0) (.val (.int .i64 20))) fun v37_31 =>
 condS v37_31 (
 bind1 (ofSlots (C.ti Q0) (List.take (C.ti Q0).size (List.map .val (C.ti Q0).zero))) fun v58_120 =>
 bindL (boxCells (C.ti Q0) v58_120) fun c_244 =>
 bindL (putAt (List.map .val (C.ti Q0).zero) 0 c_244) fun c2_244 =>
 bind1 (tupS [(ofSlots (C.ti Q0) (List.take (C.ti Q0).size c2_244)), (some (.val (.bool true)))]) fun v => some (.ret v, s)) (
 bind1 (ofSlots (C.ti Q0) (List.take (C.ti Q0).size (List.map .val (C.ti Q0).zero))) fun v58_121 =>
 bindL (boxCells (C.ti Q0) v58_121) fun c_245 =>
 bindL (putAt (List.map .val (C.ti Q0).zero) 0 c_245) fun c2_245 =>
 bind1 (tupS [(ofSlots (C.ti Q0) (List.take (C.ti Q0).size c2_245)), (some (.val (.bool false)))]) fun v => some (.ret v, s))))))))))))))))))))) := (Q4 _ _ _).trans (by kernel_rfl)
theorem Q8V (a0 : AV) (s : St) : cw (.f Q0N) [a0] s =
 ca Q2v [(.val a0)] s fun v4 s_1 =>
 iF v4 fun w =>
 iF v4 fun w_1 =>
 gB w_1 Q2 .eql (gdV w (.val a0)) (sv [116, 114, 117, 101]) fun v7 =>
 pk v4 (bv true) v7 fun v8 =>
 iF v8 fun w_2 =>
 iF v8 fun w_3 =>
 gB w_3 Q2 .eql (gdV w_2 (.val a0)) (sv [102, 97, 108, 115, 101]) fun v11 =>
 pk v8 (bv true) v11 fun v12 =>
 iF v12 fun w_4 =>
 iF v12 fun w_5 =>
 gB w_5 Q2 .eql (gdV w_4 (.val a0)) (sv [40, 41]) fun v15 =>
 pk v12 (bv true) v15 fun v16 =>
 some (.ret v16, s_1) := (Q4 _ _ _).trans (by kernel_rfl)
theorem Qei (a0 : AV) (s : St) : cw (.f Q3B) [a0] s =
 bn Q1 .geq (.val a0) (iv (-1073741824)) fun v4 =>
 iT v4 fun w =>
 iT v4 fun w_1 =>
 gB w_1 Q1 .leq (gdV w (.val a0)) (iv 1073741823) fun v7 =>
 pk v4 v7 (bv false) fun v8 =>
 some (.ret v8, s) := (Q4 _ _ _).trans (by kernel_rfl)
noncomputable def Q38 : Slot → St → Res := fun x3 s => pwD Q3s [.seqR, .seqR, .seqR] Tryz.f143 [(3, .s x3)] s
theorem QaU : ∀ x3 s_1, Q38 x3 s_1 =
 bn Q1 .geq x3 (iv 1073741824) fun v11 =>
 condS v11 (
 bn Q1 .sub x3 (iv 2147483648) fun v13 =>
 some (.ret v13, s_1)) (
 some (.ret x3, s_1)) := by intros; unfold Q38; exact (Zx _).trans (by kernel_rfl)
theorem Qe1 (a0 : AV) (s : St) : cw (.f Q3s) [a0] s =
 bn Q1 .rem (.val a0) (iv 2147483648) fun v5 =>
 bn Q1 .lss v5 (iv 0) fun v7 =>
 condS v7 (
 bn Q1 .add v5 (iv 2147483648) fun v9 =>
 Q38 v9 s) (
 Q38 v5 s) := (Q4 _ _ _).trans (by kernel_rfl)
theorem QbY (a0 : AV) (a1 : AV) (s : St) : cw (.f Q4k) [a0, a1] s =
 condS (.val a1) (
 bn QH .geq (.val a0) (.val (.int .u8 65)) fun v7 =>
 iT v7 fun w =>
 iT v7 fun w_1 =>
 gB w_1 QH .leq (gdV w (.val a0)) (.val (.int .u8 90)) fun v10 =>
 pk v7 v10 (bv false) fun v11 =>
 some (.ret v11, s)) (
 bn QH .geq (.val a0) (.val (.int .u8 97)) fun v13 =>
 iT v13 fun w_2 =>
 iT v13 fun w_3 =>
 gB w_3 QH .leq (gdV w_2 (.val a0)) (.val (.int .u8 122)) fun v16 =>
 pk v13 v16 (bv false) fun v17 =>
 iF v17 fun w_4 =>
 iF v17 fun w_5 =>
 gB w_5 QH .eql (gdV w_4 (.val a0)) (.val (.int .u8 95)) fun v20 =>
 pk v17 (bv true) v20 fun v21 =>
 some (.ret v21, s)) := (Q4 _ _ _).trans (by kernel_rfl)
theorem Qe7 (a0 : AV) (s : St) : cw (.f Q5N) [a0] s =
 bn QH .geq (.val a0) (.val (.int .u8 97)) fun v4 =>
 iT v4 fun w =>
 iT v4 fun w_1 =>
 gB w_1 QH .leq (gdV w (.val a0)) (.val (.int .u8 122)) fun v7 =>
 pk v4 v7 (bv false) fun v8 =>
 iF v8 fun w_2 =>
 iF v8 fun w_3 =>
 gB w_3 QH .geq (gdV w_2 (.val a0)) (.val (.int .u8 65)) fun v11 =>
 iF v8 fun w_4 =>
 bindB (Slot.isB (gdV w_4 v11) true) fun w_5 =>
 bindB (Slot.isB (gdV w_4 v11) true) fun w_6 =>
 gB w_6 QH .leq (gdV w_5 (.val a0)) (.val (.int .u8 90)) fun v14 =>
 iF v8 fun w_7 =>
 bind1 (gd w_7 (pickS (gdV w_4 v11) v14 (bv false))) fun v15 =>
 pk v8 (bv true) v15 fun v16 =>
 iF v16 fun w_8 =>
 iF v16 fun w_9 =>
 gB w_9 QH .geq (gdV w_8 (.val a0)) (.val (.int .u8 48)) fun v19 =>
 iF v16 fun w_10 =>
 bindB (Slot.isB (gdV w_10 v19) true) fun w_11 =>
 bindB (Slot.isB (gdV w_10 v19) true) fun w_12 =>
 gB w_12 QH .leq (gdV w_11 (.val a0)) (.val (.int .u8 57)) fun v22 =>
 iF v16 fun w_13 =>
 bind1 (gd w_13 (pickS (gdV w_10 v19) v22 (bv false))) fun v23 =>
 pk v16 (bv true) v23 fun v24 =>
 iF v24 fun w_14 =>
 iF v24 fun w_15 =>
 gB w_15 QH .eql (gdV w_14 (.val a0)) (.val (.int .u8 95)) fun v27 =>
 pk v24 (bv true) v27 fun v28 =>
 iF v28 fun w_16 =>
 iF v28 fun w_17 =>
 gB w_17 QH .eql (gdV w_16 (.val a0)) (.val (.int .u8 39)) fun v31 =>
 pk v28 (bv true) v31 fun v32 =>
 some (.ret v32, s) := (Q4 _ _ _).trans (by kernel_rfl)
theorem Qeh (a0 : AV) (s : St) : cw (.f Q3A) [a0] s =
 bn QH .geq (.val a0) (.val (.int .u8 65)) fun v4 =>
 iT v4 fun w =>
 iT v4 fun w_1 =>
 gB w_1 QH .leq (gdV w (.val a0)) (.val (.int .u8 90)) fun v7 =>
 pk v4 v7 (bv false) fun v8 =>
 some (.ret v8, s) := (Q4 _ _ _).trans (by kernel_rfl)
end Go.Proofs.YtinphnakebeloaaGreat