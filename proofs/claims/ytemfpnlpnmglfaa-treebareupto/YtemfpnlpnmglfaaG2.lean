/- A text of the proof: made by program. -/
import Derived.Test.YtemfpnlpnmglfaaG1
set_option linter.unusedVariables false
set_option linter.unusedSimpArgs false
namespace Go.Proofs.Ytemfpnlpnmglfaa
open Go Go.Am
/- 3 camlet/camletlaw05.TreeRight -/
theorem law05_TreeRight_eq (a0 : AV) (s : St) : cw (.f F_law05_TreeRight) [a0] s =
 back (cal cw true (tgtV (.val (.fn F_tree_Right [])) [(.val a0)]) s) fun v4 s_1 =>
 back (cal cw true (tgtV (.val (.fn F_ref05_Right [])) [(.val a0)]) s_1) fun v6 s_2 =>
 bind1 (binS (C.ti T_Bad) .eql v4 v6) fun v7 =>
 bindB (Slot.isB v7 true) fun w =>
 back (cal cw w (tgtV (.val (.fn F_law05_knows [])) []) s_2) fun v9 s_3 =>
 bind1 (pickS v7 v9 (.val (.bool false))) fun v10 =>
 some (.ret v10, s_3) := (callw_f _ _ _).trans (by kernel_rfl)

/- 4 camlet/camletlaw05.TreeAlone -/
theorem law05_TreeAlone_eq (a0 : AV) (a1 : AV) (s : St) : cw (.f F_law05_TreeAlone) [a0, a1] s =
 bindL (boxCells (C.ti T_Exp) (.val a0)) fun c2 =>
 bindL (boxCells (C.ti T_Pat) (.val a1)) fun c3 =>
 bind1 (ofSlots (C.ti T_Exp) (List.take (C.ti T_Exp).size c2)) fun v5 =>
 back (noPan (cal cw true (tgtV (.val (.fn F_tree_RightExp [])) [v5]) s)) fun v6 s_1 =>
 bind1 (ofSlots (C.ti T_Exp) (List.take (C.ti T_Exp).size c2)) fun v7 =>
 back (noPan (cal cw true (tgtV (.val (.fn F_ref05_RightExp [])) [v7]) s_1)) fun v8 s_2 =>
 bind1 (binS (C.ti T_Bad) .eql v6 v8) fun v9 =>
 bindB (Slot.isB v9 true) fun w =>
 bind1 (gd w (ofSlots (C.ti T_Pat) (List.take (C.ti T_Pat).size c3))) fun v11 =>
 bindB (Slot.isB v9 true) fun w_1 =>
 back (noPan (cal cw w_1 (tgtV (.val (.fn F_tree_RightPat [])) [v11]) s_2)) fun v12 s_3 =>
 bindB (Slot.isB v9 true) fun w_2 =>
 bind1 (gd w_2 (ofSlots (C.ti T_Pat) (List.take (C.ti T_Pat).size c3))) fun v13 =>
 bindB (Slot.isB v9 true) fun w_3 =>
 back (noPan (cal cw w_3 (tgtV (.val (.fn F_ref05_RightPat [])) [v13]) s_3)) fun v14 s_4 =>
 bindB (Slot.isB v9 true) fun w_4 =>
 bind1 (gd w_4 (binS (C.ti T_Bad) .eql v12 v14)) fun v15 =>
 bind1 (pickS v9 v15 (.val (.bool false))) fun v16 =>
 bindB (Slot.isB v16 true) fun w_5 =>
 bind1 (gd w_5 (ofSlots (C.ti T_Pat) (List.take (C.ti T_Pat).size c3))) fun v18 =>
 bindB (Slot.isB v16 true) fun w_6 =>
 back (noPan (cal cw w_6 (tgtV (.val (.fn F_tree_Vars [])) [v18]) s_4)) fun v19 s_5 =>
 bindB (Slot.isB v16 true) fun w_7 =>
 bind1 (gd w_7 (ofSlots (C.ti T_Pat) (List.take (C.ti T_Pat).size c3))) fun v20 =>
 bindB (Slot.isB v16 true) fun w_8 =>
 back (noPan (cal cw w_8 (tgtV (.val (.fn F_ref05_Vars [])) [v20]) s_5)) fun v21 s_6 =>
 bindB (Slot.isB v16 true) fun w_9 =>
 back (noPan (cal cw w_9 (tgtV (.val (.fn F_ref05_SameTexts [])) [v19, v21]) s_6)) fun v22 s_7 =>
 bind1 (pickS v16 v22 (.val (.bool false))) fun v23 =>
 bindB (Slot.isB v23 true) fun w_10 =>
 back (noPan (cal cw w_10 (tgtV (.val (.fn F_law05_knows [])) []) s_7)) fun v25 s_8 =>
 bind1 (pickS v23 v25 (.val (.bool false))) fun v26 =>
 some (.ret v26, s_8) := (callw_f _ _ _).trans (by kernel_rfl)

/- 5 camlet/camletlaw05.TreeWithin -/
noncomputable def law05_TreeWithin_l0 : Slot → Slot → St → Res := fun x3 x4 s => loopR C false F_law05_TreeWithin [.seqR, .seqR, .seqR, .seqL, .seqR, .block] (body Go.Proofs.Try.f5) [(3, .s x3), (4, .s x4)] s (ctxR C false F_law05_TreeWithin [.seqR, .seqR, .seqR, .seqL, .seqR, .block] (body Go.Proofs.Try.f5) (outK C (Go.Proofs.Try.f5).results.toList))
theorem law05_TreeWithin_l0_eq (x3 : Slot) (x4 : Slot) (s_4 : St) : law05_TreeWithin_l0 x3 x4 s_4 =
 bind1 (lenS (C.ti T_S_ref05_Node) x3) fun v14 =>
 bind1 (binS (C.ti T_int) .lss x4 v14) fun v15 =>
 condS v15 (
 bind1 (ixS (C.ti T_ref05_Node).size x3 x4) fun v20 =>
 bind1 (faV 0 v20) fun v21 =>
 bind1 (ldV (C.ti T_int) false s_4 v21) fun v22 =>
 bind1 (binS (C.ti T_int) .eql v22 (.val (.int .i64 2))) fun v23 =>
 bindB (Slot.isB v23 true) fun w =>
 bindB (Slot.isB v23 true) fun w_1 =>
 bindB (Slot.isB v23 true) fun w_2 =>
 bind1 (gd w_2 (ixS (C.ti T_ref05_Node).size (gdV w x3) (gdV w_1 x4))) fun v27 =>
 bindB (Slot.isB v23 true) fun w_3 =>
 bind1 (gd w_3 (faV 10 v27)) fun v28 =>
 bindB (Slot.isB v23 true) fun w_4 =>
 bind1 (gd w_4 (ldV (C.ti T_Exp) false s_4 v28)) fun v29 =>
 bindB (Slot.isB v23 true) fun w_5 =>
 back (cal cw w_5 (tgtV (.val (.fn F_tree_RightExp [])) [v29]) s_4) fun v30 s_5 =>
 bindB (Slot.isB v23 true) fun w_6 =>
 bind1 (gd w_6 (buildS (C.ti T_Bad).zero [])) fun v31 =>
 bindB (Slot.isB v23 true) fun w_7 =>
 bind1 (gd w_7 (binS (C.ti T_Bad) .neq v30 v31)) fun v32 =>
 bind1 (pickS v23 v32 (.val (.bool false))) fun v33 =>
 bindB (Slot.isB v33 false) fun w_8 =>
 bindB (Slot.isB v33 false) fun w_9 =>
 bindB (Slot.isB v33 false) fun w_10 =>
 bind1 (gd w_10 (ixS (C.ti T_ref05_Node).size (gdV w_8 x3) (gdV w_9 x4))) fun v37 =>
 bindB (Slot.isB v33 false) fun w_11 =>
 bind1 (gd w_11 (faV 0 v37)) fun v38 =>
 bindB (Slot.isB v33 false) fun w_12 =>
 bind1 (gd w_12 (ldV (C.ti T_int) false s_5 v38)) fun v39 =>
 bindB (Slot.isB v33 false) fun w_13 =>
 bind1 (gd w_13 (binS (C.ti T_int) .eql v39 (.val (.int .i64 3)))) fun v40 =>
 bindB (Slot.isB v33 false) fun w_14 =>
 bindB (Slot.isB (gdV w_14 v40) true) fun w_15 =>
 bindB (Slot.isB (gdV w_14 v40) true) fun w_16 =>
 bindB (Slot.isB (gdV w_14 v40) true) fun w_17 =>
 bind1 (gd w_17 (ixS (C.ti T_ref05_Node).size (gdV w_15 x3) (gdV w_16 x4))) fun v44 =>
 bindB (Slot.isB (gdV w_14 v40) true) fun w_18 =>
 bind1 (gd w_18 (faV 17 v44)) fun v45 =>
 bindB (Slot.isB (gdV w_14 v40) true) fun w_19 =>
 bind1 (gd w_19 (ldV (C.ti T_Pat) false s_5 v45)) fun v46 =>
 bindB (Slot.isB (gdV w_14 v40) true) fun w_20 =>
 back (cal cw w_20 (tgtV (.val (.fn F_tree_RightPat [])) [v46]) s_5) fun v47 s_6 =>
 bindB (Slot.isB (gdV w_14 v40) true) fun w_21 =>
 bind1 (gd w_21 (buildS (C.ti T_Bad).zero [])) fun v48 =>
 bindB (Slot.isB (gdV w_14 v40) true) fun w_22 =>
 bind1 (gd w_22 (binS (C.ti T_Bad) .neq v47 v48)) fun v49 =>
 bindB (Slot.isB v33 false) fun w_23 =>
 bind1 (gd w_23 (pickS (gdV w_14 v40) v49 (.val (.bool false)))) fun v50 =>
 bind1 (pickS v33 (.val (.bool true)) v50) fun v51 =>
 condS v51 (
 some (.ret (.val (.bool false)), s_6)) (
 bind1 (binS (C.ti T_int) .add x4 (.val (.int .i64 1))) fun v17 =>
 law05_TreeWithin_l0 (x3) (v17) s_6)) (
 back (cal cw true (tgtV (.val (.fn F_law05_knows [])) []) s_4) fun v52 s_7 =>
 some (.ret v52, s_7)) := by unfold law05_TreeWithin_l0; exact (loopR_eq _ _ _ _ _ _).trans (by kernel_rfl)
theorem law05_TreeWithin_eq (a0 : AV) (s : St) : cw (.f F_law05_TreeWithin) [a0] s =
 back (cal cw true (tgtV (.val (.fn F_tree_Right [])) [(.val a0)]) s) fun v6 s_1 =>
 bind1 (buildS (C.ti T_Bad).zero []) fun v7 =>
 bind1 (binS (C.ti T_Bad) .neq v6 v7) fun v8 =>
 condS v8 (
 back (cal cw true (tgtV (.val (.fn F_law05_knows [])) []) s_1) fun v9 s_2 =>
 some (.ret v9, s_2)) (
 back (cal cw true (tgtV (.val (.fn F_ref05_Of [])) [(.val a0)]) s_1) fun v11 s_3 =>
 law05_TreeWithin_l0 (v11) ((.val (.int .i64 0))) s_3) := (callw_f _ _ _).trans (by kernel_rfl)

/- 6 camlet/camletlaw05.TreeSame -/
theorem law05_TreeSame_eq (a0 : AV) (a1 : AV) (s : St) : cw (.f F_law05_TreeSame) [a0, a1] s =
 back (cal cw true (tgtV (.val (.fn F_tree_Same [])) [(.val a0), (.val a1)]) s) fun v7 s_1 =>
 back (cal cw true (tgtV (.val (.fn F_ref05_Same [])) [(.val a0), (.val a1)]) s_1) fun v10 s_2 =>
 bind1 (binS (C.ti T_bool) .eql v7 v10) fun v11 =>
 bindB (Slot.isB v11 true) fun w =>
 back (cal cw w (tgtV (.val (.fn F_law05_knows [])) []) s_2) fun v13 s_3 =>
 bind1 (pickS v11 v13 (.val (.bool false))) fun v14 =>
 some (.ret v14, s_3) := (callw_f _ _ _).trans (by kernel_rfl)

/- 7 camlet/camletlaw05.TreeSizes -/
theorem law05_TreeSizes_eq (a0 : AV) (s : St) : cw (.f F_law05_TreeSizes) [a0] s =
 back (cal cw true (tgtV (.val (.fn F_tree_Size [])) [(.val a0)]) s) fun v4 s_1 =>
 back (cal cw true (tgtV (.val (.fn F_ref05_Size [])) [(.val a0)]) s_1) fun v6 s_2 =>
 bind1 (binS (C.ti T_int) .eql v4 v6) fun v7 =>
 bindB (Slot.isB v7 true) fun w =>
 bindB (Slot.isB v7 true) fun w_1 =>
 back (cal cw w_1 (tgtV (.val (.fn F_tree_Bare [])) [(gdV w (.val a0))]) s_2) fun v10 s_3 =>
 bindB (Slot.isB v7 true) fun w_2 =>
 bindB (Slot.isB v7 true) fun w_3 =>
 back (cal cw w_3 (tgtV (.val (.fn F_ref05_Bare [])) [(gdV w_2 (.val a0))]) s_3) fun v12 s_4 =>
 bindB (Slot.isB v7 true) fun w_4 =>
 back (cal cw w_4 (tgtV (.val (.fn F_ref05_SameAll [])) [v10, v12, (.val (.bool true))]) s_4) fun v13 s_5 =>
 bind1 (pickS v7 v13 (.val (.bool false))) fun v14 =>
 bindB (Slot.isB v14 true) fun w_5 =>
 back (cal cw w_5 (tgtV (.val (.fn F_law05_knows [])) []) s_5) fun v16 s_6 =>
 bind1 (pickS v14 v16 (.val (.bool false))) fun v17 =>
 some (.ret v17, s_6) := (callw_f _ _ _).trans (by kernel_rfl)

/- 8 camlet/camletlaw05.TreeBare -/
theorem law05_TreeBare_eq (a0 : AV) (a1 : AV) (s : St) : cw (.f F_law05_TreeBare) [a0, a1] s =
 back (cal cw true (tgtV (.val (.fn F_tree_Bare [])) [(.val a0)]) s) fun v10 s_1 =>
 back (cal cw true (tgtV (.val (.fn F_tree_Bare [])) [(.val a1)]) s_1) fun v12 s_2 =>
 back (cal cw true (tgtV (.val (.fn F_tree_Right [])) [(.val a0)]) s_2) fun v14 s_3 =>
 back (cal cw true (tgtV (.val (.fn F_tree_Right [])) [v10]) s_3) fun v16 s_4 =>
 bindL (boxCells (C.ti T_Bad) v14) fun c =>
 bindL (putAt (List.map .val (C.ti T_Bad).zero) 0 c) fun c7 =>
 bindL (boxCells (C.ti T_Bad) v16) fun c_1 =>
 bindL (putAt (List.map .val (C.ti T_Bad).zero) 0 c_1) fun c8 =>
 back (cal cw true (tgtV (.val (.fn F_tree_Same [])) [(.val a0), v10]) s_4) fun v19 s_5 =>
 bindB (Slot.isB v19 true) fun w =>
 bindB (Slot.isB v19 true) fun w_1 =>
 bindB (Slot.isB v19 true) fun w_2 =>
 back (cal cw w_2 (tgtV (.val (.fn F_tree_Same [])) [(gdV w (.val a0)), (gdV w_1 (.val a1))]) s_5) fun v23 s_6 =>
 bindB (Slot.isB v19 true) fun w_3 =>
 bindB (Slot.isB v19 true) fun w_4 =>
 bindB (Slot.isB v19 true) fun w_5 =>
 back (cal cw w_5 (tgtV (.val (.fn F_tree_Same [])) [(gdV w_3 v10), (gdV w_4 v12)]) s_6) fun v26 s_7 =>
 bindB (Slot.isB v19 true) fun w_6 =>
 bind1 (gd w_6 (binS (C.ti T_bool) .eql v23 v26)) fun v27 =>
 bind1 (pickS v19 v27 (.val (.bool false))) fun v28 =>
 bindB (Slot.isB v28 true) fun w_7 =>
 bindB (Slot.isB v28 true) fun w_8 =>
 bindB (Slot.isB v28 true) fun w_9 =>
 back (cal cw w_9 (tgtV (.val (.fn F_tree_Same [])) [(gdV w_7 (.val a0)), (gdV w_8 (.val a1))]) s_7) fun v32 s_8 =>
 bindB (Slot.isB v28 true) fun w_10 =>
 bindB (Slot.isB v28 true) fun w_11 =>
 bindB (Slot.isB v28 true) fun w_12 =>
 back (cal cw w_12 (tgtV (.val (.fn F_tree_Same [])) [(gdV w_10 (.val a1)), (gdV w_11 (.val a0))]) s_8) fun v35 s_9 =>
 bindB (Slot.isB v28 true) fun w_13 =>
 bind1 (gd w_13 (binS (C.ti T_bool) .eql v32 v35)) fun v36 =>
 bind1 (pickS v28 v36 (.val (.bool false))) fun v37 =>
 bindB (Slot.isB v37 true) fun w_14 =>
 bindB (Slot.isB v37 true) fun w_15 =>
 back (cal cw w_15 (tgtV (.val (.fn F_tree_Size [])) [(gdV w_14 (.val a0))]) s_9) fun v40 s_10 =>
 bindB (Slot.isB v37 true) fun w_16 =>
 bindB (Slot.isB v37 true) fun w_17 =>
 back (cal cw w_17 (tgtV (.val (.fn F_tree_Size [])) [(gdV w_16 v10)]) s_10) fun v42 s_11 =>
 bindB (Slot.isB v37 true) fun w_18 =>
 bind1 (gd w_18 (binS (C.ti T_int) .eql v40 v42)) fun v43 =>
 bind1 (pickS v37 v43 (.val (.bool false))) fun v44 =>
 bindB (Slot.isB v44 true) fun w_19 =>
 bindB (Slot.isB v44 true) fun w_20 =>
 bind1 (gd w_20 (bif w_19 then (ofSlots (C.ti T_Errno) (List.take (C.ti T_Errno).size (List.drop 0 c7))) else none)) fun v47 =>
 bindB (Slot.isB v44 true) fun w_21 =>
 bindB (Slot.isB v44 true) fun w_22 =>
 bind1 (gd w_22 (bif w_21 then (ofSlots (C.ti T_Errno) (List.take (C.ti T_Errno).size (List.drop 0 c8))) else none)) fun v49 =>
 bindB (Slot.isB v44 true) fun w_23 =>
 bind1 (gd w_23 (binS (C.ti T_Errno) .eql v47 v49)) fun v50 =>
 bind1 (pickS v44 v50 (.val (.bool false))) fun v51 =>
 bindB (Slot.isB v51 true) fun w_24 =>
 bindB (Slot.isB v51 true) fun w_25 =>
 bind1 (gd w_25 (bif w_24 then (ofSlots (C.ti T_string) (List.take (C.ti T_string).size (List.drop 2 c7))) else none)) fun v54 =>
 bindB (Slot.isB v51 true) fun w_26 =>
 bindB (Slot.isB v51 true) fun w_27 =>
 bind1 (gd w_27 (bif w_26 then (ofSlots (C.ti T_string) (List.take (C.ti T_string).size (List.drop 2 c8))) else none)) fun v56 =>
 bindB (Slot.isB v51 true) fun w_28 =>
 bind1 (gd w_28 (binS (C.ti T_string) .eql v54 v56)) fun v57 =>
 bind1 (pickS v51 v57 (.val (.bool false))) fun v58 =>
 bindB (Slot.isB v58 true) fun w_29 =>
 bindB (Slot.isB v58 true) fun w_30 =>
 bind1 (gd w_30 (bif w_29 then (ofSlots (C.ti T_int) (List.take (C.ti T_int).size (List.drop 1 c8))) else none)) fun v61 =>
 bindB (Slot.isB v58 true) fun w_31 =>
 bind1 (gd w_31 (binS (C.ti T_int) .eql v61 (.val (.int .i64 0)))) fun v62 =>
 bind1 (pickS v58 v62 (.val (.bool false))) fun v63 =>
 bindB (Slot.isB v63 true) fun w_32 =>
 back (cal cw w_32 (tgtV (.val (.fn F_law05_knows [])) []) s_11) fun v65 s_12 =>
 bind1 (pickS v63 v65 (.val (.bool false))) fun v66 =>
 some (.ret v66, s_12) := (callw_f _ _ _).trans (by kernel_rfl)

/- 9 camlet/tree.Right -/
theorem tree_Right_eq (a0 : AV) (s : St) : cw (.f F_tree_Right) [a0] s =
 bindL (boxCells (C.ti T_S_Dec) (.val a0)) fun c1 =>
 bindA (avs c1) fun l1 =>
 bind1 (ldV (C.ti T_S_Dec) false s (.val (.cp l1))) fun v3 =>
 back (cal cw true (tgtV (.val (.fn F_tree_program [])) [v3]) s) fun v4 s_1 =>
 bind1 (fnS F_tree_Right_1 [(.val (.cp l1))]) fun v5 =>
 back (cal cw true (tgtV (.val (.fn F_tree_right [])) [v4, v5]) s_1) fun v6 s_2 =>
 bindL (boxCells (C.ti T_Bad) v6) fun c =>
 bindL (putAt (List.map .val (C.ti T_Bad).zero) 0 c) fun c2 =>
 bind1 (ofSlots (C.ti T_Bad) (List.take (C.ti T_Bad).size c2)) fun v => some (.ret v, s_2) := (callw_f _ _ _).trans (by kernel_rfl)

/- 10 camlet/camletref05.Right -/
theorem ref05_Right_eq (a0 : AV) (s : St) : cw (.f F_ref05_Right) [a0] s =
 back (cal cw true (tgtV (.val (.fn F_ref05_Of [])) [(.val a0)]) s) fun v4 s_1 =>
 back (cal cw true (tgtV (.val (.fn F_ref05_Deep [])) [(.val a0)]) s_1) fun v6 s_2 =>
 back (cal cw true (tgtV (.val (.fn F_ref05_first [])) [v4, v6]) s_2) fun v7 s_3 =>
 bindL (boxCells (C.ti T_Bad) v7) fun c =>
 bindL (putAt (List.map .val (C.ti T_Bad).zero) 0 c) fun c2 =>
 bind1 (ofSlots (C.ti T_Bad) (List.take (C.ti T_Bad).size c2)) fun v => some (.ret v, s_3) := (callw_f _ _ _).trans (by kernel_rfl)

/- 11 camlet/camletlaw05.knows -/
theorem law05_knows_eq (s : St) : cw (.f F_law05_knows) [] s =
 bind1 (buildS (C.ti T_Exp).zero [(0, (C.ti T_ExpKind).size, (.val (.int .i64 1))), (3, (C.ti T_int).size, (.val (.int .i64 1)))]) fun v4 =>
 bind1 (bslF (C.ti T_Exp).size [v4]) fun v5 =>
 bind1 (buildS (C.ti T_Exp).zero [(0, (C.ti T_ExpKind).size, (.val (.int .i64 4))), (4, (C.ti T_S_Exp).size, v5)]) fun v6 =>
 bindL (boxCells (C.ti T_Exp) v6) fun c =>
 bindL (putAt (List.map .val (C.ti T_Exp).zero) 0 c) fun c1 =>
 bind1 (buildS (C.ti T_Pat).zero [(0, (C.ti T_PatKind).size, (.val (.int .i64 2))), (2, (C.ti T_string).size, (.val (.str [121])))]) fun v7 =>
 bind1 (bslF (C.ti T_Pat).size [v7]) fun v8 =>
 bind1 (buildS (C.ti T_Pat).zero [(0, (C.ti T_PatKind).size, (.val (.int .i64 6))), (2, (C.ti T_string).size, (.val (.str [120]))), (4, (C.ti T_S_Pat).size, v8)]) fun v9 =>
 bindL (boxCells (C.ti T_Pat) v9) fun c_1 =>
 bindL (putAt (List.map .val (C.ti T_Pat).zero) 0 c_1) fun c2 =>
 bind1 (ofSlots (C.ti T_Pat) (List.take (C.ti T_Pat).size c2)) fun v10 =>
 back (cal cw true (tgtV (.val (.fn F_tree_Vars [])) [v10]) s) fun v11 s_1 =>
 bind1 (ofSlots (C.ti T_Exp) (List.take (C.ti T_Exp).size c1)) fun v12 =>
 back (cal cw true (tgtV (.val (.fn F_tree_RightExp [])) [v12]) s_1) fun v13 s_2 =>
 bind1 (buildS (C.ti T_Bad).zero [(0, (C.ti T_Errno).size, (.val (.int .i64 19)))]) fun v14 =>
 bind1 (binS (C.ti T_Bad) .eql v13 v14) fun v15 =>
 bindB (Slot.isB v15 true) fun w =>
 bind1 (gd w (buildS (C.ti T_Exp).zero [(0, (C.ti T_ExpKind).size, (.val (.int .i64 2))), (1, (C.ti T_int).size, (.val (.int .i64 4))), (2, (C.ti T_string).size, (.val (.str [78, 105, 108])))])) fun v17 =>
 bindB (Slot.isB v15 true) fun w_1 =>
 back (cal cw w_1 (tgtV (.val (.fn F_tree_RightExp [])) [v17]) s_2) fun v18 s_3 =>
 bindB (Slot.isB v15 true) fun w_2 =>
 bind1 (gd w_2 (buildS (C.ti T_Bad).zero [(0, (C.ti T_Errno).size, (.val (.int .i64 8))), (1, (C.ti T_int).size, (.val (.int .i64 4))), (2, (C.ti T_string).size, (.val (.str [78, 105, 108])))])) fun v19 =>
 bindB (Slot.isB v15 true) fun w_3 =>
 bind1 (gd w_3 (binS (C.ti T_Bad) .eql v18 v19)) fun v20 =>
 bind1 (pickS v15 v20 (.val (.bool false))) fun v21 =>
 bindB (Slot.isB v21 true) fun w_4 =>
 bindB (Slot.isB v21 true) fun w_5 =>
 bind1 (gd w_5 (lenS (C.ti T_S_string) (gdV w_4 v11))) fun v24 =>
 bindB (Slot.isB v21 true) fun w_6 =>
 bind1 (gd w_6 (binS (C.ti T_int) .eql v24 (.val (.int .i64 2)))) fun v25 =>
 bind1 (pickS v21 v25 (.val (.bool false))) fun v26 =>
 bindB (Slot.isB v26 true) fun w_7 =>
 bindB (Slot.isB v26 true) fun w_8 =>
 bind1 (gd w_8 (ixS (C.ti T_string).size (gdV w_7 v11) (.val (.int .i64 0)))) fun v29 =>
 bindB (Slot.isB v26 true) fun w_9 =>
 bind1 (gd w_9 (ldV (C.ti T_string) false s_3 v29)) fun v30 =>
 bindB (Slot.isB v26 true) fun w_10 =>
 bind1 (gd w_10 (binS (C.ti T_string) .eql v30 (.val (.str [120])))) fun v31 =>
 bind1 (pickS v26 v31 (.val (.bool false))) fun v32 =>
 bindB (Slot.isB v32 true) fun w_11 =>
 bindB (Slot.isB v32 true) fun w_12 =>
 bind1 (gd w_12 (ixS (C.ti T_string).size (gdV w_11 v11) (.val (.int .i64 1)))) fun v35 =>
 bindB (Slot.isB v32 true) fun w_13 =>
 bind1 (gd w_13 (ldV (C.ti T_string) false s_3 v35)) fun v36 =>
 bindB (Slot.isB v32 true) fun w_14 =>
 bind1 (gd w_14 (binS (C.ti T_string) .eql v36 (.val (.str [121])))) fun v37 =>
 bind1 (pickS v32 v37 (.val (.bool false))) fun v38 =>
 bindB (Slot.isB v38 true) fun w_15 =>
 bind1 (gd w_15 (ofSlots (C.ti T_Pat) (List.take (C.ti T_Pat).size c2))) fun v40 =>
 bindB (Slot.isB v38 true) fun w_16 =>
 bind1 (gd w_16 (ofSlots (C.ti T_Exp) (List.take (C.ti T_Exp).size c1))) fun v41 =>
 bindB (Slot.isB v38 true) fun w_17 =>
 bind1 (gd w_17 (buildS (C.ti T_Case).zero [(0, (C.ti T_Pat).size, v40), (5, (C.ti T_Exp).size, v41)])) fun v42 =>
 bindB (Slot.isB v38 true) fun w_18 =>
 bind1 (gd w_18 (bslF (C.ti T_Case).size [v42])) fun v43 =>
 bindB (Slot.isB v38 true) fun w_19 =>
 bind1 (gd w_19 (buildS (C.ti T_Dec).zero [(0, (C.ti T_DecKind).size, (.val (.int .i64 1))), (5, (C.ti T_S_Case).size, v43)])) fun v44 =>
 bindB (Slot.isB v38 true) fun w_20 =>
 bind1 (gd w_20 (bslF (C.ti T_Dec).size [v44])) fun v45 =>
 bindB (Slot.isB v38 true) fun w_21 =>
 back (cal cw w_21 (tgtV (.val (.fn F_tree_Size [])) [v45]) s_3) fun v46 s_4 =>
 bindB (Slot.isB v38 true) fun w_22 =>
 bind1 (gd w_22 (binS (C.ti T_int) .eql v46 (.val (.int .i64 5)))) fun v47 =>
 bind1 (pickS v38 v47 (.val (.bool false))) fun v48 =>
 some (.ret v48, s_4) := (callw_f _ _ _).trans (by kernel_rfl)

/- 12 camlet/tree.RightExp -/
theorem tree_RightExp_eq (a0 : AV) (s : St) : cw (.f F_tree_RightExp) [a0] s =
 bindL (boxCells (C.ti T_Exp) (.val a0)) fun c1 =>
 bindA (avs c1) fun l1 =>
 bind1 (ldV (C.ti T_Exp) false s (.val (.cp l1))) fun v3 =>
 back (cal cw true (tgtV (.val (.fn F_tree_expression [])) [v3]) s) fun v4 s_1 =>
 bind1 (fnS F_tree_RightExp_1 [(.val (.cp l1))]) fun v5 =>
 back (cal cw true (tgtV (.val (.fn F_tree_right [])) [v4, v5]) s_1) fun v6 s_2 =>
 bindL (boxCells (C.ti T_Bad) v6) fun c =>
 bindL (putAt (List.map .val (C.ti T_Bad).zero) 0 c) fun c2 =>
 bind1 (ofSlots (C.ti T_Bad) (List.take (C.ti T_Bad).size c2)) fun v => some (.ret v, s_2) := (callw_f _ _ _).trans (by kernel_rfl)

/- 13 camlet/camletref05.RightExp -/
theorem ref05_RightExp_eq (a0 : AV) (s : St) : cw (.f F_ref05_RightExp) [a0] s =
 bindL (boxCells (C.ti T_Exp) (.val a0)) fun c1 =>
 bind1 (ofSlots (C.ti T_Exp) (List.take (C.ti T_Exp).size c1)) fun v3 =>
 back (noPan (cal cw true (tgtV (.val (.fn F_ref05_OfExp [])) [v3]) s)) fun v4 s_1 =>
 bind1 (ofSlots (C.ti T_Exp) (List.take (C.ti T_Exp).size c1)) fun v5 =>
 back (noPan (cal cw true (tgtV (.val (.fn F_ref05_DeepExp [])) [v5]) s_1)) fun v6 s_2 =>
 back (noPan (cal cw true (tgtV (.val (.fn F_ref05_first [])) [v4, v6]) s_2)) fun v7 s_3 =>
 bindL (boxCells (C.ti T_Bad) v7) fun c =>
 bindL (putAt (List.map .val (C.ti T_Bad).zero) 0 c) fun c2 =>
 bind1 (ofSlots (C.ti T_Bad) (List.take (C.ti T_Bad).size c2)) fun v => some (.ret v, s_3) := (callw_f _ _ _).trans (by kernel_rfl)

/- 14 camlet/tree.RightPat -/
theorem tree_RightPat_eq (a0 : AV) (s : St) : cw (.f F_tree_RightPat) [a0] s =
 bindL (boxCells (C.ti T_Pat) (.val a0)) fun c1 =>
 bindA (avs c1) fun l1 =>
 bind1 (ldV (C.ti T_Pat) false s (.val (.cp l1))) fun v3 =>
 back (cal cw true (tgtV (.val (.fn F_tree_pattern [])) [v3]) s) fun v4 s_1 =>
 bind1 (fnS F_tree_RightPat_1 [(.val (.cp l1))]) fun v5 =>
 back (cal cw true (tgtV (.val (.fn F_tree_right [])) [v4, v5]) s_1) fun v6 s_2 =>
 bindL (boxCells (C.ti T_Bad) v6) fun c =>
 bindL (putAt (List.map .val (C.ti T_Bad).zero) 0 c) fun c2 =>
 bind1 (ofSlots (C.ti T_Bad) (List.take (C.ti T_Bad).size c2)) fun v => some (.ret v, s_2) := (callw_f _ _ _).trans (by kernel_rfl)

/- 15 camlet/camletref05.RightPat -/
theorem ref05_RightPat_eq (a0 : AV) (s : St) : cw (.f F_ref05_RightPat) [a0] s =
 bindL (boxCells (C.ti T_Pat) (.val a0)) fun c1 =>
 bind1 (ofSlots (C.ti T_Pat) (List.take (C.ti T_Pat).size c1)) fun v3 =>
 back (noPan (cal cw true (tgtV (.val (.fn F_ref05_OfPat [])) [v3]) s)) fun v4 s_1 =>
 bind1 (ofSlots (C.ti T_Pat) (List.take (C.ti T_Pat).size c1)) fun v5 =>
 back (noPan (cal cw true (tgtV (.val (.fn F_ref05_deepPat [])) [v5]) s_1)) fun v6 s_2 =>
 back (noPan (cal cw true (tgtV (.val (.fn F_ref05_first [])) [v4, v6]) s_2)) fun v7 s_3 =>
 bindL (boxCells (C.ti T_Bad) v7) fun c =>
 bindL (putAt (List.map .val (C.ti T_Bad).zero) 0 c) fun c2 =>
 bind1 (ofSlots (C.ti T_Bad) (List.take (C.ti T_Bad).size c2)) fun v => some (.ret v, s_3) := (callw_f _ _ _).trans (by kernel_rfl)

/- 16 camlet/camletref05.SameTexts -/
noncomputable def ref05_SameTexts_l0 : Slot → Slot → Slot → St → Res := fun x0 x1 x5 s => loopR C false F_ref05_SameTexts [.seqR, .seqR, .seqL, .seqR, .block] (body Go.Proofs.Try.f16) [(0, .s x0), (1, .s x1), (5, .s x5)] s (ctxR C false F_ref05_SameTexts [.seqR, .seqR, .seqL, .seqR, .block] (body Go.Proofs.Try.f16) (outK C (Go.Proofs.Try.f16).results.toList))
theorem ref05_SameTexts_l0_eq (x0 : Slot) (x1 : Slot) (x5 : Slot) (s_1 : St) : ref05_SameTexts_l0 x0 x1 x5 s_1 =
 bind1 (lenS (C.ti T_S_string) x0) fun v13 =>
 bind1 (binS (C.ti T_int) .lss x5 v13) fun v14 =>
 condS v14 (
 bind1 (ixS (C.ti T_string).size x0 x5) fun v19 =>
 bind1 (ldV (C.ti T_string) false s_1 v19) fun v20 =>
 bind1 (ixS (C.ti T_string).size x1 x5) fun v23 =>
 bind1 (ldV (C.ti T_string) false s_1 v23) fun v24 =>
 bind1 (binS (C.ti T_string) .neq v20 v24) fun v25 =>
 condS v25 (
 some (.ret (.val (.bool false)), s_1)) (
 bind1 (binS (C.ti T_int) .add x5 (.val (.int .i64 1))) fun v16 =>
 ref05_SameTexts_l0 (x0) (x1) (v16) s_1)) (
 some (.ret (.val (.bool true)), s_1)) := by unfold ref05_SameTexts_l0; exact (loopR_eq _ _ _ _ _ _).trans (by kernel_rfl)
theorem ref05_SameTexts_eq (a0 : AV) (a1 : AV) (s : St) : cw (.f F_ref05_SameTexts) [a0, a1] s =
 bind1 (lenS (C.ti T_S_string) (.val a0)) fun v7 =>
 bind1 (lenS (C.ti T_S_string) (.val a1)) fun v9 =>
 bind1 (binS (C.ti T_int) .neq v7 v9) fun v10 =>
 condS v10 (
 some (.ret (.val (.bool false)), s)) (
 ref05_SameTexts_l0 ((.val a0)) ((.val a1)) ((.val (.int .i64 0))) s) := (callw_f _ _ _).trans (by kernel_rfl)

/- 17 camlet/tree.Vars -/
noncomputable def tree_Vars_r0 (x3 : Slot) : Am.Obj := .loop .ready none F_tree_Vars [(3, .s x3)] [7] (rngAsg (codeAt [.seqR, .seqR, .seqL, .seqR, .block] (body Go.Proofs.Try.f17))) (rngBody (codeAt [.seqR, .seqR, .seqL, .seqR, .block] (body Go.Proofs.Try.f17)))
theorem tree_Vars_r0_eq (x3 : Slot) (y7 : AV) (loc : Nat) (s_2 : St) : yldR C (tree_Vars_r0 x3) loc [y7] s_2 = noPan (
 bindL (boxCells (C.ti T_thing) (.val y7)) fun c =>
 bindL (putAt (List.map .val (C.ti T_thing).zero) 0 c) fun c4 =>
 bindS (beginL loc s_2) fun s_3 =>
 bind1 (ofSlots (C.ti T_P_Pat) (List.take (C.ti T_P_Pat).size (List.drop 5 c4))) fun v9 =>
 bind1 (nilCheckV v9) fun v10 =>
 bind1 (faV 0 v10) fun v11 =>
 bind1 (ldV (C.ti T_PatKind) false s_3 v11) fun v12 =>
 bind1 (binS (C.ti T_PatKind) .eql v12 (.val (.int .i64 2))) fun v13 =>
 bindB (Slot.isB v13 false) fun w =>
 bindB (Slot.isB v13 false) fun w_1 =>
 bind1 (gd w_1 (bif w then (ofSlots (C.ti T_P_Pat) (List.take (C.ti T_P_Pat).size (List.drop 5 c4))) else none)) fun v16 =>
 bindB (Slot.isB v13 false) fun w_2 =>
 bind1 (gd w_2 (nilCheckV v16)) fun v17 =>
 bindB (Slot.isB v13 false) fun w_3 =>
 bind1 (gd w_3 (faV 0 v17)) fun v18 =>
 bindB (Slot.isB v13 false) fun w_4 =>
 bind1 (gd w_4 (ldV (C.ti T_PatKind) false s_3 v18)) fun v19 =>
 bindB (Slot.isB v13 false) fun w_5 =>
 bind1 (gd w_5 (binS (C.ti T_PatKind) .eql v19 (.val (.int .i64 6)))) fun v20 =>
 bind1 (pickS v13 (.val (.bool true)) v20) fun v21 =>
 condS v21 (
 bind1 (ldV (C.ti T_S_string) false s_3 x3) fun v22 =>
 bind1 (ofSlots (C.ti T_P_Pat) (List.take (C.ti T_P_Pat).size (List.drop 5 c4))) fun v24 =>
 bind1 (nilCheckV v24) fun v25 =>
 bind1 (faV 2 v25) fun v26 =>
 bind1 (ldV (C.ti T_string) false s_3 v26) fun v27 =>
 bind1 (bslF (C.ti T_string).size [v27]) fun v28 =>
 bind2 (appendS T_string (C.ti T_string) s_3 v22 v28) fun v29 s_4 =>
 bindL (boxCells (C.ti T_S_string) v29) fun c_1 =>
 bindS (stV s_4 x3 c_1) fun s_5 =>
 bindS (setLoop loc .ready none s_5) fun s_6 =>
 some (.ret (.val (.bool true)), s_6)) (
 bindS (setLoop loc .ready none s_3) fun s_7 =>
 some (.ret (.val (.bool true)), s_7))) := by kernel_rfl
theorem tree_Vars_eq (a0 : AV) (s : St) : cw (.f F_tree_Vars) [a0] s =
 bindL (boxCells (C.ti T_Pat) (.val a0)) fun c1 =>
 bind1 (ofSlots (C.ti T_Pat) (List.take (C.ti T_Pat).size c1)) fun v5 =>
 back (cal cw true (tgtV (.val (.fn F_tree_pattern [])) [v5]) (St.addLoc s (.var (List.map .val (C.ti T_S_string).zero)))) fun v6 s_1 =>
 rangeC C cw v6 s_1.locs.length (St.addLoc s_1 (tree_Vars_r0 ((.val (.vp s.locs.length 0))))) fun s_8 =>
 endX s_1.locs.length s_8 (fun s_9 =>
 bind1 (ldV (C.ti T_S_string) false s_9 (.val (.vp s.locs.length 0))) fun v30 =>
 some (.ret v30, s_9)) (fun s_10 =>
 some (.ret (.val (.nils)), s_10)) (fun j s_11 =>
 bif Nat.beq j 0 then (
 bind1 (ldV (C.ti T_S_string) false s_11 (.val (.vp s.locs.length 0))) fun v30_1 =>
 some (.ret v30_1, s_11)) else (
(none : Res))) := (callw_f _ _ _).trans (by kernel_rfl)

/- 18 camlet/camletref05.Vars -/
noncomputable def ref05_Vars_l0 : List Slot → Slot → Slot → St → Res := fun x1_1 x3_1 x4 s => loopR C false F_ref05_Vars [.seqR, .seqR, .seqR, .seqL, .seqR, .block] (body Go.Proofs.Try.f18) [(1, .var x1_1), (3, .s x3_1), (4, .s x4)] s (ctxR C false F_ref05_Vars [.seqR, .seqR, .seqR, .seqL, .seqR, .block] (body Go.Proofs.Try.f18) (outK C (Go.Proofs.Try.f18).results.toList))
noncomputable def ref05_Vars_j0 : List Slot → Slot → St → Res := fun x1 x3 s => pw (run C false F_ref05_Vars (codeAt [.seqR, .seqR, .seqR] (body Go.Proofs.Try.f18)) [(1, .var x1), (3, .s x3)] s (ctxR C false F_ref05_Vars [.seqR, .seqR, .seqR] (body Go.Proofs.Try.f18) (outK C (Go.Proofs.Try.f18).results.toList)))
theorem ref05_Vars_l0_eq (x1_1 : List Slot) (x3_1 : Slot) (x4 : Slot) (s_3 : St) : ref05_Vars_l0 x1_1 x3_1 x4 s_3 =
 bind1 (ofSlots (C.ti T_S_Pat) (List.take (C.ti T_S_Pat).size (List.drop 4 x1_1))) fun v20 =>
 bind1 (lenS (C.ti T_S_Pat) v20) fun v21 =>
 bind1 (binS (C.ti T_int) .lss x4 v21) fun v22 =>
 condS v22 (
 bind1 (ofSlots (C.ti T_S_Pat) (List.take (C.ti T_S_Pat).size (List.drop 4 x1_1))) fun v27 =>
 bind1 (ixS (C.ti T_Pat).size v27 x4) fun v29 =>
 bind1 (ldV (C.ti T_Pat) false s_3 v29) fun v30 =>
 back (cal cw true (tgtV (.val (.fn F_ref05_Vars [])) [v30]) s_3) fun v31 s_4 =>
 bind2 (appendS T_string (C.ti T_string) s_4 x3_1 v31) fun v32 s_5 =>
 bind1 (binS (C.ti T_int) .add x4 (.val (.int .i64 1))) fun v24 =>
 ref05_Vars_l0 (x1_1) (v32) (v24) s_5) (
 some (.ret x3_1, s_3)) := by unfold ref05_Vars_l0; exact (loopR_eq _ _ _ _ _ _).trans (by kernel_rfl)
theorem ref05_Vars_j0_eq (x1 : List Slot) (x3 : Slot) (s_2 : St) : ref05_Vars_j0 x1 x3 s_2 =
 ref05_Vars_l0 (x1) (x3) ((.val (.int .i64 0))) s_2 := by unfold ref05_Vars_j0; exact (pw_eq _).trans (by kernel_rfl)
theorem ref05_Vars_eq (a0 : AV) (s : St) : cw (.f F_ref05_Vars) [a0] s =
 bindL (boxCells (C.ti T_Pat) (.val a0)) fun c1 =>
 bind1 (ofSlots (C.ti T_PatKind) (List.take (C.ti T_PatKind).size (List.drop 0 c1))) fun v6 =>
 bind1 (binS (C.ti T_PatKind) .eql v6 (.val (.int .i64 2))) fun v7 =>
 bindB (Slot.isB v7 false) fun w =>
 bindB (Slot.isB v7 false) fun w_1 =>
 bind1 (gd w_1 (bif w then (ofSlots (C.ti T_PatKind) (List.take (C.ti T_PatKind).size (List.drop 0 c1))) else none)) fun v10 =>
 bindB (Slot.isB v7 false) fun w_2 =>
 bind1 (gd w_2 (binS (C.ti T_PatKind) .eql v10 (.val (.int .i64 6)))) fun v11 =>
 bind1 (pickS v7 (.val (.bool true)) v11) fun v12 =>
 condS v12 (
 bind1 (ofSlots (C.ti T_string) (List.take (C.ti T_string).size (List.drop 2 c1))) fun v15 =>
 bind1 (bslF (C.ti T_string).size [v15]) fun v16 =>
 bind2 (appendS T_string (C.ti T_string) s (.val (.nils)) v16) fun v17 s_1 =>
 ref05_Vars_j0 (c1) (v17) s_1) (
 ref05_Vars_j0 (c1) ((.val (.nils))) s) := (callw_f _ _ _).trans (by kernel_rfl)

/- 19 camlet/camletref05.Of -/
noncomputable def ref05_Of_l0 : Slot → Slot → Slot → St → Res := fun x0 x3 x4 s => loopR C false F_ref05_Of [.seqR, .seqR, .seqL, .seqR, .block] (body Go.Proofs.Try.f19) [(0, .s x0), (3, .s x3), (4, .s x4)] s (ctxR C false F_ref05_Of [.seqR, .seqR, .seqL, .seqR, .block] (body Go.Proofs.Try.f19) (outK C (Go.Proofs.Try.f19).results.toList))
theorem ref05_Of_l0_eq (x0 : Slot) (x3 : Slot) (x4 : Slot) (s_1 : St) : ref05_Of_l0 x0 x3 x4 s_1 =
 bind1 (lenS (C.ti T_S_Dec) x0) fun v7 =>
 bind1 (binS (C.ti T_int) .lss x4 v7) fun v8 =>
 condS v8 (
 bind1 (ixS (C.ti T_Dec).size x0 x4) fun v14 =>
 bind1 (ldV (C.ti T_Dec) false s_1 v14) fun v15 =>
 back (cal cw true (tgtV (.val (.fn F_ref05_OfDec [])) [v15, (.val (.bool false))]) s_1) fun v16 s_2 =>
 bind2 (appendS T_ref05_Node (C.ti T_ref05_Node) s_2 x3 v16) fun v17 s_3 =>
 bind1 (binS (C.ti T_int) .add x4 (.val (.int .i64 1))) fun v10 =>
 ref05_Of_l0 (x0) (v17) (v10) s_3) (
 some (.ret x3, s_1)) := by unfold ref05_Of_l0; exact (loopR_eq _ _ _ _ _ _).trans (by kernel_rfl)
theorem ref05_Of_eq (a0 : AV) (s : St) : cw (.f F_ref05_Of) [a0] s =
 ref05_Of_l0 ((.val a0)) ((.val (.nils))) ((.val (.int .i64 0))) s := (callw_f _ _ _).trans (by kernel_rfl)

/- 20 camlet/tree.Same -/
theorem tree_Same_eq (a0 : AV) (a1 : AV) (s : St) : cw (.f F_tree_Same) [a0, a1] s =
 back (cal cw true (tgtV (.val (.fn F_slices_EqualFunc_SDec_SDec_Dec_Dec [])) [(.val a0), (.val a1), (.val (.fn F_tree_sameDec []))]) s) fun v7 s_1 =>
 some (.ret v7, s_1) := (callw_f _ _ _).trans (by kernel_rfl)

/- 21 camlet/camletref05.Same -/
theorem ref05_Same_eq (a0 : AV) (a1 : AV) (s : St) : cw (.f F_ref05_Same) [a0, a1] s =
 back (cal cw true (tgtV (.val (.fn F_ref05_SameAll [])) [(.val a0), (.val a1), (.val (.bool false))]) s) fun v7 s_1 =>
 some (.ret v7, s_1) := (callw_f _ _ _).trans (by kernel_rfl)

/- 22 camlet/tree.Size -/
theorem tree_Size_eq (a0 : AV) (s : St) : cw (.f F_tree_Size) [a0] s =
 back (cal cw true (tgtV (.val (.fn F_tree_program [])) [(.val a0)]) s) fun v4 s_1 =>
 back (cal cw true (tgtV (.val (.fn F_tree_count [])) [v4, (.val (.int .i64 4611686018427387904))]) s_1) fun v5 s_2 =>
 some (.ret v5, s_2) := (callw_f _ _ _).trans (by kernel_rfl)

/- 23 camlet/camletref05.Size -/
theorem ref05_Size_eq (a0 : AV) (s : St) : cw (.f F_ref05_Size) [a0] s =
 back (cal cw true (tgtV (.val (.fn F_ref05_Of [])) [(.val a0)]) s) fun v4 s_1 =>
 back (cal cw true (tgtV (.val (.fn F_ref05_count [])) [v4]) s_1) fun v5 s_2 =>
 some (.ret v5, s_2) := (callw_f _ _ _).trans (by kernel_rfl)

/- 24 camlet/camletref05.SameAll -/
noncomputable def ref05_SameAll_l0 : Slot → Slot → Slot → Slot → St → Res := fun x0 x1 x2 x7 s => loopR C false F_ref05_SameAll [.seqR, .seqR, .seqL, .seqR, .block] (body Go.Proofs.Try.f24) [(0, .s x0), (1, .s x1), (2, .s x2), (7, .s x7)] s (ctxR C false F_ref05_SameAll [.seqR, .seqR, .seqL, .seqR, .block] (body Go.Proofs.Try.f24) (outK C (Go.Proofs.Try.f24).results.toList))
theorem ref05_SameAll_l0_eq (x0 : Slot) (x1 : Slot) (x2 : Slot) (x7 : Slot) (s_1 : St) : ref05_SameAll_l0 x0 x1 x2 x7 s_1 =
 bind1 (lenS (C.ti T_S_Dec) x0) fun v15 =>
 bind1 (binS (C.ti T_int) .lss x7 v15) fun v16 =>
 condS v16 (
 bind1 (ixS (C.ti T_Dec).size x0 x7) fun v21 =>
 bind1 (ldV (C.ti T_Dec) false s_1 v21) fun v22 =>
 bind1 (ixS (C.ti T_Dec).size x1 x7) fun v25 =>
 bind1 (ldV (C.ti T_Dec) false s_1 v25) fun v26 =>
 back (noPan (cal cw true (tgtV (.val (.fn F_ref05_sameDec [])) [v22, v26, x2]) s_1)) fun v28 s_2 =>
 bind1 (unS .not v28) fun v29 =>
 condS v29 (
 some (.ret (.val (.bool false)), s_2)) (
 bind1 (binS (C.ti T_int) .add x7 (.val (.int .i64 1))) fun v18 =>
 ref05_SameAll_l0 (x0) (x1) (x2) (v18) s_2)) (
 some (.ret (.val (.bool true)), s_1)) := by unfold ref05_SameAll_l0; exact (loopR_eq _ _ _ _ _ _).trans (by kernel_rfl)
theorem ref05_SameAll_eq (a0 : AV) (a1 : AV) (a2 : AV) (s : St) : cw (.f F_ref05_SameAll) [a0, a1, a2] s =
 bind1 (lenS (C.ti T_S_Dec) (.val a0)) fun v9 =>
 bind1 (lenS (C.ti T_S_Dec) (.val a1)) fun v11 =>
 bind1 (binS (C.ti T_int) .neq v9 v11) fun v12 =>
 condS v12 (
 some (.ret (.val (.bool false)), s)) (
 ref05_SameAll_l0 ((.val a0)) ((.val a1)) ((.val a2)) ((.val (.int .i64 0))) s) := (callw_f _ _ _).trans (by kernel_rfl)

/- 25 camlet/tree.Bare -/
theorem tree_Bare_eq (a0 : AV) (s : St) : cw (.f F_tree_Bare) [a0] s =
 back (cal cw true (tgtV (.val (.fn F_tree_each_Dec [])) [(.val a0), (.val (.fn F_tree_bareDec []))]) s) fun v4 s_1 =>
 some (.ret v4, s_1) := (callw_f _ _ _).trans (by kernel_rfl)

/- 26 camlet/camletref05.Bare -/
noncomputable def ref05_Bare_l3 : Slot → Slot → Slot → List Slot → List Slot → Slot → St → Res := fun x0_3 x3_3 x4_3 x5_2 x6_2 x9 s => loopR C false F_ref05_Bare [.seqR, .seqR, .seqL, .seqR, .block, .loop, .seqR, .seqL, .block, .seqR, .seqR, .seqR, .seqR, .seqL, .seqR, .block] (body Go.Proofs.Try.f26) [(0, .s x0_3), (3, .s x3_3), (4, .s x4_3), (5, .var x5_2), (6, .var x6_2), (9, .s x9)] s (ctxR C false F_ref05_Bare [.seqR, .seqR, .seqL, .seqR, .block, .loop, .seqR, .seqL, .block, .seqR, .seqR, .seqR, .seqR, .seqL, .seqR, .block] (body Go.Proofs.Try.f26) (outK C (Go.Proofs.Try.f26).results.toList))
noncomputable def ref05_Bare_l2 : Slot → Slot → Slot → List Slot → List Slot → Slot → St → Res := fun x0_2 x3_2 x4_2 x5_1 x6_1 x8 s => loopR C false F_ref05_Bare [.seqR, .seqR, .seqL, .seqR, .block, .loop, .seqR, .seqL, .block, .seqR, .seqR, .seqR, .seqL, .seqR, .block] (body Go.Proofs.Try.f26) [(0, .s x0_2), (3, .s x3_2), (4, .s x4_2), (5, .var x5_1), (6, .var x6_1), (8, .s x8)] s (ctxR C false F_ref05_Bare [.seqR, .seqR, .seqL, .seqR, .block, .loop, .seqR, .seqL, .block, .seqR, .seqR, .seqR, .seqL, .seqR, .block] (body Go.Proofs.Try.f26) (outK C (Go.Proofs.Try.f26).results.toList))
noncomputable def ref05_Bare_l1 : Slot → Slot → Slot → List Slot → List Slot → Slot → St → Res := fun x0_1 x3_1 x4_1 x5 x6 x7 s => loopR C false F_ref05_Bare [.seqR, .seqR, .seqL, .seqR, .block, .loop, .seqR, .seqL, .block, .seqR, .seqR, .seqL, .seqR, .block] (body Go.Proofs.Try.f26) [(0, .s x0_1), (3, .s x3_1), (4, .s x4_1), (5, .var x5), (6, .var x6), (7, .s x7)] s (ctxR C false F_ref05_Bare [.seqR, .seqR, .seqL, .seqR, .block, .loop, .seqR, .seqL, .block, .seqR, .seqR, .seqL, .seqR, .block] (body Go.Proofs.Try.f26) (outK C (Go.Proofs.Try.f26).results.toList))
noncomputable def ref05_Bare_l0 : Slot → Slot → Slot → St → Res := fun x0 x3 x4 s => loopR C false F_ref05_Bare [.seqR, .seqR, .seqL, .seqR, .block] (body Go.Proofs.Try.f26) [(0, .s x0), (3, .s x3), (4, .s x4)] s (ctxR C false F_ref05_Bare [.seqR, .seqR, .seqL, .seqR, .block] (body Go.Proofs.Try.f26) (outK C (Go.Proofs.Try.f26).results.toList))
theorem ref05_Bare_l3_eq (x0_3 : Slot) (x3_3 : Slot) (x4_3 : Slot) (x5_2 : List Slot) (x6_2 : List Slot) (x9 : Slot) (s_8 : St) : ref05_Bare_l3 x0_3 x3_3 x4_3 x5_2 x6_2 x9 s_8 =
 bind1 (ofSlots (C.ti T_S_Fun) (List.take (C.ti T_S_Fun).size (List.drop 6 x5_2))) fun v79 =>
 bind1 (lenS (C.ti T_S_Fun) v79) fun v80 =>
 bind1 (binS (C.ti T_int) .lss x9 v80) fun v81 =>
 condS v81 (
 bind1 (ofSlots (C.ti T_S_Fun) (List.take (C.ti T_S_Fun).size (List.drop 6 x6_2))) fun v85 =>
 bind1 (ofSlots (C.ti T_S_Fun) (List.take (C.ti T_S_Fun).size (List.drop 6 x5_2))) fun v87 =>
 bind1 (ixS (C.ti T_Fun).size v87 x9) fun v89 =>
 bind1 (faV 0 v89) fun v90 =>
 bind1 (ldV (C.ti T_string) true s_8 v90) fun v91 =>
 bind1 (ofSlots (C.ti T_S_Fun) (List.take (C.ti T_S_Fun).size (List.drop 6 x5_2))) fun v93 =>
 bind1 (ixS (C.ti T_Fun).size v93 x9) fun v95 =>
 bind1 (faV 2 v95) fun v96 =>
 bind1 (ldV (C.ti T_Case) true s_8 v96) fun v97 =>
 back (noPan (cal cw true (tgtV (.val (.fn F_ref05_bareCase [])) [v97]) s_8)) fun v98 s_9 =>
 bind1 (buildS (C.ti T_Fun).zero [(0, (C.ti T_string).size, v91), (2, (C.ti T_Case).size, v98)]) fun v99 =>
 bind1 (bslF (C.ti T_Fun).size [v99]) fun v100 =>
 bind2 (appendS T_Fun (C.ti T_Fun) s_9 v85 v100) fun v101 s_10 =>
 bindL (boxCells (C.ti T_S_Fun) v101) fun c_4 =>
 bindL (putAt x6_2 6 c_4) fun c6_3 =>
 bind1 (binS (C.ti T_int) .add x9 (.val (.int .i64 1))) fun v83 =>
 ref05_Bare_l3 (x0_3) (x3_3) (x4_3) (x5_2) (c6_3) (v83) s_10) (
 bind1 (ofSlots (C.ti T_Dec) (List.take (C.ti T_Dec).size x6_2)) fun v104 =>
 bind1 (bslF (C.ti T_Dec).size [v104]) fun v105 =>
 bind2 (appendS T_Dec (C.ti T_Dec) s_8 x3_3 v105) fun v106 s_11 =>
 bind1 (binS (C.ti T_int) .add x4_3 (.val (.int .i64 1))) fun v15 =>
 ref05_Bare_l0 (x0_3) (v106) (v15) s_11) := by unfold ref05_Bare_l3; exact (loopR_eq _ _ _ _ _ _).trans (by kernel_rfl)
theorem ref05_Bare_l2_eq (x0_2 : Slot) (x3_2 : Slot) (x4_2 : Slot) (x5_1 : List Slot) (x6_1 : List Slot) (x8 : Slot) (s_5 : St) : ref05_Bare_l2 x0_2 x3_2 x4_2 x5_1 x6_1 x8 s_5 =
 bind1 (ofSlots (C.ti T_S_Case) (List.take (C.ti T_S_Case).size (List.drop 5 x5_1))) fun v61 =>
 bind1 (lenS (C.ti T_S_Case) v61) fun v62 =>
 bind1 (binS (C.ti T_int) .lss x8 v62) fun v63 =>
 condS v63 (
 bind1 (ofSlots (C.ti T_S_Case) (List.take (C.ti T_S_Case).size (List.drop 5 x6_1))) fun v67 =>
 bind1 (ofSlots (C.ti T_S_Case) (List.take (C.ti T_S_Case).size (List.drop 5 x5_1))) fun v69 =>
 bind1 (ixS (C.ti T_Case).size v69 x8) fun v71 =>
 bind1 (ldV (C.ti T_Case) true s_5 v71) fun v72 =>
 back (noPan (cal cw true (tgtV (.val (.fn F_ref05_bareCase [])) [v72]) s_5)) fun v73 s_6 =>
 bind1 (bslF (C.ti T_Case).size [v73]) fun v74 =>
 bind2 (appendS T_Case (C.ti T_Case) s_6 v67 v74) fun v75 s_7 =>
 bindL (boxCells (C.ti T_S_Case) v75) fun c_3 =>
 bindL (putAt x6_1 5 c_3) fun c6_2 =>
 bind1 (binS (C.ti T_int) .add x8 (.val (.int .i64 1))) fun v65 =>
 ref05_Bare_l2 (x0_2) (x3_2) (x4_2) (x5_1) (c6_2) (v65) s_7) (
 ref05_Bare_l3 (x0_2) (x3_2) (x4_2) (x5_1) (x6_1) ((.val (.int .i64 0))) s_5) := by unfold ref05_Bare_l2; exact (loopR_eq _ _ _ _ _ _).trans (by kernel_rfl)
theorem ref05_Bare_l1_eq (x0_1 : Slot) (x3_1 : Slot) (x4_1 : Slot) (x5 : List Slot) (x6 : List Slot) (x7 : Slot) (s_2 : St) : ref05_Bare_l1 x0_1 x3_1 x4_1 x5 x6 x7 s_2 =
 bind1 (ofSlots (C.ti T_S_Con) (List.take (C.ti T_S_Con).size (List.drop 4 x5))) fun v29 =>
 bind1 (lenS (C.ti T_S_Con) v29) fun v30 =>
 bind1 (binS (C.ti T_int) .lss x7 v30) fun v31 =>
 condS v31 (
 bind1 (ofSlots (C.ti T_S_Con) (List.take (C.ti T_S_Con).size (List.drop 4 x6))) fun v35 =>
 bind1 (ofSlots (C.ti T_S_Con) (List.take (C.ti T_S_Con).size (List.drop 4 x5))) fun v37 =>
 bind1 (ixS (C.ti T_Con).size v37 x7) fun v39 =>
 bind1 (faV 0 v39) fun v40 =>
 bind1 (ldV (C.ti T_string) true s_2 v40) fun v41 =>
 bind1 (ofSlots (C.ti T_S_Con) (List.take (C.ti T_S_Con).size (List.drop 4 x5))) fun v43 =>
 bind1 (ixS (C.ti T_Con).size v43 x7) fun v45 =>
 bind1 (faV 2 v45) fun v46 =>
 bind1 (ldV (C.ti T_bool) true s_2 v46) fun v47 =>
 bind1 (ofSlots (C.ti T_S_Con) (List.take (C.ti T_S_Con).size (List.drop 4 x5))) fun v49 =>
 bind1 (ixS (C.ti T_Con).size v49 x7) fun v51 =>
 bind1 (faV 3 v51) fun v52 =>
 bind1 (ldV (C.ti T_Ty) true s_2 v52) fun v53 =>
 back (noPan (cal cw true (tgtV (.val (.fn F_ref05_CopyTy [])) [v53]) s_2)) fun v54 s_3 =>
 bind1 (buildS (C.ti T_Con).zero [(0, (C.ti T_string).size, v41), (2, (C.ti T_bool).size, v47), (3, (C.ti T_Ty).size, v54)]) fun v55 =>
 bind1 (bslF (C.ti T_Con).size [v55]) fun v56 =>
 bind2 (appendS T_Con (C.ti T_Con) s_3 v35 v56) fun v57 s_4 =>
 bindL (boxCells (C.ti T_S_Con) v57) fun c_2 =>
 bindL (putAt x6 4 c_2) fun c6_1 =>
 bind1 (binS (C.ti T_int) .add x7 (.val (.int .i64 1))) fun v33 =>
 ref05_Bare_l1 (x0_1) (x3_1) (x4_1) (x5) (c6_1) (v33) s_4) (
 ref05_Bare_l2 (x0_1) (x3_1) (x4_1) (x5) (x6) ((.val (.int .i64 0))) s_2) := by unfold ref05_Bare_l1; exact (loopR_eq _ _ _ _ _ _).trans (by kernel_rfl)
theorem ref05_Bare_l0_eq (x0 : Slot) (x3 : Slot) (x4 : Slot) (s_1 : St) : ref05_Bare_l0 x0 x3 x4 s_1 =
 bind1 (lenS (C.ti T_S_Dec) x0) fun v12 =>
 bind1 (binS (C.ti T_int) .lss x4 v12) fun v13 =>
 condS v13 (
 bind1 (ixS (C.ti T_Dec).size x0 x4) fun v18 =>
 bind1 (ldV (C.ti T_Dec) false s_1 v18) fun v19 =>
 bindL (boxCells (C.ti T_Dec) v19) fun c =>
 bindL (putAt (List.map .val (C.ti T_Dec).zero) 0 c) fun c5 =>
 bind1 (ofSlots (C.ti T_DecKind) (List.take (C.ti T_DecKind).size (List.drop 0 c5))) fun v21 =>
 bind1 (ofSlots (C.ti T_string) (List.take (C.ti T_string).size (List.drop 2 c5))) fun v23 =>
 bind1 (ofSlots (C.ti T_int) (List.take (C.ti T_int).size (List.drop 3 c5))) fun v25 =>
 bind1 (buildS (C.ti T_Dec).zero [(0, (C.ti T_DecKind).size, v21), (2, (C.ti T_string).size, v23), (3, (C.ti T_int).size, v25)]) fun v26 =>
 bindL (boxCells (C.ti T_Dec) v26) fun c_1 =>
 bindL (putAt (List.map .val (C.ti T_Dec).zero) 0 c_1) fun c6 =>
 ref05_Bare_l1 (x0) (x3) (x4) (c5) (c6) ((.val (.int .i64 0))) s_1) (
 some (.ret x3, s_1)) := by unfold ref05_Bare_l0; exact (loopR_eq _ _ _ _ _ _).trans (by kernel_rfl)
theorem ref05_Bare_eq (a0 : AV) (s : St) : cw (.f F_ref05_Bare) [a0] s =
 ref05_Bare_l0 ((.val a0)) ((.val (.nils))) ((.val (.int .i64 0))) s := (callw_f _ _ _).trans (by kernel_rfl)

/- 27 camlet/tree.right -/
noncomputable def tree_right_r0 (x4 : Slot) : Am.Obj := .loop .ready none F_tree_right [(4, .s x4)] [16] (rngAsg (codeAt [.seqR, .seqR, .seqR, .seqL, .seqR, .block] (body Go.Proofs.Try.f27))) (rngBody (codeAt [.seqR, .seqR, .seqR, .seqL, .seqR, .block] (body Go.Proofs.Try.f27)))
theorem tree_right_r0_eq (x4 : Slot) (y16 : AV) (loc : Nat) (s_5 : St) : yldR C (tree_right_r0 x4) loc [y16] s_5 = noPan (
 bindL (boxCells (C.ti T_thing) (.val y16)) fun c_2 =>
 bindL (putAt (List.map .val (C.ti T_thing).zero) 0 c_2) fun c5 =>
 bindS (beginL loc s_5) fun s_6 =>
 bind1 (ofSlots (C.ti T_thing) (List.take (C.ti T_thing).size c5)) fun v17 =>
 back (cal cw true (tgtV (.val (.fn F_tree_thing_wrong [])) [v17]) s_6) fun v18 s_7 =>
 bindL (boxCells (C.ti T_Bad) v18) fun c_3 =>
 bindL (putAt (List.map .val (C.ti T_Bad).zero) 0 c_3) fun c6 =>
 bind1 (ofSlots (C.ti T_Errno) (List.take (C.ti T_Errno).size (List.drop 0 c6))) fun v20 =>
 bind1 (binS (C.ti T_Errno) .neq v20 (.val (.int .i64 0))) fun v21 =>
 condS v21 (
 bind1 (ofSlots (C.ti T_Bad) (List.take (C.ti T_Bad).size c6)) fun v22 =>
 bindL (boxCells (C.ti T_Bad) v22) fun c_4 =>
 bindS (stV s_7 x4 c_4) fun s_8 =>
 bindS (setLoop loc .done (some .ret) s_8) fun s_9 =>
 some (.ret (.val (.bool false)), s_9)) (
 bindS (setLoop loc .ready none s_7) fun s_10 =>
 some (.ret (.val (.bool true)), s_10))) := by kernel_rfl
theorem tree_right_eq (a0 : AV) (a1 : AV) (s : St) : cw (.f F_tree_right) [a0, a1] s =
 back (cal cw true (tgtV (.val (.fn F_tree_count [])) [(.val a0), (.val (.int .i64 8193))]) (St.addLoc s (.var (List.map .val (C.ti T_Bad).zero)))) fun v8 s_1 =>
 bind1 (binS (C.ti T_int) .gtr v8 (.val (.int .i64 8192))) fun v9 =>
 condS v9 (
 bind1 (buildS (C.ti T_Bad).zero [(0, (C.ti T_Errno).size, (.val (.int .i64 4)))]) fun v10 =>
 bindL (boxCells (C.ti T_Bad) v10) fun c =>
 bindS (stV s_1 (.val (.vp s.locs.length 0)) c) fun s_2 =>
 bind1 (ldV (C.ti T_Bad) false s_2 (.val (.vp s.locs.length 0))) fun v => some (.ret v, s_2)) (
 back (cal cw true (tgtV (.val a1) []) s_1) fun v12 s_3 =>
 bind1 (binS (C.ti T_int) .gtr v12 (.val (.int .i64 100))) fun v13 =>
 condS v13 (
 bind1 (buildS (C.ti T_Bad).zero [(0, (C.ti T_Errno).size, (.val (.int .i64 7)))]) fun v14 =>
 bindL (boxCells (C.ti T_Bad) v14) fun c_1 =>
 bindS (stV s_3 (.val (.vp s.locs.length 0)) c_1) fun s_4 =>
 bind1 (ldV (C.ti T_Bad) false s_4 (.val (.vp s.locs.length 0))) fun v => some (.ret v, s_4)) (
 rangeC C cw (.val a0) s_3.locs.length (St.addLoc s_3 (tree_right_r0 ((.val (.vp s.locs.length 0))))) fun s_11 =>
 endX s_3.locs.length s_11 (fun s_12 =>
 bind1 (buildS (C.ti T_Bad).zero []) fun v23 =>
 bindL (boxCells (C.ti T_Bad) v23) fun c_5 =>
 bindS (stV s_12 (.val (.vp s.locs.length 0)) c_5) fun s_15 =>
 bind1 (ldV (C.ti T_Bad) false s_15 (.val (.vp s.locs.length 0))) fun v => some (.ret v, s_15)) (fun s_13 =>
 bind1 (ldV (C.ti T_Bad) false s_13 (.val (.vp s.locs.length 0))) fun v => some (.ret v, s_13)) (fun j s_14 =>
 bif Nat.beq j 0 then (
 bind1 (buildS (C.ti T_Bad).zero []) fun v23_1 =>
 bindL (boxCells (C.ti T_Bad) v23_1) fun c_6 =>
 bindS (stV s_14 (.val (.vp s.locs.length 0)) c_6) fun s_16 =>
 bind1 (ldV (C.ti T_Bad) false s_16 (.val (.vp s.locs.length 0))) fun v => some (.ret v, s_16)) else (
(none : Res))))) := (callw_f _ _ _).trans (by kernel_rfl)

/- 28 camlet/tree.program -/
theorem tree_program_eq (a0 : AV) (s : St) : cw (.f F_tree_program) [a0] s =
 bindL (boxCells (C.ti T_S_Dec) (.val a0)) fun c1 =>
 bindA (avs c1) fun l1 =>
 bind1 (fnS F_tree_program_1 [(.val (.cp l1))]) fun v3 =>
 some (.ret v3, s) := (callw_f _ _ _).trans (by kernel_rfl)

/- 29 camlet/tree.Right$1 -/
theorem tree_Right_1_eq (a0 : AV) (s : St) : cw (.f F_tree_Right_1) [a0] s =
 bind1 (ldV (C.ti T_S_Dec) false s (.val a0)) fun v2 =>
 back (cal cw true (tgtV (.val (.fn F_tree_deepDecs [])) [v2]) s) fun v3 s_1 =>
 some (.ret v3, s_1) := (callw_f _ _ _).trans (by kernel_rfl)

/- 30 camlet/tree.deepDecs -/
noncomputable def tree_deepDecs_l2 : Slot → Slot → Slot → Slot → Slot → Slot → Slot → Slot → St → Res := fun x3_2 x6_1 x11_2 x12_2 x13_2 x35 x36 x37 s => loopR C false F_tree_deepDecs [.seqR, .seqR, .seqL, .seqR, .block, .loop, .seqR, .seqR, .seqL, .block, .seqR, .seqR, .seqR, .seqL, .seqR, .block] (body Go.Proofs.Try.f30) [(3, .s x3_2), (6, .s x6_1), (11, .s x11_2), (12, .s x12_2), (13, .s x13_2), (35, .s x35), (36, .s x36), (37, .s x37)] s (ctxR C false F_tree_deepDecs [.seqR, .seqR, .seqL, .seqR, .block, .loop, .seqR, .seqR, .seqL, .block, .seqR, .seqR, .seqR, .seqL, .seqR, .block] (body Go.Proofs.Try.f30) (outK C (Go.Proofs.Try.f30).results.toList))
noncomputable def tree_deepDecs_l1 : Slot → List Slot → Slot → Slot → Slot → Slot → Slot → Slot → Slot → St → Res := fun x3_1 x5 x6 x11_1 x12_1 x13_1 x21 x22 x23 s => loopR C false F_tree_deepDecs [.seqR, .seqR, .seqL, .seqR, .block, .loop, .seqR, .seqR, .seqL, .block, .seqR, .seqR, .seqL, .seqR, .block] (body Go.Proofs.Try.f30) [(3, .s x3_1), (5, .var x5), (6, .s x6), (11, .s x11_1), (12, .s x12_1), (13, .s x13_1), (21, .s x21), (22, .s x22), (23, .s x23)] s (ctxR C false F_tree_deepDecs [.seqR, .seqR, .seqL, .seqR, .block, .loop, .seqR, .seqR, .seqL, .block, .seqR, .seqR, .seqL, .seqR, .block] (body Go.Proofs.Try.f30) (outK C (Go.Proofs.Try.f30).results.toList))
noncomputable def tree_deepDecs_l0 : Slot → Slot → Slot → Slot → St → Res := fun x3 x11 x12 x13 s => loopR C false F_tree_deepDecs [.seqR, .seqR, .seqL, .seqR, .block] (body Go.Proofs.Try.f30) [(3, .s x3), (11, .s x11), (12, .s x12), (13, .s x13)] s (ctxR C false F_tree_deepDecs [.seqR, .seqR, .seqL, .seqR, .block] (body Go.Proofs.Try.f30) (outK C (Go.Proofs.Try.f30).results.toList))
theorem tree_deepDecs_l2_eq (x3_2 : Slot) (x6_1 : Slot) (x11_2 : Slot) (x12_2 : Slot) (x13_2 : Slot) (x35 : Slot) (x36 : Slot) (x37 : Slot) (s_5 : St) : tree_deepDecs_l2 x3_2 x6_1 x11_2 x12_2 x13_2 x35 x36 x37 s_5 =
 bind1 (binS (C.ti T_int) .lss x37 x36) fun v38 =>
 condS v38 (
 bind1 (ixS (C.ti T_Con).size x35 x37) fun v39 =>
 bind1 (ldV (C.ti T_Con) false s_5 v39) fun v40 =>
 bindL (boxCells (C.ti T_Con) v40) fun c_2 =>
 bindL (putAt (List.map .val (C.ti T_Con).zero) 0 c_2) fun c10 =>
 bind1 (ofSlots (C.ti T_bool) (List.take (C.ti T_bool).size (List.drop 2 c10))) fun v42 =>
 condS v42 (
 bind1 (ofSlots (C.ti T_Ty) (List.take (C.ti T_Ty).size (List.drop 3 c10))) fun v45 =>
 back (cal cw true (tgtV (.val (.fn F_tree_deepTy [])) [v45]) s_5) fun v46 s_6 =>
 bind1 (max2 x6_1 v46) fun v47 =>
 bind1 (binS (C.ti T_int) .add x37 (.val (.int .i64 1))) fun v48 =>
 tree_deepDecs_l2 (x3_2) (v47) (x11_2) (x12_2) (x13_2) (x35) (x36) (v48) s_6) (
 bind1 (binS (C.ti T_int) .add x37 (.val (.int .i64 1))) fun v48_1 =>
 tree_deepDecs_l2 (x3_2) (x6_1) (x11_2) (x12_2) (x13_2) (x35) (x36) (v48_1) s_5)) (
 bind1 (binS (C.ti T_int) .add x6_1 (.val (.int .i64 1))) fun v51 =>
 bind1 (max2 x3_2 v51) fun v52 =>
 bind1 (binS (C.ti T_int) .add x13_2 (.val (.int .i64 1))) fun v53 =>
 tree_deepDecs_l0 (v52) (x11_2) (x12_2) (v53) s_5) := by unfold tree_deepDecs_l2; exact (loopR_eq _ _ _ _ _ _).trans (by kernel_rfl)
theorem tree_deepDecs_l1_eq (x3_1 : Slot) (x5 : List Slot) (x6 : Slot) (x11_1 : Slot) (x12_1 : Slot) (x13_1 : Slot) (x21 : Slot) (x22 : Slot) (x23 : Slot) (s_3 : St) : tree_deepDecs_l1 x3_1 x5 x6 x11_1 x12_1 x13_1 x21 x22 x23 s_3 =
 bind1 (binS (C.ti T_int) .lss x23 x22) fun v24 =>
 condS v24 (
 bind1 (ixS (C.ti T_Fun).size x21 x23) fun v25 =>
 bind1 (ldV (C.ti T_Fun) false s_3 v25) fun v26 =>
 bindL (boxCells (C.ti T_Fun) v26) fun c_1 =>
 bindL (putAt (List.map .val (C.ti T_Fun).zero) 0 c_1) fun c8 =>
 bind1 (ofSlots (C.ti T_Case) (List.take (C.ti T_Case).size (List.drop 2 c8))) fun v29 =>
 bind1 (bslF (C.ti T_Case).size [v29]) fun v30 =>
 back (cal cw true (tgtV (.val (.fn F_tree_deepCases [])) [v30]) s_3) fun v31 s_4 =>
 bind1 (max2 x6 v31) fun v32 =>
 bind1 (binS (C.ti T_int) .add x23 (.val (.int .i64 1))) fun v33 =>
 tree_deepDecs_l1 (x3_1) (x5) (v32) (x11_1) (x12_1) (x13_1) (x21) (x22) (v33) s_4) (
 bind1 (ofSlots (C.ti T_S_Con) (List.take (C.ti T_S_Con).size (List.drop 4 x5))) fun v35 =>
 bind1 (lenS (C.ti T_S_Con) v35) fun v36 =>
 tree_deepDecs_l2 (x3_1) (x6) (x11_1) (x12_1) (x13_1) (v35) (v36) ((.val (.int .i64 0))) s_3) := by unfold tree_deepDecs_l1; exact (loopR_eq _ _ _ _ _ _).trans (by kernel_rfl)
theorem tree_deepDecs_l0_eq (x3 : Slot) (x11 : Slot) (x12 : Slot) (x13 : Slot) (s_1 : St) : tree_deepDecs_l0 x3 x11 x12 x13 s_1 =
 bind1 (binS (C.ti T_int) .lss x13 x12) fun v14 =>
 condS v14 (
 bind1 (ixS (C.ti T_Dec).size x11 x13) fun v15 =>
 bind1 (ldV (C.ti T_Dec) false s_1 v15) fun v16 =>
 bindL (boxCells (C.ti T_Dec) v16) fun c =>
 bindL (putAt (List.map .val (C.ti T_Dec).zero) 0 c) fun c5 =>
 bind1 (ofSlots (C.ti T_S_Case) (List.take (C.ti T_S_Case).size (List.drop 5 c5))) fun v18 =>
 back (cal cw true (tgtV (.val (.fn F_tree_deepCases [])) [v18]) s_1) fun v19 s_2 =>
 bind1 (ofSlots (C.ti T_S_Fun) (List.take (C.ti T_S_Fun).size (List.drop 6 c5))) fun v21 =>
 bind1 (lenS (C.ti T_S_Fun) v21) fun v22 =>
 tree_deepDecs_l1 (x3) (c5) (v19) (x11) (x12) (x13) (v21) (v22) ((.val (.int .i64 0))) s_2) (
 some (.ret x3, s_1)) := by unfold tree_deepDecs_l0; exact (loopR_eq _ _ _ _ _ _).trans (by kernel_rfl)
theorem tree_deepDecs_eq (a0 : AV) (s : St) : cw (.f F_tree_deepDecs) [a0] s =
 bind1 (lenS (C.ti T_S_Dec) (.val a0)) fun v12 =>
 tree_deepDecs_l0 ((.val (.int .i64 0))) ((.val a0)) (v12) ((.val (.int .i64 0))) s := (callw_f _ _ _).trans (by kernel_rfl)

/- 31 camlet/camletref05.first -/
noncomputable def ref05_first_j0 : Slot → List Slot → Slot → Slot → Slot → St → Res := fun x0_1 x4_1 x5_1 x6 x7 s => pw (run C false F_ref05_first (codeAt [.seqR, .seqR, .seqR, .seqL, .seqR, .block, .loop, .seqR, .seqL, .block, .seqR, .seqR, .thn, .seqR] (body Go.Proofs.Try.f31)) [(0, .s x0_1), (4, .var x4_1), (5, .s x5_1), (6, .s x6), (7, .s x7)] s (ctxR C false F_ref05_first [.seqR, .seqR, .seqR, .seqL, .seqR, .block, .loop, .seqR, .seqL, .block, .seqR, .seqR, .thn, .seqR] (body Go.Proofs.Try.f31) (outK C (Go.Proofs.Try.f31).results.toList)))
noncomputable def ref05_first_l0 : Slot → List Slot → Slot → St → Res := fun x0 x4 x5 s => loopR C false F_ref05_first [.seqR, .seqR, .seqR, .seqL, .seqR, .block] (body Go.Proofs.Try.f31) [(0, .s x0), (4, .var x4), (5, .s x5)] s (ctxR C false F_ref05_first [.seqR, .seqR, .seqR, .seqL, .seqR, .block] (body Go.Proofs.Try.f31) (outK C (Go.Proofs.Try.f31).results.toList))
theorem ref05_first_j0_eq (x0_1 : Slot) (x4_1 : List Slot) (x5_1 : Slot) (x6 : Slot) (x7 : Slot) (s_4 : St) : ref05_first_j0 x0_1 x4_1 x5_1 x6 x7 s_4 =
 bind1 (ixS (C.ti T_ref05_Node).size x0_1 x5_1) fun v36 =>
 bind1 (faV 2 v36) fun v37 =>
 bind1 (ldV (C.ti T_int) false s_4 v37) fun v38 =>
 bind1 (buildS (C.ti T_Bad).zero [(0, (C.ti T_Errno).size, x6), (1, (C.ti T_int).size, v38), (2, (C.ti T_string).size, x7)]) fun v40 =>
 bindL (boxCells (C.ti T_Bad) v40) fun c_2 =>
 bindL (putAt x4_1 0 c_2) fun c4_2 =>
 bind1 (ofSlots (C.ti T_Bad) (List.take (C.ti T_Bad).size c4_2)) fun v => some (.ret v, s_4) := by unfold ref05_first_j0; exact (pw_eq _).trans (by kernel_rfl)
theorem ref05_first_l0_eq (x0 : Slot) (x4 : List Slot) (x5 : Slot) (s_2 : St) : ref05_first_l0 x0 x4 x5 s_2 =
 bind1 (lenS (C.ti T_S_ref05_Node) x0) fun v17 =>
 bind1 (binS (C.ti T_int) .lss x5 v17) fun v18 =>
 condS v18 (
 bind1 (ixS (C.ti T_ref05_Node).size x0 x5) fun v24 =>
 bind1 (ldV (C.ti T_ref05_Node) false s_2 v24) fun v25 =>
 back (cal cw true (tgtV (.val (.fn F_ref05_wrong [])) [v25]) s_2) fun v26 s_3 =>
 bind1 (extractS v26 0) fun v27 =>
 bind1 (extractS v26 1) fun v28 =>
 bind1 (binS (C.ti T_Errno) .neq v27 (.val (.int .i64 0))) fun v30 =>
 condS v30 (
 bind1 (binS (C.ti T_Errno) .neq v27 (.val (.int .i64 8))) fun v32 =>
 condS v32 (
 ref05_first_j0 (x0) (x4) (x5) (v27) ((.val (.str []))) s_3) (
 ref05_first_j0 (x0) (x4) (x5) (v27) (v28) s_3)) (
 bind1 (binS (C.ti T_int) .add x5 (.val (.int .i64 1))) fun v20 =>
 ref05_first_l0 (x0) (x4) (v20) s_3)) (
 bind1 (buildS (C.ti T_Bad).zero []) fun v41 =>
 bindL (boxCells (C.ti T_Bad) v41) fun c_3 =>
 bindL (putAt x4 0 c_3) fun c4_3 =>
 bind1 (ofSlots (C.ti T_Bad) (List.take (C.ti T_Bad).size c4_3)) fun v => some (.ret v, s_2)) := by unfold ref05_first_l0; exact (loopR_eq _ _ _ _ _ _).trans (by kernel_rfl)
theorem ref05_first_eq (a0 : AV) (a1 : AV) (s : St) : cw (.f F_ref05_first) [a0, a1] s =
 back (cal cw true (tgtV (.val (.fn F_ref05_count [])) [(.val a0)]) s) fun v9 s_1 =>
 bind1 (binS (C.ti T_int) .gtr v9 (.val (.int .i64 8192))) fun v10 =>
 condS v10 (
 bind1 (buildS (C.ti T_Bad).zero [(0, (C.ti T_Errno).size, (.val (.int .i64 4)))]) fun v11 =>
 bindL (boxCells (C.ti T_Bad) v11) fun c =>
 bindL (putAt (List.map .val (C.ti T_Bad).zero) 0 c) fun c4 =>
 bind1 (ofSlots (C.ti T_Bad) (List.take (C.ti T_Bad).size c4)) fun v => some (.ret v, s_1)) (
 bind1 (binS (C.ti T_int) .gtr (.val a1) (.val (.int .i64 100))) fun v13 =>
 condS v13 (
 bind1 (buildS (C.ti T_Bad).zero [(0, (C.ti T_Errno).size, (.val (.int .i64 7)))]) fun v14 =>
 bindL (boxCells (C.ti T_Bad) v14) fun c_1 =>
 bindL (putAt (List.map .val (C.ti T_Bad).zero) 0 c_1) fun c4_1 =>
 bind1 (ofSlots (C.ti T_Bad) (List.take (C.ti T_Bad).size c4_1)) fun v => some (.ret v, s_1)) (
 ref05_first_l0 ((.val a0)) ((List.map .val (C.ti T_Bad).zero)) ((.val (.int .i64 0))) s_1)) := (callw_f _ _ _).trans (by kernel_rfl)

/- 32 camlet/camletref05.Deep -/
noncomputable def ref05_Deep_l3 : Slot → Slot → Slot → Slot → Slot → St → Res := fun x0_3 x3_3 x4_3 x5_2 x8 s => loopR C false F_ref05_Deep [.seqR, .seqR, .seqL, .seqR, .block, .loop, .seqR, .seqL, .block, .seqR, .seqR, .seqR, .seqL, .seqR, .block] (body Go.Proofs.Try.f32) [(0, .s x0_3), (3, .s x3_3), (4, .s x4_3), (5, .s x5_2), (8, .s x8)] s (ctxR C false F_ref05_Deep [.seqR, .seqR, .seqL, .seqR, .block, .loop, .seqR, .seqL, .block, .seqR, .seqR, .seqR, .seqL, .seqR, .block] (body Go.Proofs.Try.f32) (outK C (Go.Proofs.Try.f32).results.toList))
noncomputable def ref05_Deep_l2 : Slot → Slot → Slot → Slot → Slot → St → Res := fun x0_2 x3_2 x4_2 x5_1 x7 s => loopR C false F_ref05_Deep [.seqR, .seqR, .seqL, .seqR, .block, .loop, .seqR, .seqL, .block, .seqR, .seqR, .seqL, .seqR, .block] (body Go.Proofs.Try.f32) [(0, .s x0_2), (3, .s x3_2), (4, .s x4_2), (5, .s x5_1), (7, .s x7)] s (ctxR C false F_ref05_Deep [.seqR, .seqR, .seqL, .seqR, .block, .loop, .seqR, .seqL, .block, .seqR, .seqR, .seqL, .seqR, .block] (body Go.Proofs.Try.f32) (outK C (Go.Proofs.Try.f32).results.toList))
noncomputable def ref05_Deep_l1 : Slot → Slot → Slot → Slot → Slot → St → Res := fun x0_1 x3_1 x4_1 x5 x6 s => loopR C false F_ref05_Deep [.seqR, .seqR, .seqL, .seqR, .block, .loop, .seqR, .seqL, .block, .seqR, .seqL, .seqR, .block] (body Go.Proofs.Try.f32) [(0, .s x0_1), (3, .s x3_1), (4, .s x4_1), (5, .s x5), (6, .s x6)] s (ctxR C false F_ref05_Deep [.seqR, .seqR, .seqL, .seqR, .block, .loop, .seqR, .seqL, .block, .seqR, .seqL, .seqR, .block] (body Go.Proofs.Try.f32) (outK C (Go.Proofs.Try.f32).results.toList))
noncomputable def ref05_Deep_l0 : Slot → Slot → Slot → St → Res := fun x0 x3 x4 s => loopR C false F_ref05_Deep [.seqR, .seqR, .seqL, .seqR, .block] (body Go.Proofs.Try.f32) [(0, .s x0), (3, .s x3), (4, .s x4)] s (ctxR C false F_ref05_Deep [.seqR, .seqR, .seqL, .seqR, .block] (body Go.Proofs.Try.f32) (outK C (Go.Proofs.Try.f32).results.toList))
theorem ref05_Deep_l3_eq (x0_3 : Slot) (x3_3 : Slot) (x4_3 : Slot) (x5_2 : Slot) (x8 : Slot) (s_8 : St) : ref05_Deep_l3 x0_3 x3_3 x4_3 x5_2 x8 s_8 =
 bind1 (ixS (C.ti T_Dec).size x0_3 x4_3) fun v84 =>
 bind1 (faV 4 v84) fun v85 =>
 bind1 (ldV (C.ti T_S_Con) false s_8 v85) fun v86 =>
 bind1 (lenS (C.ti T_S_Con) v86) fun v87 =>
 bind1 (binS (C.ti T_int) .lss x8 v87) fun v88 =>
 condS v88 (
 bind1 (ixS (C.ti T_Dec).size x0_3 x4_3) fun v93 =>
 bind1 (faV 4 v93) fun v94 =>
 bind1 (ldV (C.ti T_S_Con) false s_8 v94) fun v95 =>
 bind1 (ixS (C.ti T_Con).size v95 x8) fun v97 =>
 bind1 (faV 2 v97) fun v98 =>
 bind1 (ldV (C.ti T_bool) false s_8 v98) fun v99 =>
 condS v99 (
 bind1 (ixS (C.ti T_Dec).size x0_3 x4_3) fun v103 =>
 bind1 (faV 4 v103) fun v104 =>
 bind1 (ldV (C.ti T_S_Con) false s_8 v104) fun v105 =>
 bind1 (ixS (C.ti T_Con).size v105 x8) fun v107 =>
 bind1 (faV 3 v107) fun v108 =>
 bind1 (ldV (C.ti T_Ty) false s_8 v108) fun v109 =>
 back (cal cw true (tgtV (.val (.fn F_ref05_deepTy [])) [v109]) s_8) fun v110 s_9 =>
 bind1 (max2 x5_2 v110) fun v111 =>
 bind1 (binS (C.ti T_int) .add x8 (.val (.int .i64 1))) fun v90 =>
 ref05_Deep_l3 (x0_3) (x3_3) (x4_3) (v111) (v90) s_9) (
 bind1 (binS (C.ti T_int) .add x8 (.val (.int .i64 1))) fun v90_1 =>
 ref05_Deep_l3 (x0_3) (x3_3) (x4_3) (x5_2) (v90_1) s_8)) (
 bind1 (binS (C.ti T_int) .add x5_2 (.val (.int .i64 1))) fun v114 =>
 bind1 (max2 x3_3 v114) fun v115 =>
 bind1 (binS (C.ti T_int) .add x4_3 (.val (.int .i64 1))) fun v14 =>
 ref05_Deep_l0 (x0_3) (v115) (v14) s_8) := by unfold ref05_Deep_l3; exact (loopR_eq _ _ _ _ _ _).trans (by kernel_rfl)
theorem ref05_Deep_l2_eq (x0_2 : Slot) (x3_2 : Slot) (x4_2 : Slot) (x5_1 : Slot) (x7 : Slot) (s_5 : St) : ref05_Deep_l2 x0_2 x3_2 x4_2 x5_1 x7 s_5 =
 bind1 (ixS (C.ti T_Dec).size x0_2 x4_2) fun v50 =>
 bind1 (faV 6 v50) fun v51 =>
 bind1 (ldV (C.ti T_S_Fun) false s_5 v51) fun v52 =>
 bind1 (lenS (C.ti T_S_Fun) v52) fun v53 =>
 bind1 (binS (C.ti T_int) .lss x7 v53) fun v54 =>
 condS v54 (
 bind1 (ixS (C.ti T_Dec).size x0_2 x4_2) fun v60 =>
 bind1 (faV 6 v60) fun v61 =>
 bind1 (ldV (C.ti T_S_Fun) true s_5 v61) fun v62 =>
 bind1 (ixS (C.ti T_Fun).size v62 x7) fun v64 =>
 bind1 (faV 2 v64) fun v65 =>
 bind1 (faV 0 v65) fun v66 =>
 bind1 (ldV (C.ti T_Pat) true s_5 v66) fun v67 =>
 back (noPan (cal cw true (tgtV (.val (.fn F_ref05_deepPat [])) [v67]) s_5)) fun v68 s_6 =>
 bind1 (ixS (C.ti T_Dec).size x0_2 x4_2) fun v71 =>
 bind1 (faV 6 v71) fun v72 =>
 bind1 (ldV (C.ti T_S_Fun) true s_6 v72) fun v73 =>
 bind1 (ixS (C.ti T_Fun).size v73 x7) fun v75 =>
 bind1 (faV 2 v75) fun v76 =>
 bind1 (faV 5 v76) fun v77 =>
 bind1 (ldV (C.ti T_Exp) true s_6 v77) fun v78 =>
 back (noPan (cal cw true (tgtV (.val (.fn F_ref05_DeepExp [])) [v78]) s_6)) fun v79 s_7 =>
 bind1 (max3 x5_1 v68 v79) fun v80 =>
 bind1 (binS (C.ti T_int) .add x7 (.val (.int .i64 1))) fun v56 =>
 ref05_Deep_l2 (x0_2) (x3_2) (x4_2) (v80) (v56) s_7) (
 ref05_Deep_l3 (x0_2) (x3_2) (x4_2) (x5_1) ((.val (.int .i64 0))) s_5) := by unfold ref05_Deep_l2; exact (loopR_eq _ _ _ _ _ _).trans (by kernel_rfl)
theorem ref05_Deep_l1_eq (x0_1 : Slot) (x3_1 : Slot) (x4_1 : Slot) (x5 : Slot) (x6 : Slot) (s_2 : St) : ref05_Deep_l1 x0_1 x3_1 x4_1 x5 x6 s_2 =
 bind1 (ixS (C.ti T_Dec).size x0_1 x4_1) fun v18 =>
 bind1 (faV 5 v18) fun v19 =>
 bind1 (ldV (C.ti T_S_Case) false s_2 v19) fun v20 =>
 bind1 (lenS (C.ti T_S_Case) v20) fun v21 =>
 bind1 (binS (C.ti T_int) .lss x6 v21) fun v22 =>
 condS v22 (
 bind1 (ixS (C.ti T_Dec).size x0_1 x4_1) fun v28 =>
 bind1 (faV 5 v28) fun v29 =>
 bind1 (ldV (C.ti T_S_Case) true s_2 v29) fun v30 =>
 bind1 (ixS (C.ti T_Case).size v30 x6) fun v32 =>
 bind1 (faV 0 v32) fun v33 =>
 bind1 (ldV (C.ti T_Pat) true s_2 v33) fun v34 =>
 back (noPan (cal cw true (tgtV (.val (.fn F_ref05_deepPat [])) [v34]) s_2)) fun v35 s_3 =>
 bind1 (ixS (C.ti T_Dec).size x0_1 x4_1) fun v38 =>
 bind1 (faV 5 v38) fun v39 =>
 bind1 (ldV (C.ti T_S_Case) true s_3 v39) fun v40 =>
 bind1 (ixS (C.ti T_Case).size v40 x6) fun v42 =>
 bind1 (faV 5 v42) fun v43 =>
 bind1 (ldV (C.ti T_Exp) true s_3 v43) fun v44 =>
 back (noPan (cal cw true (tgtV (.val (.fn F_ref05_DeepExp [])) [v44]) s_3)) fun v45 s_4 =>
 bind1 (max3 x5 v35 v45) fun v46 =>
 bind1 (binS (C.ti T_int) .add x6 (.val (.int .i64 1))) fun v24 =>
 ref05_Deep_l1 (x0_1) (x3_1) (x4_1) (v46) (v24) s_4) (
 ref05_Deep_l2 (x0_1) (x3_1) (x4_1) (x5) ((.val (.int .i64 0))) s_2) := by unfold ref05_Deep_l1; exact (loopR_eq _ _ _ _ _ _).trans (by kernel_rfl)
theorem ref05_Deep_l0_eq (x0 : Slot) (x3 : Slot) (x4 : Slot) (s_1 : St) : ref05_Deep_l0 x0 x3 x4 s_1 =
 bind1 (lenS (C.ti T_S_Dec) x0) fun v11 =>
 bind1 (binS (C.ti T_int) .lss x4 v11) fun v12 =>
 condS v12 (
 ref05_Deep_l1 (x0) (x3) (x4) ((.val (.int .i64 0))) ((.val (.int .i64 0))) s_1) (
 some (.ret x3, s_1)) := by unfold ref05_Deep_l0; exact (loopR_eq _ _ _ _ _ _).trans (by kernel_rfl)
theorem ref05_Deep_eq (a0 : AV) (s : St) : cw (.f F_ref05_Deep) [a0] s =
 ref05_Deep_l0 ((.val a0)) ((.val (.int .i64 0))) ((.val (.int .i64 0))) s := (callw_f _ _ _).trans (by kernel_rfl)

/- 33 camlet/tree.expression -/
theorem tree_expression_eq (a0 : AV) (s : St) : cw (.f F_tree_expression) [a0] s =
 bindL (boxCells (C.ti T_Exp) (.val a0)) fun c1 =>
 bindA (avs c1) fun l1 =>
 bind1 (fnS F_tree_expression_1 [(.val (.cp l1))]) fun v3 =>
 some (.ret v3, s) := (callw_f _ _ _).trans (by kernel_rfl)

/- 34 camlet/tree.RightExp$1 -/
theorem tree_RightExp_1_eq (a0 : AV) (s : St) : cw (.f F_tree_RightExp_1) [a0] s =
 bind1 (ldV (C.ti T_Exp) false s (.val a0)) fun v2 =>
 back (cal cw true (tgtV (.val (.fn F_tree_deepExp [])) [v2]) s) fun v3 s_1 =>
 some (.ret v3, s_1) := (callw_f _ _ _).trans (by kernel_rfl)

/- 35 camlet/tree.deepExp -/
noncomputable def tree_deepExp_l0 : Slot → Slot → Slot → Slot → St → Res := fun x3 x14 x15 x16 s => loopR C false F_tree_deepExp [.seqR, .seqR, .seqL, .seqR, .block] (body Go.Proofs.Try.f35) [(3, .s x3), (14, .s x14), (15, .s x15), (16, .s x16)] s (ctxR C false F_tree_deepExp [.seqR, .seqR, .seqL, .seqR, .block] (body Go.Proofs.Try.f35) (outK C (Go.Proofs.Try.f35).results.toList))
theorem tree_deepExp_l0_eq (x3 : Slot) (x14 : Slot) (x15 : Slot) (x16 : Slot) (s_3 : St) : tree_deepExp_l0 x3 x14 x15 x16 s_3 =
 bind1 (binS (C.ti T_int) .lss x16 x15) fun v17 =>
 condS v17 (
 bind1 (ixS (C.ti T_Exp).size x14 x16) fun v18 =>
 bind1 (ldV (C.ti T_Exp) false s_3 v18) fun v19 =>
 bindL (boxCells (C.ti T_Exp) v19) fun c =>
 bindL (putAt (List.map .val (C.ti T_Exp).zero) 0 c) fun c5 =>
 bind1 (ofSlots (C.ti T_Exp) (List.take (C.ti T_Exp).size c5)) fun v21 =>
 back (cal cw true (tgtV (.val (.fn F_tree_deepExp [])) [v21]) s_3) fun v22 s_4 =>
 bind1 (max2 x3 v22) fun v23 =>
 bind1 (binS (C.ti T_int) .add x16 (.val (.int .i64 1))) fun v24 =>
 tree_deepExp_l0 (v23) (x14) (x15) (v24) s_4) (
 bind1 (binS (C.ti T_int) .add x3 (.val (.int .i64 1))) fun v26 =>
 some (.ret v26, s_3)) := by unfold tree_deepExp_l0; exact (loopR_eq _ _ _ _ _ _).trans (by kernel_rfl)
theorem tree_deepExp_eq (a0 : AV) (s : St) : cw (.f F_tree_deepExp) [a0] s =
 bindL (boxCells (C.ti T_Exp) (.val a0)) fun c1 =>
 bind1 (ofSlots (C.ti T_S_Dec) (List.take (C.ti T_S_Dec).size (List.drop 6 c1))) fun v7 =>
 back (noPan (cal cw true (tgtV (.val (.fn F_tree_deepDecs [])) [v7]) s)) fun v8 s_1 =>
 bind1 (ofSlots (C.ti T_S_Case) (List.take (C.ti T_S_Case).size (List.drop 5 c1))) fun v10 =>
 back (noPan (cal cw true (tgtV (.val (.fn F_tree_deepCases [])) [v10]) s_1)) fun v11 s_2 =>
 bind1 (max2 v8 v11) fun v12 =>
 bind1 (ofSlots (C.ti T_S_Exp) (List.take (C.ti T_S_Exp).size (List.drop 4 c1))) fun v14 =>
 bind1 (lenS (C.ti T_S_Exp) v14) fun v15 =>
 tree_deepExp_l0 (v12) (v14) (v15) ((.val (.int .i64 0))) s_2 := (callw_f _ _ _).trans (by kernel_rfl)

/- 36 camlet/camletref05.OfExp -/
noncomputable def ref05_OfExp_l2 : List Slot → Slot → Slot → St → Res := fun x1_2 x3_2 x6 s => loopR C false F_ref05_OfExp [.seqR, .seqR, .seqR, .seqR, .seqL, .seqR, .block] (body Go.Proofs.Try.f36) [(1, .var x1_2), (3, .s x3_2), (6, .s x6)] s (ctxR C false F_ref05_OfExp [.seqR, .seqR, .seqR, .seqR, .seqL, .seqR, .block] (body Go.Proofs.Try.f36) (outK C (Go.Proofs.Try.f36).results.toList))
noncomputable def ref05_OfExp_l1 : List Slot → Slot → Slot → St → Res := fun x1_1 x3_1 x5 s => loopR C false F_ref05_OfExp [.seqR, .seqR, .seqR, .seqL, .seqR, .block] (body Go.Proofs.Try.f36) [(1, .var x1_1), (3, .s x3_1), (5, .s x5)] s (ctxR C false F_ref05_OfExp [.seqR, .seqR, .seqR, .seqL, .seqR, .block] (body Go.Proofs.Try.f36) (outK C (Go.Proofs.Try.f36).results.toList))
noncomputable def ref05_OfExp_l0 : List Slot → Slot → Slot → St → Res := fun x1 x3 x4 s => loopR C false F_ref05_OfExp [.seqR, .seqR, .seqL, .seqR, .block] (body Go.Proofs.Try.f36) [(1, .var x1), (3, .s x3), (4, .s x4)] s (ctxR C false F_ref05_OfExp [.seqR, .seqR, .seqL, .seqR, .block] (body Go.Proofs.Try.f36) (outK C (Go.Proofs.Try.f36).results.toList))
theorem ref05_OfExp_l2_eq (x1_2 : List Slot) (x3_2 : Slot) (x6 : Slot) (s_7 : St) : ref05_OfExp_l2 x1_2 x3_2 x6 s_7 =
 bind1 (ofSlots (C.ti T_S_Case) (List.take (C.ti T_S_Case).size (List.drop 5 x1_2))) fun v44 =>
 bind1 (lenS (C.ti T_S_Case) v44) fun v45 =>
 bind1 (binS (C.ti T_int) .lss x6 v45) fun v46 =>
 condS v46 (
 bind1 (ofSlots (C.ti T_S_Case) (List.take (C.ti T_S_Case).size (List.drop 5 x1_2))) fun v51 =>
 bind1 (ixS (C.ti T_Case).size v51 x6) fun v53 =>
 bind1 (ldV (C.ti T_Case) false s_7 v53) fun v54 =>
 back (cal cw true (tgtV (.val (.fn F_ref05_OfCase [])) [v54]) s_7) fun v55 s_8 =>
 bind2 (appendS T_ref05_Node (C.ti T_ref05_Node) s_8 x3_2 v55) fun v56 s_9 =>
 bind1 (binS (C.ti T_int) .add x6 (.val (.int .i64 1))) fun v48 =>
 ref05_OfExp_l2 (x1_2) (v56) (v48) s_9) (
 some (.ret x3_2, s_7)) := by unfold ref05_OfExp_l2; exact (loopR_eq _ _ _ _ _ _).trans (by kernel_rfl)
theorem ref05_OfExp_l1_eq (x1_1 : List Slot) (x3_1 : Slot) (x5 : Slot) (s_4 : St) : ref05_OfExp_l1 x1_1 x3_1 x5 s_4 =
 bind1 (ofSlots (C.ti T_S_Exp) (List.take (C.ti T_S_Exp).size (List.drop 4 x1_1))) fun v29 =>
 bind1 (lenS (C.ti T_S_Exp) v29) fun v30 =>
 bind1 (binS (C.ti T_int) .lss x5 v30) fun v31 =>
 condS v31 (
 bind1 (ofSlots (C.ti T_S_Exp) (List.take (C.ti T_S_Exp).size (List.drop 4 x1_1))) fun v36 =>
 bind1 (ixS (C.ti T_Exp).size v36 x5) fun v38 =>
 bind1 (ldV (C.ti T_Exp) false s_4 v38) fun v39 =>
 back (cal cw true (tgtV (.val (.fn F_ref05_OfExp [])) [v39]) s_4) fun v40 s_5 =>
 bind2 (appendS T_ref05_Node (C.ti T_ref05_Node) s_5 x3_1 v40) fun v41 s_6 =>
 bind1 (binS (C.ti T_int) .add x5 (.val (.int .i64 1))) fun v33 =>
 ref05_OfExp_l1 (x1_1) (v41) (v33) s_6) (
 ref05_OfExp_l2 (x1_1) (x3_1) ((.val (.int .i64 0))) s_4) := by unfold ref05_OfExp_l1; exact (loopR_eq _ _ _ _ _ _).trans (by kernel_rfl)
theorem ref05_OfExp_l0_eq (x1 : List Slot) (x3 : Slot) (x4 : Slot) (s_1 : St) : ref05_OfExp_l0 x1 x3 x4 s_1 =
 bind1 (ofSlots (C.ti T_S_Dec) (List.take (C.ti T_S_Dec).size (List.drop 6 x1))) fun v14 =>
 bind1 (lenS (C.ti T_S_Dec) v14) fun v15 =>
 bind1 (binS (C.ti T_int) .lss x4 v15) fun v16 =>
 condS v16 (
 bind1 (ofSlots (C.ti T_S_Dec) (List.take (C.ti T_S_Dec).size (List.drop 6 x1))) fun v21 =>
 bind1 (ixS (C.ti T_Dec).size v21 x4) fun v23 =>
 bind1 (ldV (C.ti T_Dec) false s_1 v23) fun v24 =>
 back (cal cw true (tgtV (.val (.fn F_ref05_OfDec [])) [v24, (.val (.bool true))]) s_1) fun v25 s_2 =>
 bind2 (appendS T_ref05_Node (C.ti T_ref05_Node) s_2 x3 v25) fun v26 s_3 =>
 bind1 (binS (C.ti T_int) .add x4 (.val (.int .i64 1))) fun v18 =>
 ref05_OfExp_l0 (x1) (v26) (v18) s_3) (
 ref05_OfExp_l1 (x1) (x3) ((.val (.int .i64 0))) s_1) := by unfold ref05_OfExp_l0; exact (loopR_eq _ _ _ _ _ _).trans (by kernel_rfl)
theorem ref05_OfExp_eq (a0 : AV) (s : St) : cw (.f F_ref05_OfExp) [a0] s =
 bindL (boxCells (C.ti T_Exp) (.val a0)) fun c1 =>
 bind1 (ofSlots (C.ti T_Exp) (List.take (C.ti T_Exp).size c1)) fun v7 =>
 bind1 (ofSlots (C.ti T_int) (List.take (C.ti T_int).size (List.drop 1 c1))) fun v9 =>
 bind1 (buildS (C.ti T_ref05_Node).zero [(0, (C.ti T_int).size, (.val (.int .i64 2))), (10, (C.ti T_Exp).size, v7), (2, (C.ti T_int).size, v9)]) fun v10 =>
 bind1 (bslF (C.ti T_ref05_Node).size [v10]) fun v11 =>
 ref05_OfExp_l0 (c1) (v11) ((.val (.int .i64 0))) s := (callw_f _ _ _).trans (by kernel_rfl)

/- 37 camlet/camletref05.DeepExp -/
noncomputable def ref05_DeepExp_l1 : List Slot → Slot → Slot → St → Res := fun x1_1 x3_1 x5 s => loopR C false F_ref05_DeepExp [.seqR, .seqR, .seqR, .seqL, .seqR, .block] (body Go.Proofs.Try.f37) [(1, .var x1_1), (3, .s x3_1), (5, .s x5)] s (ctxR C false F_ref05_DeepExp [.seqR, .seqR, .seqR, .seqL, .seqR, .block] (body Go.Proofs.Try.f37) (outK C (Go.Proofs.Try.f37).results.toList))
noncomputable def ref05_DeepExp_l0 : List Slot → Slot → Slot → St → Res := fun x1 x3 x4 s => loopR C false F_ref05_DeepExp [.seqR, .seqR, .seqL, .seqR, .block] (body Go.Proofs.Try.f37) [(1, .var x1), (3, .s x3), (4, .s x4)] s (ctxR C false F_ref05_DeepExp [.seqR, .seqR, .seqL, .seqR, .block] (body Go.Proofs.Try.f37) (outK C (Go.Proofs.Try.f37).results.toList))
theorem ref05_DeepExp_l1_eq (x1_1 : List Slot) (x3_1 : Slot) (x5 : Slot) (s_4 : St) : ref05_DeepExp_l1 x1_1 x3_1 x5 s_4 =
 bind1 (ofSlots (C.ti T_S_Case) (List.take (C.ti T_S_Case).size (List.drop 5 x1_1))) fun v26 =>
 bind1 (lenS (C.ti T_S_Case) v26) fun v27 =>
 bind1 (binS (C.ti T_int) .lss x5 v27) fun v28 =>
 condS v28 (
 bind1 (ofSlots (C.ti T_S_Case) (List.take (C.ti T_S_Case).size (List.drop 5 x1_1))) fun v33 =>
 bind1 (ixS (C.ti T_Case).size v33 x5) fun v35 =>
 bind1 (faV 0 v35) fun v36 =>
 bind1 (ldV (C.ti T_Pat) true s_4 v36) fun v37 =>
 back (noPan (cal cw true (tgtV (.val (.fn F_ref05_deepPat [])) [v37]) s_4)) fun v38 s_5 =>
 bind1 (ofSlots (C.ti T_S_Case) (List.take (C.ti T_S_Case).size (List.drop 5 x1_1))) fun v40 =>
 bind1 (ixS (C.ti T_Case).size v40 x5) fun v42 =>
 bind1 (faV 5 v42) fun v43 =>
 bind1 (ldV (C.ti T_Exp) true s_5 v43) fun v44 =>
 back (noPan (cal cw true (tgtV (.val (.fn F_ref05_DeepExp [])) [v44]) s_5)) fun v45 s_6 =>
 bind1 (max3 x3_1 v38 v45) fun v46 =>
 bind1 (binS (C.ti T_int) .add x5 (.val (.int .i64 1))) fun v30 =>
 ref05_DeepExp_l1 (x1_1) (v46) (v30) s_6) (
 bind1 (binS (C.ti T_int) .add x3_1 (.val (.int .i64 1))) fun v48 =>
 some (.ret v48, s_4)) := by unfold ref05_DeepExp_l1; exact (loopR_eq _ _ _ _ _ _).trans (by kernel_rfl)
theorem ref05_DeepExp_l0_eq (x1 : List Slot) (x3 : Slot) (x4 : Slot) (s_2 : St) : ref05_DeepExp_l0 x1 x3 x4 s_2 =
 bind1 (ofSlots (C.ti T_S_Exp) (List.take (C.ti T_S_Exp).size (List.drop 4 x1))) fun v11 =>
 bind1 (lenS (C.ti T_S_Exp) v11) fun v12 =>
 bind1 (binS (C.ti T_int) .lss x4 v12) fun v13 =>
 condS v13 (
 bind1 (ofSlots (C.ti T_S_Exp) (List.take (C.ti T_S_Exp).size (List.drop 4 x1))) fun v18 =>
 bind1 (ixS (C.ti T_Exp).size v18 x4) fun v20 =>
 bind1 (ldV (C.ti T_Exp) false s_2 v20) fun v21 =>
 back (cal cw true (tgtV (.val (.fn F_ref05_DeepExp [])) [v21]) s_2) fun v22 s_3 =>
 bind1 (max2 x3 v22) fun v23 =>
 bind1 (binS (C.ti T_int) .add x4 (.val (.int .i64 1))) fun v15 =>
 ref05_DeepExp_l0 (x1) (v23) (v15) s_3) (
 ref05_DeepExp_l1 (x1) (x3) ((.val (.int .i64 0))) s_2) := by unfold ref05_DeepExp_l0; exact (loopR_eq _ _ _ _ _ _).trans (by kernel_rfl)
theorem ref05_DeepExp_eq (a0 : AV) (s : St) : cw (.f F_ref05_DeepExp) [a0] s =
 bindL (boxCells (C.ti T_Exp) (.val a0)) fun c1 =>
 bind1 (ofSlots (C.ti T_S_Dec) (List.take (C.ti T_S_Dec).size (List.drop 6 c1))) fun v7 =>
 back (cal cw true (tgtV (.val (.fn F_ref05_Deep [])) [v7]) s) fun v8 s_1 =>
 ref05_DeepExp_l0 (c1) (v8) ((.val (.int .i64 0))) s_1 := (callw_f _ _ _).trans (by kernel_rfl)

/- 38 camlet/tree.pattern -/
theorem tree_pattern_eq (a0 : AV) (s : St) : cw (.f F_tree_pattern) [a0] s =
 bindL (boxCells (C.ti T_Pat) (.val a0)) fun c1 =>
 bindA (avs c1) fun l1 =>
 bind1 (fnS F_tree_pattern_1 [(.val (.cp l1))]) fun v3 =>
 some (.ret v3, s) := (callw_f _ _ _).trans (by kernel_rfl)

/- 39 camlet/tree.RightPat$1 -/
theorem tree_RightPat_1_eq (a0 : AV) (s : St) : cw (.f F_tree_RightPat_1) [a0] s =
 bind1 (ldV (C.ti T_Pat) false s (.val a0)) fun v2 =>
 back (cal cw true (tgtV (.val (.fn F_tree_deepPat [])) [v2]) s) fun v3 s_1 =>
 some (.ret v3, s_1) := (callw_f _ _ _).trans (by kernel_rfl)

/- 40 camlet/tree.deepPat -/
noncomputable def tree_deepPat_l0 : Slot → Slot → Slot → Slot → St → Res := fun x3 x7 x8 x9 s => loopR C false F_tree_deepPat [.seqR, .seqR, .seqL, .seqR, .block] (body Go.Proofs.Try.f40) [(3, .s x3), (7, .s x7), (8, .s x8), (9, .s x9)] s (ctxR C false F_tree_deepPat [.seqR, .seqR, .seqL, .seqR, .block] (body Go.Proofs.Try.f40) (outK C (Go.Proofs.Try.f40).results.toList))
theorem tree_deepPat_l0_eq (x3 : Slot) (x7 : Slot) (x8 : Slot) (x9 : Slot) (s_1 : St) : tree_deepPat_l0 x3 x7 x8 x9 s_1 =
 bind1 (binS (C.ti T_int) .lss x9 x8) fun v10 =>
 condS v10 (
 bind1 (ixS (C.ti T_Pat).size x7 x9) fun v11 =>
 bind1 (ldV (C.ti T_Pat) false s_1 v11) fun v12 =>
 bindL (boxCells (C.ti T_Pat) v12) fun c =>
 bindL (putAt (List.map .val (C.ti T_Pat).zero) 0 c) fun c5 =>
 bind1 (ofSlots (C.ti T_Pat) (List.take (C.ti T_Pat).size c5)) fun v14 =>
 back (cal cw true (tgtV (.val (.fn F_tree_deepPat [])) [v14]) s_1) fun v15 s_2 =>
 bind1 (max2 x3 v15) fun v16 =>
 bind1 (binS (C.ti T_int) .add x9 (.val (.int .i64 1))) fun v17 =>
 tree_deepPat_l0 (v16) (x7) (x8) (v17) s_2) (
 bind1 (binS (C.ti T_int) .add x3 (.val (.int .i64 1))) fun v19 =>
 some (.ret v19, s_1)) := by unfold tree_deepPat_l0; exact (loopR_eq _ _ _ _ _ _).trans (by kernel_rfl)
theorem tree_deepPat_eq (a0 : AV) (s : St) : cw (.f F_tree_deepPat) [a0] s =
 bindL (boxCells (C.ti T_Pat) (.val a0)) fun c1 =>
 bind1 (ofSlots (C.ti T_S_Pat) (List.take (C.ti T_S_Pat).size (List.drop 4 c1))) fun v7 =>
 bind1 (lenS (C.ti T_S_Pat) v7) fun v8 =>
 tree_deepPat_l0 ((.val (.int .i64 0))) (v7) (v8) ((.val (.int .i64 0))) s := (callw_f _ _ _).trans (by kernel_rfl)

/- 41 camlet/camletref05.OfPat -/
noncomputable def ref05_OfPat_l0 : List Slot → Slot → Slot → St → Res := fun x1 x3 x4 s => loopR C false F_ref05_OfPat [.seqR, .seqR, .seqL, .seqR, .block] (body Go.Proofs.Try.f41) [(1, .var x1), (3, .s x3), (4, .s x4)] s (ctxR C false F_ref05_OfPat [.seqR, .seqR, .seqL, .seqR, .block] (body Go.Proofs.Try.f41) (outK C (Go.Proofs.Try.f41).results.toList))
theorem ref05_OfPat_l0_eq (x1 : List Slot) (x3 : Slot) (x4 : Slot) (s_1 : St) : ref05_OfPat_l0 x1 x3 x4 s_1 =
 bind1 (ofSlots (C.ti T_S_Pat) (List.take (C.ti T_S_Pat).size (List.drop 4 x1))) fun v12 =>
 bind1 (lenS (C.ti T_S_Pat) v12) fun v13 =>
 bind1 (binS (C.ti T_int) .lss x4 v13) fun v14 =>
 condS v14 (
 bind1 (ofSlots (C.ti T_S_Pat) (List.take (C.ti T_S_Pat).size (List.drop 4 x1))) fun v19 =>
 bind1 (ixS (C.ti T_Pat).size v19 x4) fun v21 =>
 bind1 (ldV (C.ti T_Pat) false s_1 v21) fun v22 =>
 back (cal cw true (tgtV (.val (.fn F_ref05_OfPat [])) [v22]) s_1) fun v23 s_2 =>
 bind2 (appendS T_ref05_Node (C.ti T_ref05_Node) s_2 x3 v23) fun v24 s_3 =>
 bind1 (binS (C.ti T_int) .add x4 (.val (.int .i64 1))) fun v16 =>
 ref05_OfPat_l0 (x1) (v24) (v16) s_3) (
 some (.ret x3, s_1)) := by unfold ref05_OfPat_l0; exact (loopR_eq _ _ _ _ _ _).trans (by kernel_rfl)
theorem ref05_OfPat_eq (a0 : AV) (s : St) : cw (.f F_ref05_OfPat) [a0] s =
 bindL (boxCells (C.ti T_Pat) (.val a0)) fun c1 =>
 bind1 (ofSlots (C.ti T_Pat) (List.take (C.ti T_Pat).size c1)) fun v5 =>
 bind1 (ofSlots (C.ti T_int) (List.take (C.ti T_int).size (List.drop 1 c1))) fun v7 =>
 bind1 (buildS (C.ti T_ref05_Node).zero [(0, (C.ti T_int).size, (.val (.int .i64 3))), (17, (C.ti T_Pat).size, v5), (2, (C.ti T_int).size, v7)]) fun v8 =>
 bind1 (bslF (C.ti T_ref05_Node).size [v8]) fun v9 =>
 ref05_OfPat_l0 (c1) (v9) ((.val (.int .i64 0))) s := (callw_f _ _ _).trans (by kernel_rfl)

/- 42 camlet/camletref05.deepPat -/
noncomputable def ref05_deepPat_l0 : List Slot → Slot → Slot → St → Res := fun x1 x3 x4 s => loopR C false F_ref05_deepPat [.seqR, .seqR, .seqL, .seqR, .block] (body Go.Proofs.Try.f42) [(1, .var x1), (3, .s x3), (4, .s x4)] s (ctxR C false F_ref05_deepPat [.seqR, .seqR, .seqL, .seqR, .block] (body Go.Proofs.Try.f42) (outK C (Go.Proofs.Try.f42).results.toList))
theorem ref05_deepPat_l0_eq (x1 : List Slot) (x3 : Slot) (x4 : Slot) (s_1 : St) : ref05_deepPat_l0 x1 x3 x4 s_1 =
 bind1 (ofSlots (C.ti T_S_Pat) (List.take (C.ti T_S_Pat).size (List.drop 4 x1))) fun v7 =>
 bind1 (lenS (C.ti T_S_Pat) v7) fun v8 =>
 bind1 (binS (C.ti T_int) .lss x4 v8) fun v9 =>
 condS v9 (
 bind1 (ofSlots (C.ti T_S_Pat) (List.take (C.ti T_S_Pat).size (List.drop 4 x1))) fun v14 =>
 bind1 (ixS (C.ti T_Pat).size v14 x4) fun v16 =>
 bind1 (ldV (C.ti T_Pat) false s_1 v16) fun v17 =>
 back (cal cw true (tgtV (.val (.fn F_ref05_deepPat [])) [v17]) s_1) fun v18 s_2 =>
 bind1 (max2 x3 v18) fun v19 =>
 bind1 (binS (C.ti T_int) .add x4 (.val (.int .i64 1))) fun v11 =>
 ref05_deepPat_l0 (x1) (v19) (v11) s_2) (
 bind1 (binS (C.ti T_int) .add x3 (.val (.int .i64 1))) fun v21 =>
 some (.ret v21, s_1)) := by unfold ref05_deepPat_l0; exact (loopR_eq _ _ _ _ _ _).trans (by kernel_rfl)
theorem ref05_deepPat_eq (a0 : AV) (s : St) : cw (.f F_ref05_deepPat) [a0] s =
 bindL (boxCells (C.ti T_Pat) (.val a0)) fun c1 =>
 ref05_deepPat_l0 (c1) ((.val (.int .i64 0))) ((.val (.int .i64 0))) s := (callw_f _ _ _).trans (by kernel_rfl)

/- 43 camlet/camletref05.OfDec -/
noncomputable def ref05_OfDec_l2 : List Slot → Slot → Slot → St → Res := fun x2_2 x5_2 x8 s => loopR C false F_ref05_OfDec [.seqR, .seqR, .seqR, .seqR, .seqL, .seqR, .block] (body Go.Proofs.Try.f43) [(2, .var x2_2), (5, .s x5_2), (8, .s x8)] s (ctxR C false F_ref05_OfDec [.seqR, .seqR, .seqR, .seqR, .seqL, .seqR, .block] (body Go.Proofs.Try.f43) (outK C (Go.Proofs.Try.f43).results.toList))
noncomputable def ref05_OfDec_l1 : List Slot → Slot → Slot → St → Res := fun x2_1 x5_1 x7 s => loopR C false F_ref05_OfDec [.seqR, .seqR, .seqR, .seqL, .seqR, .block] (body Go.Proofs.Try.f43) [(2, .var x2_1), (5, .s x5_1), (7, .s x7)] s (ctxR C false F_ref05_OfDec [.seqR, .seqR, .seqR, .seqL, .seqR, .block] (body Go.Proofs.Try.f43) (outK C (Go.Proofs.Try.f43).results.toList))
noncomputable def ref05_OfDec_l0 : List Slot → Slot → Slot → St → Res := fun x2 x5 x6 s => loopR C false F_ref05_OfDec [.seqR, .seqR, .seqL, .seqR, .block] (body Go.Proofs.Try.f43) [(2, .var x2), (5, .s x5), (6, .s x6)] s (ctxR C false F_ref05_OfDec [.seqR, .seqR, .seqL, .seqR, .block] (body Go.Proofs.Try.f43) (outK C (Go.Proofs.Try.f43).results.toList))
theorem ref05_OfDec_l2_eq (x2_2 : List Slot) (x5_2 : Slot) (x8 : Slot) (s_8 : St) : ref05_OfDec_l2 x2_2 x5_2 x8 s_8 =
 bind1 (ofSlots (C.ti T_S_Con) (List.take (C.ti T_S_Con).size (List.drop 4 x2_2))) fun v64 =>
 bind1 (lenS (C.ti T_S_Con) v64) fun v65 =>
 bind1 (binS (C.ti T_int) .lss x8 v65) fun v66 =>
 condS v66 (
 bind1 (ofSlots (C.ti T_S_Con) (List.take (C.ti T_S_Con).size (List.drop 4 x2_2))) fun v70 =>
 bind1 (ixS (C.ti T_Con).size v70 x8) fun v72 =>
 bind1 (ldV (C.ti T_Con) false s_8 v72) fun v73 =>
 bindL (boxCells (C.ti T_Con) v73) fun c =>
 bindL (putAt (List.map .val (C.ti T_Con).zero) 0 c) fun c9 =>
 bind1 (ofSlots (C.ti T_Con) (List.take (C.ti T_Con).size c9)) fun v75 =>
 bind1 (ofSlots (C.ti T_int) (List.take (C.ti T_int).size (List.drop 1 c9))) fun v77 =>
 bind1 (buildS (C.ti T_ref05_Node).zero [(0, (C.ti T_int).size, (.val (.int .i64 6))), (40, (C.ti T_Con).size, v75), (2, (C.ti T_int).size, v77)]) fun v78 =>
 bind1 (bslF (C.ti T_ref05_Node).size [v78]) fun v79 =>
 bind2 (appendS T_ref05_Node (C.ti T_ref05_Node) s_8 x5_2 v79) fun v80 s_9 =>
 bind1 (ofSlots (C.ti T_bool) (List.take (C.ti T_bool).size (List.drop 2 c9))) fun v82 =>
 condS v82 (
 bind1 (ofSlots (C.ti T_Ty) (List.take (C.ti T_Ty).size (List.drop 3 c9))) fun v85 =>
 bind1 (ofSlots (C.ti T_int) (List.take (C.ti T_int).size (List.drop 1 c9))) fun v87 =>
 back (cal cw true (tgtV (.val (.fn F_ref05_OfTy [])) [v85, v87]) s_9) fun v88 s_10 =>
 bind2 (appendS T_ref05_Node (C.ti T_ref05_Node) s_10 v80 v88) fun v89 s_11 =>
 bind1 (binS (C.ti T_int) .add x8 (.val (.int .i64 1))) fun v68 =>
 ref05_OfDec_l2 (x2_2) (v89) (v68) s_11) (
 bind1 (binS (C.ti T_int) .add x8 (.val (.int .i64 1))) fun v68_1 =>
 ref05_OfDec_l2 (x2_2) (v80) (v68_1) s_9)) (
 some (.ret x5_2, s_8)) := by unfold ref05_OfDec_l2; exact (loopR_eq _ _ _ _ _ _).trans (by kernel_rfl)
theorem ref05_OfDec_l1_eq (x2_1 : List Slot) (x5_1 : Slot) (x7 : Slot) (s_4 : St) : ref05_OfDec_l1 x2_1 x5_1 x7 s_4 =
 bind1 (ofSlots (C.ti T_S_Fun) (List.take (C.ti T_S_Fun).size (List.drop 6 x2_1))) fun v33 =>
 bind1 (lenS (C.ti T_S_Fun) v33) fun v34 =>
 bind1 (binS (C.ti T_int) .lss x7 v34) fun v35 =>
 condS v35 (
 bind1 (ofSlots (C.ti T_S_Fun) (List.take (C.ti T_S_Fun).size (List.drop 6 x2_1))) fun v40 =>
 bind1 (ixS (C.ti T_Fun).size v40 x7) fun v42 =>
 bind1 (ldV (C.ti T_Fun) false s_4 v42) fun v43 =>
 bind1 (ofSlots (C.ti T_S_Fun) (List.take (C.ti T_S_Fun).size (List.drop 6 x2_1))) fun v45 =>
 bind1 (ixS (C.ti T_Fun).size v45 x7) fun v47 =>
 bind1 (faV 1 v47) fun v48 =>
 bind1 (ldV (C.ti T_int) false s_4 v48) fun v49 =>
 bind1 (buildS (C.ti T_ref05_Node).zero [(0, (C.ti T_int).size, (.val (.int .i64 5))), (26, (C.ti T_Fun).size, v43), (2, (C.ti T_int).size, v49)]) fun v50 =>
 bind1 (bslF (C.ti T_ref05_Node).size [v50]) fun v51 =>
 bind2 (appendS T_ref05_Node (C.ti T_ref05_Node) s_4 x5_1 v51) fun v52 s_5 =>
 bind1 (ofSlots (C.ti T_S_Fun) (List.take (C.ti T_S_Fun).size (List.drop 6 x2_1))) fun v55 =>
 bind1 (ixS (C.ti T_Fun).size v55 x7) fun v57 =>
 bind1 (faV 2 v57) fun v58 =>
 bind1 (ldV (C.ti T_Case) false s_5 v58) fun v59 =>
 back (cal cw true (tgtV (.val (.fn F_ref05_OfCase [])) [v59]) s_5) fun v60 s_6 =>
 bind2 (appendS T_ref05_Node (C.ti T_ref05_Node) s_6 v52 v60) fun v61 s_7 =>
 bind1 (binS (C.ti T_int) .add x7 (.val (.int .i64 1))) fun v37 =>
 ref05_OfDec_l1 (x2_1) (v61) (v37) s_7) (
 ref05_OfDec_l2 (x2_1) (x5_1) ((.val (.int .i64 0))) s_4) := by unfold ref05_OfDec_l1; exact (loopR_eq _ _ _ _ _ _).trans (by kernel_rfl)
theorem ref05_OfDec_l0_eq (x2 : List Slot) (x5 : Slot) (x6 : Slot) (s_1 : St) : ref05_OfDec_l0 x2 x5 x6 s_1 =
 bind1 (ofSlots (C.ti T_S_Case) (List.take (C.ti T_S_Case).size (List.drop 5 x2))) fun v18 =>
 bind1 (lenS (C.ti T_S_Case) v18) fun v19 =>
 bind1 (binS (C.ti T_int) .lss x6 v19) fun v20 =>
 condS v20 (
 bind1 (ofSlots (C.ti T_S_Case) (List.take (C.ti T_S_Case).size (List.drop 5 x2))) fun v25 =>
 bind1 (ixS (C.ti T_Case).size v25 x6) fun v27 =>
 bind1 (ldV (C.ti T_Case) false s_1 v27) fun v28 =>
 back (cal cw true (tgtV (.val (.fn F_ref05_OfCase [])) [v28]) s_1) fun v29 s_2 =>
 bind2 (appendS T_ref05_Node (C.ti T_ref05_Node) s_2 x5 v29) fun v30 s_3 =>
 bind1 (binS (C.ti T_int) .add x6 (.val (.int .i64 1))) fun v22 =>
 ref05_OfDec_l0 (x2) (v30) (v22) s_3) (
 ref05_OfDec_l1 (x2) (x5) ((.val (.int .i64 0))) s_1) := by unfold ref05_OfDec_l0; exact (loopR_eq _ _ _ _ _ _).trans (by kernel_rfl)
theorem ref05_OfDec_eq (a0 : AV) (a1 : AV) (s : St) : cw (.f F_ref05_OfDec) [a0, a1] s =
 bindL (boxCells (C.ti T_Dec) (.val a0)) fun c2 =>
 bind1 (ofSlots (C.ti T_Dec) (List.take (C.ti T_Dec).size c2)) fun v10 =>
 bind1 (ofSlots (C.ti T_int) (List.take (C.ti T_int).size (List.drop 1 c2))) fun v12 =>
 bind1 (buildS (C.ti T_ref05_Node).zero [(0, (C.ti T_int).size, (.val (.int .i64 1))), (3, (C.ti T_Dec).size, v10), (2, (C.ti T_int).size, v12), (1, (C.ti T_bool).size, (.val a1))]) fun v14 =>
 bind1 (bslF (C.ti T_ref05_Node).size [v14]) fun v15 =>
 ref05_OfDec_l0 (c2) (v15) ((.val (.int .i64 0))) s := (callw_f _ _ _).trans (by kernel_rfl)

/- 44 slices.EqualFunc[[]camlet/api.Dec,[]camlet/api.Dec,camlet/api.Dec,camlet/api.Dec] -/
noncomputable def slices_EqualFunc_SDec_SDec_Dec_Dec_l0 : Slot → Slot → Slot → Slot → Slot → St → Res := fun x1 x2 x15 x16 x17 s => loopR C false F_slices_EqualFunc_SDec_SDec_Dec_Dec [.seqR, .seqR, .seqL, .seqR, .block] (body Go.Proofs.Try.f44) [(1, .s x1), (2, .s x2), (15, .s x15), (16, .s x16), (17, .s x17)] s (ctxR C false F_slices_EqualFunc_SDec_SDec_Dec_Dec [.seqR, .seqR, .seqL, .seqR, .block] (body Go.Proofs.Try.f44) (outK C (Go.Proofs.Try.f44).results.toList))
theorem slices_EqualFunc_SDec_SDec_Dec_Dec_l0_eq (x1 : Slot) (x2 : Slot) (x15 : Slot) (x16 : Slot) (x17 : Slot) (s_1 : St) : slices_EqualFunc_SDec_SDec_Dec_Dec_l0 x1 x2 x15 x16 x17 s_1 =
 bind1 (binS (C.ti T_int) .lss x17 x16) fun v18 =>
 condS v18 (
 bind1 (ixS (C.ti T_Dec).size x15 x17) fun v20 =>
 bind1 (ldV (C.ti T_Dec) false s_1 v20) fun v21 =>
 bindL (boxCells (C.ti T_Dec) v21) fun c =>
 bindL (putAt (List.map .val (C.ti T_Dec).zero) 0 c) fun c8 =>
 bind1 (ixS (C.ti T_Dec).size x1 x17) fun v24 =>
 bind1 (ldV (C.ti T_Dec) false s_1 v24) fun v25 =>
 bindL (boxCells (C.ti T_Dec) v25) fun c_1 =>
 bindL (putAt (List.map .val (C.ti T_Dec).zero) 0 c_1) fun c9 =>
 bind1 (ofSlots (C.ti T_Dec) (List.take (C.ti T_Dec).size c8)) fun v27 =>
 bind1 (ofSlots (C.ti T_Dec) (List.take (C.ti T_Dec).size c9)) fun v28 =>
 back (cal cw true (tgtV x2 [v27, v28]) s_1) fun v29 s_2 =>
 bind1 (unS .not v29) fun v30 =>
 condS v30 (
 some (.ret (.val (.bool false)), s_2)) (
 bind1 (binS (C.ti T_int) .add x17 (.val (.int .i64 1))) fun v31 =>
 slices_EqualFunc_SDec_SDec_Dec_Dec_l0 (x1) (x2) (x15) (x16) (v31) s_2)) (
 some (.ret (.val (.bool true)), s_1)) := by unfold slices_EqualFunc_SDec_SDec_Dec_Dec_l0; exact (loopR_eq _ _ _ _ _ _).trans (by kernel_rfl)
theorem slices_EqualFunc_SDec_SDec_Dec_Dec_eq (a0 : AV) (a1 : AV) (a2 : AV) (s : St) : cw (.f F_slices_EqualFunc_SDec_SDec_Dec_Dec) [a0, a1, a2] s =
 bind1 (lenS (C.ti T_S_Dec) (.val a0)) fun v11 =>
 bind1 (lenS (C.ti T_S_Dec) (.val a1)) fun v13 =>
 bind1 (binS (C.ti T_int) .neq v11 v13) fun v14 =>
 condS v14 (
 some (.ret (.val (.bool false)), s)) (
 bind1 (lenS (C.ti T_S_Dec) (.val a0)) fun v16 =>
 slices_EqualFunc_SDec_SDec_Dec_Dec_l0 ((.val a1)) ((.val a2)) ((.val a0)) (v16) ((.val (.int .i64 0))) s) := (callw_f _ _ _).trans (by kernel_rfl)

/- 45 camlet/tree.sameDec -/
theorem tree_sameDec_eq (a0 : AV) (a1 : AV) (s : St) : cw (.f F_tree_sameDec) [a0, a1] s =
 bindL (boxCells (C.ti T_Dec) (.val a0)) fun c2 =>
 bindL (boxCells (C.ti T_Dec) (.val a1)) fun c3 =>
 bind1 (ofSlots (C.ti T_DecKind) (List.take (C.ti T_DecKind).size (List.drop 0 c2))) fun v6 =>
 bind1 (ofSlots (C.ti T_DecKind) (List.take (C.ti T_DecKind).size (List.drop 0 c3))) fun v8 =>
 bind1 (binS (C.ti T_DecKind) .eql v6 v8) fun v9 =>
 bindB (Slot.isB v9 true) fun w =>
 bindB (Slot.isB v9 true) fun w_1 =>
 bind1 (gd w_1 (bif w then (ofSlots (C.ti T_string) (List.take (C.ti T_string).size (List.drop 2 c2))) else none)) fun v12 =>
 bindB (Slot.isB v9 true) fun w_2 =>
 bindB (Slot.isB v9 true) fun w_3 =>
 bind1 (gd w_3 (bif w_2 then (ofSlots (C.ti T_string) (List.take (C.ti T_string).size (List.drop 2 c3))) else none)) fun v14 =>
 bindB (Slot.isB v9 true) fun w_4 =>
 bind1 (gd w_4 (binS (C.ti T_string) .eql v12 v14)) fun v15 =>
 bind1 (pickS v9 v15 (.val (.bool false))) fun v16 =>
 bindB (Slot.isB v16 true) fun w_5 =>
 bindB (Slot.isB v16 true) fun w_6 =>
 bind1 (gd w_6 (bif w_5 then (ofSlots (C.ti T_int) (List.take (C.ti T_int).size (List.drop 3 c2))) else none)) fun v19 =>
 bindB (Slot.isB v16 true) fun w_7 =>
 bindB (Slot.isB v16 true) fun w_8 =>
 bind1 (gd w_8 (bif w_7 then (ofSlots (C.ti T_int) (List.take (C.ti T_int).size (List.drop 3 c3))) else none)) fun v21 =>
 bindB (Slot.isB v16 true) fun w_9 =>
 bind1 (gd w_9 (binS (C.ti T_int) .eql v19 v21)) fun v22 =>
 bind1 (pickS v16 v22 (.val (.bool false))) fun v23 =>
 bindB (Slot.isB v23 true) fun w_10 =>
 bindB (Slot.isB v23 true) fun w_11 =>
 bind1 (gd w_11 (bif w_10 then (ofSlots (C.ti T_S_Case) (List.take (C.ti T_S_Case).size (List.drop 5 c2))) else none)) fun v26 =>
 bindB (Slot.isB v23 true) fun w_12 =>
 bindB (Slot.isB v23 true) fun w_13 =>
 bind1 (gd w_13 (bif w_12 then (ofSlots (C.ti T_S_Case) (List.take (C.ti T_S_Case).size (List.drop 5 c3))) else none)) fun v28 =>
 bindB (Slot.isB v23 true) fun w_14 =>
 back (cal cw w_14 (tgtV (.val (.fn F_slices_EqualFunc_SCase_SCase_Case_Case [])) [v26, v28, (.val (.fn F_tree_sameCase []))]) s) fun v29 s_1 =>
 bind1 (pickS v23 v29 (.val (.bool false))) fun v30 =>
 bindB (Slot.isB v30 true) fun w_15 =>
 bindB (Slot.isB v30 true) fun w_16 =>
 bind1 (gd w_16 (bif w_15 then (ofSlots (C.ti T_S_Fun) (List.take (C.ti T_S_Fun).size (List.drop 6 c2))) else none)) fun v33 =>
 bindB (Slot.isB v30 true) fun w_17 =>
 bindB (Slot.isB v30 true) fun w_18 =>
 bind1 (gd w_18 (bif w_17 then (ofSlots (C.ti T_S_Fun) (List.take (C.ti T_S_Fun).size (List.drop 6 c3))) else none)) fun v35 =>
 bindB (Slot.isB v30 true) fun w_19 =>
 back (cal cw w_19 (tgtV (.val (.fn F_slices_EqualFunc_SFun_SFun_Fun_Fun [])) [v33, v35, (.val (.fn F_tree_sameFun []))]) s_1) fun v36 s_2 =>
 bind1 (pickS v30 v36 (.val (.bool false))) fun v37 =>
 bindB (Slot.isB v37 true) fun w_20 =>
 bindB (Slot.isB v37 true) fun w_21 =>
 bind1 (gd w_21 (bif w_20 then (ofSlots (C.ti T_S_Con) (List.take (C.ti T_S_Con).size (List.drop 4 c2))) else none)) fun v40 =>
 bindB (Slot.isB v37 true) fun w_22 =>
 bindB (Slot.isB v37 true) fun w_23 =>
 bind1 (gd w_23 (bif w_22 then (ofSlots (C.ti T_S_Con) (List.take (C.ti T_S_Con).size (List.drop 4 c3))) else none)) fun v42 =>
 bindB (Slot.isB v37 true) fun w_24 =>
 back (cal cw w_24 (tgtV (.val (.fn F_slices_EqualFunc_SCon_SCon_Con_Con [])) [v40, v42, (.val (.fn F_tree_sameCon []))]) s_2) fun v43 s_3 =>
 bind1 (pickS v37 v43 (.val (.bool false))) fun v44 =>
 some (.ret v44, s_3) := (callw_f _ _ _).trans (by kernel_rfl)

/- 46 camlet/tree.count -/
noncomputable def tree_count_r0 (x3 : Slot) (x5 : Slot) : Am.Obj := .loop .ready none F_tree_count [(3, .s x3), (5, .s x5)] [8] (rngAsg (codeAt [.seqR, .seqR, .seqL, .seqR, .block] (body Go.Proofs.Try.f46))) (rngBody (codeAt [.seqR, .seqR, .seqL, .seqR, .block] (body Go.Proofs.Try.f46)))
theorem tree_count_r0_eq (x3 : Slot) (x5 : Slot) (y8 : AV) (loc : Nat) (s_2 : St) : yldR C (tree_count_r0 x3 x5) loc [y8] s_2 = noPan (
 bindL (boxCells (C.ti T_thing) (.val y8)) fun c_1 =>
 bindL (putAt (List.map .val (C.ti T_thing).zero) 0 c_1) fun c6 =>
 bindS (beginL loc s_2) fun s_3 =>
 bind1 (ofSlots (C.ti T_thing) (List.take (C.ti T_thing).size c6)) fun v9 =>
 back (cal cw true (tgtV (.val (.fn F_tree_thing_node [])) [v9]) s_3) fun v10 s_4 =>
 condS v10 (
 bind1 (ldV (C.ti T_int) false s_4 x5) fun v11 =>
 bind1 (binS (C.ti T_int) .add v11 (.val (.int .i64 1))) fun v12 =>
 bindL (boxCells (C.ti T_int) v12) fun c_2 =>
 bindS (stV s_4 x5 c_2) fun s_5 =>
 bind1 (ldV (C.ti T_int) false s_5 x5) fun v13 =>
 bind1 (ldV (C.ti T_int) false s_5 x3) fun v14 =>
 bind1 (binS (C.ti T_int) .geq v13 v14) fun v15 =>
 condS v15 (
 bindS (setLoop loc .done (some (.exit 0)) s_5) fun s_6 =>
 some (.ret (.val (.bool false)), s_6)) (
 bindS (setLoop loc .ready none s_5) fun s_7 =>
 some (.ret (.val (.bool true)), s_7))) (
 bind1 (ldV (C.ti T_int) false s_4 x5) fun v13_1 =>
 bind1 (ldV (C.ti T_int) false s_4 x3) fun v14_1 =>
 bind1 (binS (C.ti T_int) .geq v13_1 v14_1) fun v15_1 =>
 condS v15_1 (
 bindS (setLoop loc .done (some (.exit 0)) s_4) fun s_8 =>
 some (.ret (.val (.bool false)), s_8)) (
 bindS (setLoop loc .ready none s_4) fun s_9 =>
 some (.ret (.val (.bool true)), s_9)))) := by kernel_rfl
theorem tree_count_eq (a0 : AV) (a1 : AV) (s : St) : cw (.f F_tree_count) [a0, a1] s =
 bindL (boxCells (C.ti T_int) (.val a1)) fun c3 =>
 bindA (avs c3) fun l3 =>
 bindL (boxCells (C.ti T_int) (.val (.int .i64 0))) fun c =>
 bindS (stV (St.addLoc s (.var (List.map .val (C.ti T_int).zero))) (.val (.vp s.locs.length 0)) c) fun s_1 =>
 rangeC C cw (.val a0) s_1.locs.length (St.addLoc s_1 (tree_count_r0 ((.val (.cp l3))) ((.val (.vp s.locs.length 0))))) fun s_10 =>
 endX s_1.locs.length s_10 (fun s_11 =>
 bind1 (ldV (C.ti T_int) false s_11 (.val (.vp s.locs.length 0))) fun v16 =>
 some (.ret v16, s_11)) (fun s_12 =>
 some (.ret (.val (.int .i64 0)), s_12)) (fun j s_13 =>
 bif Nat.beq j 0 then (
 bind1 (ldV (C.ti T_int) false s_13 (.val (.vp s.locs.length 0))) fun v16_1 =>
 some (.ret v16_1, s_13)) else (
(none : Res))) := (callw_f _ _ _).trans (by kernel_rfl)

/- 47 camlet/camletref05.count -/
noncomputable def ref05_count_l0 : Slot → Slot → Slot → St → Res := fun x0 x3 x4 s => loopR C false F_ref05_count [.seqR, .seqR, .seqL, .seqR, .block] (body Go.Proofs.Try.f47) [(0, .s x0), (3, .s x3), (4, .s x4)] s (ctxR C false F_ref05_count [.seqR, .seqR, .seqL, .seqR, .block] (body Go.Proofs.Try.f47) (outK C (Go.Proofs.Try.f47).results.toList))
theorem ref05_count_l0_eq (x0 : Slot) (x3 : Slot) (x4 : Slot) (s_1 : St) : ref05_count_l0 x0 x3 x4 s_1 =
 bind1 (lenS (C.ti T_S_ref05_Node) x0) fun v7 =>
 bind1 (binS (C.ti T_int) .lss x4 v7) fun v8 =>
 condS v8 (
 bind1 (ixS (C.ti T_ref05_Node).size x0 x4) fun v13 =>
 bind1 (faV 0 v13) fun v14 =>
 bind1 (ldV (C.ti T_int) false s_1 v14) fun v15 =>
 bind1 (binS (C.ti T_int) .leq v15 (.val (.int .i64 4))) fun v16 =>
 condS v16 (
 bind1 (binS (C.ti T_int) .add x3 (.val (.int .i64 1))) fun v18 =>
 bind1 (binS (C.ti T_int) .add x4 (.val (.int .i64 1))) fun v10 =>
 ref05_count_l0 (x0) (v18) (v10) s_1) (
 bind1 (binS (C.ti T_int) .add x4 (.val (.int .i64 1))) fun v10_1 =>
 ref05_count_l0 (x0) (x3) (v10_1) s_1)) (
 some (.ret x3, s_1)) := by unfold ref05_count_l0; exact (loopR_eq _ _ _ _ _ _).trans (by kernel_rfl)
theorem ref05_count_eq (a0 : AV) (s : St) : cw (.f F_ref05_count) [a0] s =
 ref05_count_l0 ((.val a0)) ((.val (.int .i64 0))) ((.val (.int .i64 0))) s := (callw_f _ _ _).trans (by kernel_rfl)

/- 48 camlet/camletref05.sameDec -/
noncomputable def ref05_sameDec_l1 : Slot → List Slot → List Slot → Slot → St → Res := fun x2_1 x3_1 x4_1 x10 s => loopR C false F_ref05_sameDec [.seqR, .seqR, .seqR, .seqL, .seqR, .block] (body Go.Proofs.Try.f48) [(2, .s x2_1), (3, .var x3_1), (4, .var x4_1), (10, .s x10)] s (ctxR C false F_ref05_sameDec [.seqR, .seqR, .seqR, .seqL, .seqR, .block] (body Go.Proofs.Try.f48) (outK C (Go.Proofs.Try.f48).results.toList))
noncomputable def ref05_sameDec_l0 : Slot → List Slot → List Slot → Slot → St → Res := fun x2 x3 x4 x7 s => loopR C false F_ref05_sameDec [.seqR, .seqR, .seqL, .seqR, .block] (body Go.Proofs.Try.f48) [(2, .s x2), (3, .var x3), (4, .var x4), (7, .s x7)] s (ctxR C false F_ref05_sameDec [.seqR, .seqR, .seqL, .seqR, .block] (body Go.Proofs.Try.f48) (outK C (Go.Proofs.Try.f48).results.toList))
theorem ref05_sameDec_l1_eq (x2_1 : Slot) (x3_1 : List Slot) (x4_1 : List Slot) (x10 : Slot) (s_4 : St) : ref05_sameDec_l1 x2_1 x3_1 x4_1 x10 s_4 =
 bind1 (ofSlots (C.ti T_S_Fun) (List.take (C.ti T_S_Fun).size (List.drop 6 x3_1))) fun v118 =>
 bind1 (lenS (C.ti T_S_Fun) v118) fun v119 =>
 bind1 (binS (C.ti T_int) .lss x10 v119) fun v120 =>
 condS v120 (
 bind1 (ofSlots (C.ti T_S_Fun) (List.take (C.ti T_S_Fun).size (List.drop 6 x3_1))) fun v124 =>
 bind1 (ixS (C.ti T_Fun).size v124 x10) fun v126 =>
 bind1 (ldV (C.ti T_Fun) true s_4 v126) fun v127 =>
 bind1 (ofSlots (C.ti T_S_Fun) (List.take (C.ti T_S_Fun).size (List.drop 6 x4_1))) fun v129 =>
 bind1 (ixS (C.ti T_Fun).size v129 x10) fun v131 =>
 bind1 (ldV (C.ti T_Fun) true s_4 v131) fun v132 =>
 bindL (boxCells (C.ti T_Fun) v127) fun c_2 =>
 bindL (putAt (List.map .val (C.ti T_Fun).zero) 0 c_2) fun c11 =>
 bindL (boxCells (C.ti T_Fun) v132) fun c_3 =>
 bindL (putAt (List.map .val (C.ti T_Fun).zero) 0 c_3) fun c12 =>
 bind1 (ofSlots (C.ti T_string) (List.take (C.ti T_string).size (List.drop 0 c11))) fun v134 =>
 bind1 (ofSlots (C.ti T_string) (List.take (C.ti T_string).size (List.drop 0 c12))) fun v136 =>
 bind1 (binS (C.ti T_string) .neq v134 v136) fun v137 =>
 bindB (Slot.isB v137 false) fun w_58 =>
 bindB (Slot.isB v137 false) fun w_59 =>
 bindB (Slot.isB (gdV w_59 (gdV w_58 x2_1)) true) fun w_60 =>
 bindB (Slot.isB (gdV w_59 (gdV w_58 x2_1)) true) fun w_61 =>
 bind1 (gd w_61 (bif w_60 then (ofSlots (C.ti T_int) (List.take (C.ti T_int).size (List.drop 1 c11))) else none)) fun v142 =>
 bindB (Slot.isB (gdV w_59 (gdV w_58 x2_1)) true) fun w_62 =>
 bindB (Slot.isB (gdV w_59 (gdV w_58 x2_1)) true) fun w_63 =>
 bind1 (gd w_63 (bif w_62 then (ofSlots (C.ti T_int) (List.take (C.ti T_int).size (List.drop 1 c12))) else none)) fun v144 =>
 bindB (Slot.isB (gdV w_59 (gdV w_58 x2_1)) true) fun w_64 =>
 bind1 (gd w_64 (binS (C.ti T_int) .neq v142 v144)) fun v145 =>
 bindB (Slot.isB v137 false) fun w_65 =>
 bind1 (gd w_65 (pickS (gdV w_59 (gdV w_58 x2_1)) v145 (.val (.bool false)))) fun v146 =>
 bind1 (pickS v137 (.val (.bool true)) v146) fun v147 =>
 bindB (Slot.isB v147 false) fun w_66 =>
 bindB (Slot.isB v147 false) fun w_67 =>
 bind1 (gd w_67 (bif w_66 then (ofSlots (C.ti T_Case) (List.take (C.ti T_Case).size (List.drop 2 c11))) else none)) fun v150 =>
 bindB (Slot.isB v147 false) fun w_68 =>
 bind1 (gd w_68 (bslF (C.ti T_Case).size [v150])) fun v151 =>
 bindB (Slot.isB v147 false) fun w_69 =>
 bindB (Slot.isB v147 false) fun w_70 =>
 bind1 (gd w_70 (bif w_69 then (ofSlots (C.ti T_Case) (List.take (C.ti T_Case).size (List.drop 2 c12))) else none)) fun v153 =>
 bindB (Slot.isB v147 false) fun w_71 =>
 bind1 (gd w_71 (bslF (C.ti T_Case).size [v153])) fun v154 =>
 bindB (Slot.isB v147 false) fun w_72 =>
 bindB (Slot.isB v147 false) fun w_73 =>
 back (cal cw w_73 (tgtV (.val (.fn F_ref05_sameCases [])) [v151, v154, (gdV w_72 x2_1)]) s_4) fun v156 s_5 =>
 bindB (Slot.isB v147 false) fun w_74 =>
 bind1 (gd w_74 (unS .not v156)) fun v157 =>
 bind1 (pickS v147 (.val (.bool true)) v157) fun v158 =>
 condS v158 (
 some (.ret (.val (.bool false)), s_5)) (
 bind1 (binS (C.ti T_int) .add x10 (.val (.int .i64 1))) fun v122 =>
 ref05_sameDec_l1 (x2_1) (x3_1) (x4_1) (v122) s_5)) (
 some (.ret (.val (.bool true)), s_4)) := by unfold ref05_sameDec_l1; exact (loopR_eq _ _ _ _ _ _).trans (by kernel_rfl)
theorem ref05_sameDec_l0_eq (x2 : Slot) (x3 : List Slot) (x4 : List Slot) (x7 : Slot) (s_2 : St) : ref05_sameDec_l0 x2 x3 x4 x7 s_2 =
 bind1 (ofSlots (C.ti T_S_Con) (List.take (C.ti T_S_Con).size (List.drop 4 x3))) fun v71 =>
 bind1 (lenS (C.ti T_S_Con) v71) fun v72 =>
 bind1 (binS (C.ti T_int) .lss x7 v72) fun v73 =>
 condS v73 (
 bind1 (ofSlots (C.ti T_S_Con) (List.take (C.ti T_S_Con).size (List.drop 4 x3))) fun v77 =>
 bind1 (ixS (C.ti T_Con).size v77 x7) fun v79 =>
 bind1 (ldV (C.ti T_Con) true s_2 v79) fun v80 =>
 bind1 (ofSlots (C.ti T_S_Con) (List.take (C.ti T_S_Con).size (List.drop 4 x4))) fun v82 =>
 bind1 (ixS (C.ti T_Con).size v82 x7) fun v84 =>
 bind1 (ldV (C.ti T_Con) true s_2 v84) fun v85 =>
 bindL (boxCells (C.ti T_Con) v80) fun c =>
 bindL (putAt (List.map .val (C.ti T_Con).zero) 0 c) fun c8 =>
 bindL (boxCells (C.ti T_Con) v85) fun c_1 =>
 bindL (putAt (List.map .val (C.ti T_Con).zero) 0 c_1) fun c9 =>
 bind1 (ofSlots (C.ti T_string) (List.take (C.ti T_string).size (List.drop 0 c8))) fun v87 =>
 bind1 (ofSlots (C.ti T_string) (List.take (C.ti T_string).size (List.drop 0 c9))) fun v89 =>
 bind1 (binS (C.ti T_string) .neq v87 v89) fun v90 =>
 bindB (Slot.isB v90 false) fun w_39 =>
 bindB (Slot.isB v90 false) fun w_40 =>
 bind1 (gd w_40 (bif w_39 then (ofSlots (C.ti T_bool) (List.take (C.ti T_bool).size (List.drop 2 c8))) else none)) fun v93 =>
 bindB (Slot.isB v90 false) fun w_41 =>
 bindB (Slot.isB v90 false) fun w_42 =>
 bind1 (gd w_42 (bif w_41 then (ofSlots (C.ti T_bool) (List.take (C.ti T_bool).size (List.drop 2 c9))) else none)) fun v95 =>
 bindB (Slot.isB v90 false) fun w_43 =>
 bind1 (gd w_43 (binS (C.ti T_bool) .neq v93 v95)) fun v96 =>
 bind1 (pickS v90 (.val (.bool true)) v96) fun v97 =>
 bindB (Slot.isB v97 false) fun w_44 =>
 bindB (Slot.isB v97 false) fun w_45 =>
 bindB (Slot.isB (gdV w_45 (gdV w_44 x2)) true) fun w_46 =>
 bindB (Slot.isB (gdV w_45 (gdV w_44 x2)) true) fun w_47 =>
 bind1 (gd w_47 (bif w_46 then (ofSlots (C.ti T_int) (List.take (C.ti T_int).size (List.drop 1 c8))) else none)) fun v102 =>
 bindB (Slot.isB (gdV w_45 (gdV w_44 x2)) true) fun w_48 =>
 bindB (Slot.isB (gdV w_45 (gdV w_44 x2)) true) fun w_49 =>
 bind1 (gd w_49 (bif w_48 then (ofSlots (C.ti T_int) (List.take (C.ti T_int).size (List.drop 1 c9))) else none)) fun v104 =>
 bindB (Slot.isB (gdV w_45 (gdV w_44 x2)) true) fun w_50 =>
 bind1 (gd w_50 (binS (C.ti T_int) .neq v102 v104)) fun v105 =>
 bindB (Slot.isB v97 false) fun w_51 =>
 bind1 (gd w_51 (pickS (gdV w_45 (gdV w_44 x2)) v105 (.val (.bool false)))) fun v106 =>
 bind1 (pickS v97 (.val (.bool true)) v106) fun v107 =>
 bindB (Slot.isB v107 false) fun w_52 =>
 bindB (Slot.isB v107 false) fun w_53 =>
 bind1 (gd w_53 (bif w_52 then (ofSlots (C.ti T_Ty) (List.take (C.ti T_Ty).size (List.drop 3 c8))) else none)) fun v110 =>
 bindB (Slot.isB v107 false) fun w_54 =>
 bindB (Slot.isB v107 false) fun w_55 =>
 bind1 (gd w_55 (bif w_54 then (ofSlots (C.ti T_Ty) (List.take (C.ti T_Ty).size (List.drop 3 c9))) else none)) fun v112 =>
 bindB (Slot.isB v107 false) fun w_56 =>
 back (cal cw w_56 (tgtV (.val (.fn F_ref05_SameTy [])) [v110, v112]) s_2) fun v113 s_3 =>
 bindB (Slot.isB v107 false) fun w_57 =>
 bind1 (gd w_57 (unS .not v113)) fun v114 =>
 bind1 (pickS v107 (.val (.bool true)) v114) fun v115 =>
 condS v115 (
 some (.ret (.val (.bool false)), s_3)) (
 bind1 (binS (C.ti T_int) .add x7 (.val (.int .i64 1))) fun v75 =>
 ref05_sameDec_l0 (x2) (x3) (x4) (v75) s_3)) (
 ref05_sameDec_l1 (x2) (x3) (x4) ((.val (.int .i64 0))) s_2) := by unfold ref05_sameDec_l0; exact (loopR_eq _ _ _ _ _ _).trans (by kernel_rfl)
theorem ref05_sameDec_eq (a0 : AV) (a1 : AV) (a2 : AV) (s : St) : cw (.f F_ref05_sameDec) [a0, a1, a2] s =
 bindL (boxCells (C.ti T_Dec) (.val a0)) fun c3 =>
 bindL (boxCells (C.ti T_Dec) (.val a1)) fun c4 =>
 bind1 (ofSlots (C.ti T_DecKind) (List.take (C.ti T_DecKind).size (List.drop 0 c3))) fun v14 =>
 bind1 (ofSlots (C.ti T_DecKind) (List.take (C.ti T_DecKind).size (List.drop 0 c4))) fun v16 =>
 bind1 (binS (C.ti T_DecKind) .neq v14 v16) fun v17 =>
 bindB (Slot.isB v17 false) fun w =>
 bindB (Slot.isB v17 false) fun w_1 =>
 bind1 (gd w_1 (bif w then (ofSlots (C.ti T_string) (List.take (C.ti T_string).size (List.drop 2 c3))) else none)) fun v20 =>
 bindB (Slot.isB v17 false) fun w_2 =>
 bindB (Slot.isB v17 false) fun w_3 =>
 bind1 (gd w_3 (bif w_2 then (ofSlots (C.ti T_string) (List.take (C.ti T_string).size (List.drop 2 c4))) else none)) fun v22 =>
 bindB (Slot.isB v17 false) fun w_4 =>
 bind1 (gd w_4 (binS (C.ti T_string) .neq v20 v22)) fun v23 =>
 bind1 (pickS v17 (.val (.bool true)) v23) fun v24 =>
 bindB (Slot.isB v24 false) fun w_5 =>
 bindB (Slot.isB v24 false) fun w_6 =>
 bind1 (gd w_6 (bif w_5 then (ofSlots (C.ti T_int) (List.take (C.ti T_int).size (List.drop 3 c3))) else none)) fun v27 =>
 bindB (Slot.isB v24 false) fun w_7 =>
 bindB (Slot.isB v24 false) fun w_8 =>
 bind1 (gd w_8 (bif w_7 then (ofSlots (C.ti T_int) (List.take (C.ti T_int).size (List.drop 3 c4))) else none)) fun v29 =>
 bindB (Slot.isB v24 false) fun w_9 =>
 bind1 (gd w_9 (binS (C.ti T_int) .neq v27 v29)) fun v30 =>
 bind1 (pickS v24 (.val (.bool true)) v30) fun v31 =>
 bindB (Slot.isB v31 false) fun w_10 =>
 bindB (Slot.isB v31 false) fun w_11 =>
 bindB (Slot.isB (gdV w_11 (gdV w_10 (.val a2))) true) fun w_12 =>
 bindB (Slot.isB (gdV w_11 (gdV w_10 (.val a2))) true) fun w_13 =>
 bind1 (gd w_13 (bif w_12 then (ofSlots (C.ti T_int) (List.take (C.ti T_int).size (List.drop 1 c3))) else none)) fun v36 =>
 bindB (Slot.isB (gdV w_11 (gdV w_10 (.val a2))) true) fun w_14 =>
 bindB (Slot.isB (gdV w_11 (gdV w_10 (.val a2))) true) fun w_15 =>
 bind1 (gd w_15 (bif w_14 then (ofSlots (C.ti T_int) (List.take (C.ti T_int).size (List.drop 1 c4))) else none)) fun v38 =>
 bindB (Slot.isB (gdV w_11 (gdV w_10 (.val a2))) true) fun w_16 =>
 bind1 (gd w_16 (binS (C.ti T_int) .neq v36 v38)) fun v39 =>
 bindB (Slot.isB v31 false) fun w_17 =>
 bind1 (gd w_17 (pickS (gdV w_11 (gdV w_10 (.val a2))) v39 (.val (.bool false)))) fun v40 =>
 bind1 (pickS v31 (.val (.bool true)) v40) fun v41 =>
 bindB (Slot.isB v41 false) fun w_18 =>
 bindB (Slot.isB v41 false) fun w_19 =>
 bind1 (gd w_19 (bif w_18 then (ofSlots (C.ti T_S_Con) (List.take (C.ti T_S_Con).size (List.drop 4 c3))) else none)) fun v44 =>
 bindB (Slot.isB v41 false) fun w_20 =>
 bind1 (gd w_20 (lenS (C.ti T_S_Con) v44)) fun v45 =>
 bindB (Slot.isB v41 false) fun w_21 =>
 bindB (Slot.isB v41 false) fun w_22 =>
 bind1 (gd w_22 (bif w_21 then (ofSlots (C.ti T_S_Con) (List.take (C.ti T_S_Con).size (List.drop 4 c4))) else none)) fun v47 =>
 bindB (Slot.isB v41 false) fun w_23 =>
 bind1 (gd w_23 (lenS (C.ti T_S_Con) v47)) fun v48 =>
 bindB (Slot.isB v41 false) fun w_24 =>
 bind1 (gd w_24 (binS (C.ti T_int) .neq v45 v48)) fun v49 =>
 bind1 (pickS v41 (.val (.bool true)) v49) fun v50 =>
 bindB (Slot.isB v50 false) fun w_25 =>
 bindB (Slot.isB v50 false) fun w_26 =>
 bind1 (gd w_26 (bif w_25 then (ofSlots (C.ti T_S_Fun) (List.take (C.ti T_S_Fun).size (List.drop 6 c3))) else none)) fun v53 =>
 bindB (Slot.isB v50 false) fun w_27 =>
 bind1 (gd w_27 (lenS (C.ti T_S_Fun) v53)) fun v54 =>
 bindB (Slot.isB v50 false) fun w_28 =>
 bindB (Slot.isB v50 false) fun w_29 =>
 bind1 (gd w_29 (bif w_28 then (ofSlots (C.ti T_S_Fun) (List.take (C.ti T_S_Fun).size (List.drop 6 c4))) else none)) fun v56 =>
 bindB (Slot.isB v50 false) fun w_30 =>
 bind1 (gd w_30 (lenS (C.ti T_S_Fun) v56)) fun v57 =>
 bindB (Slot.isB v50 false) fun w_31 =>
 bind1 (gd w_31 (binS (C.ti T_int) .neq v54 v57)) fun v58 =>
 bind1 (pickS v50 (.val (.bool true)) v58) fun v59 =>
 bindB (Slot.isB v59 false) fun w_32 =>
 bindB (Slot.isB v59 false) fun w_33 =>
 bind1 (gd w_33 (bif w_32 then (ofSlots (C.ti T_S_Case) (List.take (C.ti T_S_Case).size (List.drop 5 c3))) else none)) fun v62 =>
 bindB (Slot.isB v59 false) fun w_34 =>
 bindB (Slot.isB v59 false) fun w_35 =>
 bind1 (gd w_35 (bif w_34 then (ofSlots (C.ti T_S_Case) (List.take (C.ti T_S_Case).size (List.drop 5 c4))) else none)) fun v64 =>
 bindB (Slot.isB v59 false) fun w_36 =>
 bindB (Slot.isB v59 false) fun w_37 =>
 back (cal cw w_37 (tgtV (.val (.fn F_ref05_sameCases [])) [v62, v64, (gdV w_36 (.val a2))]) s) fun v66 s_1 =>
 bindB (Slot.isB v59 false) fun w_38 =>
 bind1 (gd w_38 (unS .not v66)) fun v67 =>
 bind1 (pickS v59 (.val (.bool true)) v67) fun v68 =>
 condS v68 (
 some (.ret (.val (.bool false)), s_1)) (
 ref05_sameDec_l0 ((.val a2)) (c3) (c4) ((.val (.int .i64 0))) s_1) := (callw_f _ _ _).trans (by kernel_rfl)

/- 49 camlet/tree.each[camlet/api.Dec] -/
noncomputable def tree_each_Dec_l0 : Slot → Slot → Slot → Slot → Slot → St → Res := fun x1 x5 x8 x9 x10 s => loopR C false F_tree_each_Dec [.seqR, .seqR, .seqL, .seqR, .block] (body Go.Proofs.Try.f49) [(1, .s x1), (5, .s x5), (8, .s x8), (9, .s x9), (10, .s x10)] s (ctxR C false F_tree_each_Dec [.seqR, .seqR, .seqL, .seqR, .block] (body Go.Proofs.Try.f49) (outK C (Go.Proofs.Try.f49).results.toList))
theorem tree_each_Dec_l0_eq (x1 : Slot) (x5 : Slot) (x8 : Slot) (x9 : Slot) (x10 : Slot) (s_1 : St) : tree_each_Dec_l0 x1 x5 x8 x9 x10 s_1 =
 bind1 (binS (C.ti T_int) .lss x10 x9) fun v11 =>
 condS v11 (
 bind1 (ixS (C.ti T_Dec).size x8 x10) fun v12 =>
 bind1 (ldV (C.ti T_Dec) false s_1 v12) fun v13 =>
 bindL (boxCells (C.ti T_Dec) v13) fun c =>
 bindL (putAt (List.map .val (C.ti T_Dec).zero) 0 c) fun c7 =>
 bind1 (ofSlots (C.ti T_Dec) (List.take (C.ti T_Dec).size c7)) fun v16 =>
 back (cal cw true (tgtV x1 [v16]) s_1) fun v17 s_2 =>
 bind1 (bslF (C.ti T_Dec).size [v17]) fun v18 =>
 bind2 (appendS T_Dec (C.ti T_Dec) s_2 x5 v18) fun v19 s_3 =>
 bind1 (binS (C.ti T_int) .add x10 (.val (.int .i64 1))) fun v20 =>
 tree_each_Dec_l0 (x1) (v19) (x8) (x9) (v20) s_3) (
 some (.ret x5, s_1)) := by unfold tree_each_Dec_l0; exact (loopR_eq _ _ _ _ _ _).trans (by kernel_rfl)
theorem tree_each_Dec_eq (a0 : AV) (a1 : AV) (s : St) : cw (.f F_tree_each_Dec) [a0, a1] s =
 bind1 (lenS (C.ti T_S_Dec) (.val a0)) fun v9 =>
 tree_each_Dec_l0 ((.val a1)) ((.val (.nils))) ((.val a0)) (v9) ((.val (.int .i64 0))) s := (callw_f _ _ _).trans (by kernel_rfl)

/- 50 camlet/tree.bareDec -/
theorem tree_bareDec_eq (a0 : AV) (s : St) : cw (.f F_tree_bareDec) [a0] s =
 bindL (boxCells (C.ti T_Dec) (.val a0)) fun c1 =>
 bindL (boxCells (C.ti T_int) (.val (.int .i64 0))) fun c =>
 bindL (putAt c1 1 c) fun c1_1 =>
 bind1 (ofSlots (C.ti T_S_Case) (List.take (C.ti T_S_Case).size (List.drop 5 c1_1))) fun v5 =>
 back (cal cw true (tgtV (.val (.fn F_tree_each_Case [])) [v5, (.val (.fn F_tree_bareCase []))]) s) fun v6 s_1 =>
 bindL (boxCells (C.ti T_S_Case) v6) fun c_1 =>
 bindL (putAt c1_1 5 c_1) fun c1_2 =>
 bind1 (ofSlots (C.ti T_S_Fun) (List.take (C.ti T_S_Fun).size (List.drop 6 c1_2))) fun v9 =>
 back (cal cw true (tgtV (.val (.fn F_tree_each_Fun [])) [v9, (.val (.fn F_tree_bareDec_1 []))]) s_1) fun v10 s_2 =>
 bindL (boxCells (C.ti T_S_Fun) v10) fun c_2 =>
 bindL (putAt c1_2 6 c_2) fun c1_3 =>
 bind1 (ofSlots (C.ti T_S_Con) (List.take (C.ti T_S_Con).size (List.drop 4 c1_3))) fun v13 =>
 back (cal cw true (tgtV (.val (.fn F_tree_each_Con [])) [v13, (.val (.fn F_tree_bareDec_2 []))]) s_2) fun v14 s_3 =>
 bindL (boxCells (C.ti T_S_Con) v14) fun c_3 =>
 bindL (putAt c1_3 4 c_3) fun c1_4 =>
 bind1 (ofSlots (C.ti T_Dec) (List.take (C.ti T_Dec).size c1_4)) fun v16 =>
 bindL (boxCells (C.ti T_Dec) v16) fun c_4 =>
 bindL (putAt (List.map .val (C.ti T_Dec).zero) 0 c_4) fun c2 =>
 bind1 (ofSlots (C.ti T_Dec) (List.take (C.ti T_Dec).size c2)) fun v => some (.ret v, s_3) := (callw_f _ _ _).trans (by kernel_rfl)

/- 51 camlet/camletref05.CopyTy -/
noncomputable def ref05_CopyTy_l0 : List Slot → List Slot → List Slot → Slot → St → Res := fun x1 x2 x3 x4 s => loopR C false F_ref05_CopyTy [.seqR, .seqR, .seqL, .seqR, .block] (body Go.Proofs.Try.f51) [(1, .var x1), (2, .var x2), (3, .var x3), (4, .s x4)] s (ctxR C false F_ref05_CopyTy [.seqR, .seqR, .seqL, .seqR, .block] (body Go.Proofs.Try.f51) (outK C (Go.Proofs.Try.f51).results.toList))
theorem ref05_CopyTy_l0_eq (x1 : List Slot) (x2 : List Slot) (x3 : List Slot) (x4 : Slot) (s_1 : St) : ref05_CopyTy_l0 x1 x2 x3 x4 s_1 =
 bind1 (ofSlots (C.ti T_S_Ty) (List.take (C.ti T_S_Ty).size (List.drop 3 x1))) fun v14 =>
 bind1 (lenS (C.ti T_S_Ty) v14) fun v15 =>
 bind1 (binS (C.ti T_int) .lss x4 v15) fun v16 =>
 condS v16 (
 bind1 (ofSlots (C.ti T_S_Ty) (List.take (C.ti T_S_Ty).size (List.drop 3 x3))) fun v20 =>
 bind1 (ofSlots (C.ti T_S_Ty) (List.take (C.ti T_S_Ty).size (List.drop 3 x1))) fun v22 =>
 bind1 (ixS (C.ti T_Ty).size v22 x4) fun v24 =>
 bind1 (ldV (C.ti T_Ty) true s_1 v24) fun v25 =>
 back (noPan (cal cw true (tgtV (.val (.fn F_ref05_CopyTy [])) [v25]) s_1)) fun v26 s_2 =>
 bind1 (bslF (C.ti T_Ty).size [v26]) fun v27 =>
 bind2 (appendS T_Ty (C.ti T_Ty) s_2 v20 v27) fun v28 s_3 =>
 bindL (boxCells (C.ti T_S_Ty) v28) fun c_1 =>
 bindL (putAt x3 3 c_1) fun c3_1 =>
 bind1 (binS (C.ti T_int) .add x4 (.val (.int .i64 1))) fun v18 =>
 ref05_CopyTy_l0 (x1) (x2) (c3_1) (v18) s_3) (
 bind1 (ofSlots (C.ti T_Ty) (List.take (C.ti T_Ty).size x3)) fun v30 =>
 bindL (boxCells (C.ti T_Ty) v30) fun c_2 =>
 bindL (putAt x2 0 c_2) fun c2 =>
 bind1 (ofSlots (C.ti T_Ty) (List.take (C.ti T_Ty).size c2)) fun v => some (.ret v, s_1)) := by unfold ref05_CopyTy_l0; exact (loopR_eq _ _ _ _ _ _).trans (by kernel_rfl)
theorem ref05_CopyTy_eq (a0 : AV) (s : St) : cw (.f F_ref05_CopyTy) [a0] s =
 bindL (boxCells (C.ti T_Ty) (.val a0)) fun c1 =>
 bind1 (ofSlots (C.ti T_TyKind) (List.take (C.ti T_TyKind).size (List.drop 0 c1))) fun v6 =>
 bind1 (ofSlots (C.ti T_int) (List.take (C.ti T_int).size (List.drop 1 c1))) fun v8 =>
 bind1 (ofSlots (C.ti T_string) (List.take (C.ti T_string).size (List.drop 2 c1))) fun v10 =>
 bind1 (buildS (C.ti T_Ty).zero [(0, (C.ti T_TyKind).size, v6), (1, (C.ti T_int).size, v8), (2, (C.ti T_string).size, v10)]) fun v11 =>
 bindL (boxCells (C.ti T_Ty) v11) fun c =>
 bindL (putAt (List.map .val (C.ti T_Ty).zero) 0 c) fun c3 =>
 ref05_CopyTy_l0 (c1) ((List.map .val (C.ti T_Ty).zero)) (c3) ((.val (.int .i64 0))) s := (callw_f _ _ _).trans (by kernel_rfl)

/- 52 camlet/camletref05.bareCase -/
theorem ref05_bareCase_eq (a0 : AV) (s : St) : cw (.f F_ref05_bareCase) [a0] s =
 bindL (boxCells (C.ti T_Case) (.val a0)) fun c1 =>
 bind1 (ofSlots (C.ti T_Pat) (List.take (C.ti T_Pat).size (List.drop 0 c1))) fun v4 =>
 back (noPan (cal cw true (tgtV (.val (.fn F_ref05_barePat [])) [v4]) s)) fun v5 s_1 =>
 bind1 (ofSlots (C.ti T_Exp) (List.take (C.ti T_Exp).size (List.drop 5 c1))) fun v7 =>
 back (noPan (cal cw true (tgtV (.val (.fn F_ref05_BareExp [])) [v7]) s_1)) fun v8 s_2 =>
 bind1 (buildS (C.ti T_Case).zero [(0, (C.ti T_Pat).size, v5), (5, (C.ti T_Exp).size, v8)]) fun v9 =>
 bindL (boxCells (C.ti T_Case) v9) fun c =>
 bindL (putAt (List.map .val (C.ti T_Case).zero) 0 c) fun c2 =>
 bind1 (ofSlots (C.ti T_Case) (List.take (C.ti T_Case).size c2)) fun v => some (.ret v, s_2) := (callw_f _ _ _).trans (by kernel_rfl)

/- 53 (camlet/tree.thing).wrong -/
noncomputable def tree_thing_wrong_j0 : List Slot → List Slot → Slot → Slot → St → Res := fun x1 x2 x3 x4 s => pw (run C false F_tree_thing_wrong (codeAt [.seqR, .seqR, .seqR, .seqR] (body Go.Proofs.Try.f53)) [(1, .var x1), (2, .var x2), (3, .s x3), (4, .s x4)] s (ctxR C false F_tree_thing_wrong [.seqR, .seqR, .seqR, .seqR] (body Go.Proofs.Try.f53) (outK C (Go.Proofs.Try.f53).results.toList)))
theorem tree_thing_wrong_j0_eq (x1 : List Slot) (x2 : List Slot) (x3 : Slot) (x4 : Slot) (s_2 : St) : tree_thing_wrong_j0 x1 x2 x3 x4 s_2 =
 bind1 (binS (C.ti T_Errno) .eql x3 (.val (.int .i64 0))) fun v82 =>
 condS v82 (
 bind1 (buildS (C.ti T_Bad).zero []) fun v83 =>
 bindL (boxCells (C.ti T_Bad) v83) fun c =>
 bindL (putAt x2 0 c) fun c2 =>
 bind1 (ofSlots (C.ti T_Bad) (List.take (C.ti T_Bad).size c2)) fun v => some (.ret v, s_2)) (
 bind1 (binS (C.ti T_Errno) .neq x3 (.val (.int .i64 8))) fun v86 =>
 condS v86 (
 bind1 (ofSlots (C.ti T_int) (List.take (C.ti T_int).size (List.drop 7 x1))) fun v89 =>
 bind1 (buildS (C.ti T_Bad).zero [(0, (C.ti T_Errno).size, x3), (1, (C.ti T_int).size, v89), (2, (C.ti T_string).size, (.val (.str [])))]) fun v91 =>
 bindL (boxCells (C.ti T_Bad) v91) fun c_1 =>
 bindL (putAt x2 0 c_1) fun c2_1 =>
 bind1 (ofSlots (C.ti T_Bad) (List.take (C.ti T_Bad).size c2_1)) fun v => some (.ret v, s_2)) (
 bind1 (ofSlots (C.ti T_int) (List.take (C.ti T_int).size (List.drop 7 x1))) fun v89_1 =>
 bind1 (buildS (C.ti T_Bad).zero [(0, (C.ti T_Errno).size, x3), (1, (C.ti T_int).size, v89_1), (2, (C.ti T_string).size, x4)]) fun v91_1 =>
 bindL (boxCells (C.ti T_Bad) v91_1) fun c_2 =>
 bindL (putAt x2 0 c_2) fun c2_2 =>
 bind1 (ofSlots (C.ti T_Bad) (List.take (C.ti T_Bad).size c2_2)) fun v => some (.ret v, s_2))) := by unfold tree_thing_wrong_j0; exact (pw_eq _).trans (by kernel_rfl)
theorem tree_thing_wrong_eq (a0 : AV) (s : St) : cw (.f F_tree_thing_wrong) [a0] s =
 bindL (boxCells (C.ti T_thing) (.val a0)) fun c1 =>
 bind1 (ofSlots (C.ti T_P_Dec) (List.take (C.ti T_P_Dec).size (List.drop 0 c1))) fun v17 =>
 bind1 (binS (C.ti T_P_Dec) .neq v17 (.val (.nilp))) fun v18 =>
 condS v18 (
 bind1 (ofSlots (C.ti T_thing) (List.take (C.ti T_thing).size c1)) fun v19 =>
 back (noPan (cal cw true (tgtV (.val (.fn F_tree_thing_wrongDec [])) [v19]) s)) fun v20 s_1 =>
 bind1 (ofSlots (C.ti T_P_Dec) (List.take (C.ti T_P_Dec).size (List.drop 0 c1))) fun v22 =>
 bind1 (nilCheckV v22) fun v23 =>
 bind1 (faV 2 v23) fun v24 =>
 bind1 (ldV (C.ti T_string) true s_1 v24) fun v25 =>
 tree_thing_wrong_j0 (c1) ((List.map .val (C.ti T_Bad).zero)) (v20) (v25) s_1) (
 bind1 (ofSlots (C.ti T_P_Fun) (List.take (C.ti T_P_Fun).size (List.drop 2 c1))) fun v28 =>
 bind1 (binS (C.ti T_P_Fun) .neq v28 (.val (.nilp))) fun v29 =>
 condS v29 (
 bind1 (ofSlots (C.ti T_P_Fun) (List.take (C.ti T_P_Fun).size (List.drop 2 c1))) fun v31 =>
 bind1 (nilCheckV v31) fun v32 =>
 bind1 (faV 0 v32) fun v33 =>
 bind1 (ldV (C.ti T_string) false s v33) fun v34 =>
 back (cal cw true (tgtV (.val (.fn F_tree_low [])) [v34]) s) fun v36 s_3 =>
 bind1 (unS .not v36) fun v37 =>
 condS v37 (
 tree_thing_wrong_j0 (c1) ((List.map .val (C.ti T_Bad).zero)) ((.val (.int .i64 8))) (v34) s_3) (
 tree_thing_wrong_j0 (c1) ((List.map .val (C.ti T_Bad).zero)) ((.val (.int .i64 0))) (v34) s_3)) (
 bind1 (ofSlots (C.ti T_P_Con) (List.take (C.ti T_P_Con).size (List.drop 3 c1))) fun v40 =>
 bind1 (binS (C.ti T_P_Con) .neq v40 (.val (.nilp))) fun v41 =>
 condS v41 (
 bind1 (ofSlots (C.ti T_P_Con) (List.take (C.ti T_P_Con).size (List.drop 3 c1))) fun v43 =>
 bind1 (nilCheckV v43) fun v44 =>
 bind1 (ldV (C.ti T_Con) true s v44) fun v45 =>
 back (noPan (cal cw true (tgtV (.val (.fn F_tree_wrongCon [])) [v45]) s)) fun v46 s_4 =>
 bind1 (ofSlots (C.ti T_P_Con) (List.take (C.ti T_P_Con).size (List.drop 3 c1))) fun v48 =>
 bind1 (nilCheckV v48) fun v49 =>
 bind1 (faV 0 v49) fun v50 =>
 bind1 (ldV (C.ti T_string) true s_4 v50) fun v51 =>
 tree_thing_wrong_j0 (c1) ((List.map .val (C.ti T_Bad).zero)) (v46) (v51) s_4) (
 bind1 (ofSlots (C.ti T_P_Exp) (List.take (C.ti T_P_Exp).size (List.drop 4 c1))) fun v54 =>
 bind1 (binS (C.ti T_P_Exp) .neq v54 (.val (.nilp))) fun v55 =>
 condS v55 (
 bind1 (ofSlots (C.ti T_P_Exp) (List.take (C.ti T_P_Exp).size (List.drop 4 c1))) fun v57 =>
 bind1 (nilCheckV v57) fun v58 =>
 bind1 (ldV (C.ti T_Exp) true s v58) fun v59 =>
 back (noPan (cal cw true (tgtV (.val (.fn F_tree_wrongExp [])) [v59]) s)) fun v60 s_5 =>
 bind1 (ofSlots (C.ti T_P_Exp) (List.take (C.ti T_P_Exp).size (List.drop 4 c1))) fun v62 =>
 bind1 (nilCheckV v62) fun v63 =>
 bind1 (faV 2 v63) fun v64 =>
 bind1 (ldV (C.ti T_string) true s_5 v64) fun v65 =>
 tree_thing_wrong_j0 (c1) ((List.map .val (C.ti T_Bad).zero)) (v60) (v65) s_5) (
 bind1 (ofSlots (C.ti T_P_Pat) (List.take (C.ti T_P_Pat).size (List.drop 5 c1))) fun v68 =>
 bind1 (binS (C.ti T_P_Pat) .neq v68 (.val (.nilp))) fun v69 =>
 condS v69 (
 bind1 (ofSlots (C.ti T_P_Pat) (List.take (C.ti T_P_Pat).size (List.drop 5 c1))) fun v71 =>
 bind1 (nilCheckV v71) fun v72 =>
 bind1 (ldV (C.ti T_Pat) true s v72) fun v73 =>
 back (noPan (cal cw true (tgtV (.val (.fn F_tree_wrongPat [])) [v73]) s)) fun v74 s_6 =>
 bind1 (ofSlots (C.ti T_P_Pat) (List.take (C.ti T_P_Pat).size (List.drop 5 c1))) fun v76 =>
 bind1 (nilCheckV v76) fun v77 =>
 bind1 (faV 2 v77) fun v78 =>
 bind1 (ldV (C.ti T_string) true s_6 v78) fun v79 =>
 tree_thing_wrong_j0 (c1) ((List.map .val (C.ti T_Bad).zero)) (v74) (v79) s_6) (
 bind1 (ofSlots (C.ti T_P_Ty) (List.take (C.ti T_P_Ty).size (List.drop 6 c1))) fun v6 =>
 bind1 (nilCheckV v6) fun v7 =>
 bind1 (ldV (C.ti T_Ty) true s v7) fun v8 =>
 back (noPan (cal cw true (tgtV (.val (.fn F_tree_wrongTy [])) [v8]) s)) fun v9 s_7 =>
 bind1 (ofSlots (C.ti T_P_Ty) (List.take (C.ti T_P_Ty).size (List.drop 6 c1))) fun v11 =>
 bind1 (nilCheckV v11) fun v12 =>
 bind1 (faV 2 v12) fun v13 =>
 bind1 (ldV (C.ti T_string) true s_7 v13) fun v14 =>
 tree_thing_wrong_j0 (c1) ((List.map .val (C.ti T_Bad).zero)) (v9) (v14) s_7))))) := (callw_f _ _ _).trans (by kernel_rfl)

/- 54 camlet/tree.program$1 -/
theorem tree_program_1_eq (a0 : AV) (a1 : AV) (s : St) : cw (.f F_tree_program_1) [a0, a1] s =
 bind1 (buildS (C.ti T_walker).zero [(0, (C.ti T_98).size, (.val a0))]) fun v4 =>
 bind1 (ldV (C.ti T_S_Dec) false s (.val a1)) fun v5 =>
 back (cal cw true (tgtV (.val (.fn F_tree_walker_decs [])) [v4, v5, (.val (.bool false))]) s) fun v6 s_1 =>
 bind1 (tupS []) fun v => some (.ret v, s_1) := (callw_f _ _ _).trans (by kernel_rfl)

/- 55 (camlet/tree.walker).decs -/
noncomputable def tree_walker_decs_l2 : Slot → Slot → List Slot → Slot → Slot → Slot → Slot → Slot → St → Res := fun x1_2 x2_2 x3_2 x8_1 x14_2 x15_2 x80 x81 s => loopR C false F_tree_walker_decs [.seqR, .seqL, .seqR, .block, .loop, .seqR, .seqR, .seqL, .block, .seqR, .seqR, .seqR, .seqR, .seqR, .block] (body Go.Proofs.Try.f55) [(1, .s x1_2), (2, .s x2_2), (3, .var x3_2), (8, .s x8_1), (14, .s x14_2), (15, .s x15_2), (80, .s x80), (81, .s x81)] s (ctxR C false F_tree_walker_decs [.seqR, .seqL, .seqR, .block, .loop, .seqR, .seqR, .seqL, .block, .seqR, .seqR, .seqR, .seqR, .seqR, .block] (body Go.Proofs.Try.f55) (outK C (Go.Proofs.Try.f55).results.toList))
noncomputable def tree_walker_decs_l1 : Slot → Slot → List Slot → Slot → Slot → Slot → Slot → Slot → St → Res := fun x1_1 x2_1 x3_1 x8 x14_1 x15_1 x45 x46 s => loopR C false F_tree_walker_decs [.seqR, .seqL, .seqR, .block, .loop, .seqR, .seqR, .seqL, .block, .seqR, .seqR, .seqR, .seqL, .seqR, .block] (body Go.Proofs.Try.f55) [(1, .s x1_1), (2, .s x2_1), (3, .var x3_1), (8, .s x8), (14, .s x14_1), (15, .s x15_1), (45, .s x45), (46, .s x46)] s (ctxR C false F_tree_walker_decs [.seqR, .seqL, .seqR, .block, .loop, .seqR, .seqR, .seqL, .block, .seqR, .seqR, .seqR, .seqL, .seqR, .block] (body Go.Proofs.Try.f55) (outK C (Go.Proofs.Try.f55).results.toList))
noncomputable def tree_walker_decs_l0 : Slot → Slot → List Slot → Slot → Slot → St → Res := fun x1 x2 x3 x14 x15 s => loopR C false F_tree_walker_decs [.seqR, .seqL, .seqR, .block] (body Go.Proofs.Try.f55) [(1, .s x1), (2, .s x2), (3, .var x3), (14, .s x14), (15, .s x15)] s (ctxR C false F_tree_walker_decs [.seqR, .seqL, .seqR, .block] (body Go.Proofs.Try.f55) (outK C (Go.Proofs.Try.f55).results.toList))
theorem tree_walker_decs_l2_eq (x1_2 : Slot) (x2_2 : Slot) (x3_2 : List Slot) (x8_1 : Slot) (x14_2 : Slot) (x15_2 : Slot) (x80 : Slot) (x81 : Slot) (s_7 : St) : tree_walker_decs_l2 x1_2 x2_2 x3_2 x8_1 x14_2 x15_2 x80 x81 s_7 =
 bind1 (binS (C.ti T_int) .lss x81 x80) fun v82 =>
 condS v82 (
 bind1 (nilCheckV x8_1) fun v85 =>
 bind1 (faV 4 v85) fun v86 =>
 bind1 (ldV (C.ti T_S_Con) false s_7 v86) fun v87 =>
 bind1 (ixS (C.ti T_Con).size v87 x81) fun v89 =>
 bind1 (ofSlots (C.ti T_98) (List.take (C.ti T_98).size (List.drop 0 x3_2))) fun v91 =>
 bind1 (nilCheckV v89) fun v94 =>
 bind1 (faV 1 v94) fun v95 =>
 bind1 (ldV (C.ti T_int) false s_7 v95) fun v96 =>
 bind1 (buildS (C.ti T_thing).zero [(3, (C.ti T_P_Con).size, v89), (7, (C.ti T_int).size, v96)]) fun v97 =>
 back (noPan (cal cw true (tgtV v91 [v97]) s_7)) fun v98 s_8 =>
 bind1 (unS .not v98) fun v99 =>
 bindB (Slot.isB v99 false) fun w_15 =>
 bindB (Slot.isB v99 false) fun w_16 =>
 bind1 (gd w_16 (nilCheckV (gdV w_15 v89))) fun v102 =>
 bindB (Slot.isB v99 false) fun w_17 =>
 bind1 (gd w_17 (faV 2 v102)) fun v103 =>
 bindB (Slot.isB v99 false) fun w_18 =>
 bind1 (gd w_18 (ldV (C.ti T_bool) false s_8 v103)) fun v104 =>
 bindB (Slot.isB v99 false) fun w_19 =>
 bindB (Slot.isB (gdV w_19 v104) true) fun w_20 =>
 bind1 (gd w_20 (ofSlots (C.ti T_walker) (List.take (C.ti T_walker).size x3_2))) fun v106 =>
 bindB (Slot.isB (gdV w_19 v104) true) fun w_21 =>
 bindB (Slot.isB (gdV w_19 v104) true) fun w_22 =>
 bind1 (gd w_22 (nilCheckV (gdV w_21 v89))) fun v108 =>
 bindB (Slot.isB (gdV w_19 v104) true) fun w_23 =>
 bind1 (gd w_23 (faV 3 v108)) fun v109 =>
 bindB (Slot.isB (gdV w_19 v104) true) fun w_24 =>
 bindB (Slot.isB (gdV w_19 v104) true) fun w_25 =>
 bind1 (gd w_25 (nilCheckV (gdV w_24 v89))) fun v111 =>
 bindB (Slot.isB (gdV w_19 v104) true) fun w_26 =>
 bind1 (gd w_26 (faV 1 v111)) fun v112 =>
 bindB (Slot.isB (gdV w_19 v104) true) fun w_27 =>
 bind1 (gd w_27 (ldV (C.ti T_int) false s_8 v112)) fun v113 =>
 bindB (Slot.isB (gdV w_19 v104) true) fun w_28 =>
 back (noPan (cal cw w_28 (tgtV (.val (.fn F_tree_walker_types [])) [v106, v109, v113]) s_8)) fun v114 s_9 =>
 bindB (Slot.isB (gdV w_19 v104) true) fun w_29 =>
 bind1 (gd w_29 (unS .not v114)) fun v115 =>
 bindB (Slot.isB v99 false) fun w_30 =>
 bind1 (gd w_30 (pickS (gdV w_19 v104) v115 (.val (.bool false)))) fun v116 =>
 bind1 (pickS v99 (.val (.bool true)) v116) fun v117 =>
 condS v117 (
 some (.ret (.val (.bool false)), s_9)) (
 bind1 (binS (C.ti T_int) .add x81 (.val (.int .i64 1))) fun v118 =>
 tree_walker_decs_l2 (x1_2) (x2_2) (x3_2) (x8_1) (x14_2) (x15_2) (x80) (v118) s_9)) (
 bind1 (binS (C.ti T_int) .add x15_2 (.val (.int .i64 1))) fun v119 =>
 tree_walker_decs_l0 (x1_2) (x2_2) (x3_2) (x14_2) (v119) s_7) := by unfold tree_walker_decs_l2; exact (loopR_eq _ _ _ _ _ _).trans (by kernel_rfl)
theorem tree_walker_decs_l1_eq (x1_1 : Slot) (x2_1 : Slot) (x3_1 : List Slot) (x8 : Slot) (x14_1 : Slot) (x15_1 : Slot) (x45 : Slot) (x46 : Slot) (s_4 : St) : tree_walker_decs_l1 x1_1 x2_1 x3_1 x8 x14_1 x15_1 x45 x46 s_4 =
 bind1 (binS (C.ti T_int) .lss x46 x45) fun v47 =>
 condS v47 (
 bind1 (nilCheckV x8) fun v50 =>
 bind1 (faV 6 v50) fun v51 =>
 bind1 (ldV (C.ti T_S_Fun) false s_4 v51) fun v52 =>
 bind1 (ixS (C.ti T_Fun).size v52 x46) fun v54 =>
 bind1 (ofSlots (C.ti T_98) (List.take (C.ti T_98).size (List.drop 0 x3_1))) fun v56 =>
 bind1 (nilCheckV v54) fun v59 =>
 bind1 (faV 1 v59) fun v60 =>
 bind1 (ldV (C.ti T_int) false s_4 v60) fun v61 =>
 bind1 (buildS (C.ti T_thing).zero [(2, (C.ti T_P_Fun).size, v54), (7, (C.ti T_int).size, v61)]) fun v62 =>
 back (noPan (cal cw true (tgtV v56 [v62]) s_4)) fun v63 s_5 =>
 bind1 (unS .not v63) fun v64 =>
 bindB (Slot.isB v64 false) fun w_7 =>
 bind1 (gd w_7 (ofSlots (C.ti T_walker) (List.take (C.ti T_walker).size x3_1))) fun v66 =>
 bindB (Slot.isB v64 false) fun w_8 =>
 bindB (Slot.isB v64 false) fun w_9 =>
 bind1 (gd w_9 (nilCheckV (gdV w_8 v54))) fun v68 =>
 bindB (Slot.isB v64 false) fun w_10 =>
 bind1 (gd w_10 (faV 2 v68)) fun v69 =>
 bindB (Slot.isB v64 false) fun w_11 =>
 bind1 (gd w_11 (ldV (C.ti T_Case) false s_5 v69)) fun v70 =>
 bindB (Slot.isB v64 false) fun w_12 =>
 bind1 (gd w_12 (bslF (C.ti T_Case).size [v70])) fun v71 =>
 bindB (Slot.isB v64 false) fun w_13 =>
 back (noPan (cal cw w_13 (tgtV (.val (.fn F_tree_walker_cases [])) [v66, v71]) s_5)) fun v72 s_6 =>
 bindB (Slot.isB v64 false) fun w_14 =>
 bind1 (gd w_14 (unS .not v72)) fun v73 =>
 bind1 (pickS v64 (.val (.bool true)) v73) fun v74 =>
 condS v74 (
 some (.ret (.val (.bool false)), s_6)) (
 bind1 (binS (C.ti T_int) .add x46 (.val (.int .i64 1))) fun v75 =>
 tree_walker_decs_l1 (x1_1) (x2_1) (x3_1) (x8) (x14_1) (x15_1) (x45) (v75) s_6)) (
 bind1 (nilCheckV x8) fun v77 =>
 bind1 (faV 4 v77) fun v78 =>
 bind1 (ldV (C.ti T_S_Con) false s_4 v78) fun v79 =>
 bind1 (lenS (C.ti T_S_Con) v79) fun v80 =>
 tree_walker_decs_l2 (x1_1) (x2_1) (x3_1) (x8) (x14_1) (x15_1) (v80) ((.val (.int .i64 0))) s_4) := by unfold tree_walker_decs_l1; exact (loopR_eq _ _ _ _ _ _).trans (by kernel_rfl)
theorem tree_walker_decs_l0_eq (x1 : Slot) (x2 : Slot) (x3 : List Slot) (x14 : Slot) (x15 : Slot) (s_1 : St) : tree_walker_decs_l0 x1 x2 x3 x14 x15 s_1 =
 bind1 (binS (C.ti T_int) .lss x15 x14) fun v16 =>
 condS v16 (
 bind1 (ixS (C.ti T_Dec).size x1 x15) fun v20 =>
 bind1 (ofSlots (C.ti T_98) (List.take (C.ti T_98).size (List.drop 0 x3))) fun v22 =>
 bind1 (nilCheckV v20) fun v26 =>
 bind1 (faV 1 v26) fun v27 =>
 bind1 (ldV (C.ti T_int) false s_1 v27) fun v28 =>
 bind1 (buildS (C.ti T_thing).zero [(0, (C.ti T_P_Dec).size, v20), (1, (C.ti T_bool).size, x2), (7, (C.ti T_int).size, v28)]) fun v29 =>
 back (noPan (cal cw true (tgtV v22 [v29]) s_1)) fun v30 s_2 =>
 bind1 (unS .not v30) fun v31 =>
 bindB (Slot.isB v31 false) fun w =>
 bind1 (gd w (ofSlots (C.ti T_walker) (List.take (C.ti T_walker).size x3))) fun v33 =>
 bindB (Slot.isB v31 false) fun w_1 =>
 bindB (Slot.isB v31 false) fun w_2 =>
 bind1 (gd w_2 (nilCheckV (gdV w_1 v20))) fun v35 =>
 bindB (Slot.isB v31 false) fun w_3 =>
 bind1 (gd w_3 (faV 5 v35)) fun v36 =>
 bindB (Slot.isB v31 false) fun w_4 =>
 bind1 (gd w_4 (ldV (C.ti T_S_Case) false s_2 v36)) fun v37 =>
 bindB (Slot.isB v31 false) fun w_5 =>
 back (noPan (cal cw w_5 (tgtV (.val (.fn F_tree_walker_cases [])) [v33, v37]) s_2)) fun v38 s_3 =>
 bindB (Slot.isB v31 false) fun w_6 =>
 bind1 (gd w_6 (unS .not v38)) fun v39 =>
 bind1 (pickS v31 (.val (.bool true)) v39) fun v40 =>
 condS v40 (
 some (.ret (.val (.bool false)), s_3)) (
 bind1 (nilCheckV v20) fun v42 =>
 bind1 (faV 6 v42) fun v43 =>
 bind1 (ldV (C.ti T_S_Fun) false s_3 v43) fun v44 =>
 bind1 (lenS (C.ti T_S_Fun) v44) fun v45 =>
 tree_walker_decs_l1 (x1) (x2) (x3) (v20) (x14) (x15) (v45) ((.val (.int .i64 0))) s_3)) (
 some (.ret (.val (.bool true)), s_1)) := by unfold tree_walker_decs_l0; exact (loopR_eq _ _ _ _ _ _).trans (by kernel_rfl)
theorem tree_walker_decs_eq (a0 : AV) (a1 : AV) (a2 : AV) (s : St) : cw (.f F_tree_walker_decs) [a0, a1, a2] s =
 bindL (boxCells (C.ti T_walker) (.val a0)) fun c3 =>
 bind1 (lenS (C.ti T_S_Dec) (.val a1)) fun v14 =>
 tree_walker_decs_l0 ((.val a1)) ((.val a2)) (c3) (v14) ((.val (.int .i64 0))) s := (callw_f _ _ _).trans (by kernel_rfl)

/- 56 camlet/tree.deepCases -/
noncomputable def tree_deepCases_l0 : Slot → Slot → Slot → Slot → St → Res := fun x3 x6 x7 x8 s => loopR C false F_tree_deepCases [.seqR, .seqR, .seqL, .seqR, .block] (body Go.Proofs.Try.f56) [(3, .s x3), (6, .s x6), (7, .s x7), (8, .s x8)] s (ctxR C false F_tree_deepCases [.seqR, .seqR, .seqL, .seqR, .block] (body Go.Proofs.Try.f56) (outK C (Go.Proofs.Try.f56).results.toList))
theorem tree_deepCases_l0_eq (x3 : Slot) (x6 : Slot) (x7 : Slot) (x8 : Slot) (s_1 : St) : tree_deepCases_l0 x3 x6 x7 x8 s_1 =
 bind1 (binS (C.ti T_int) .lss x8 x7) fun v9 =>
 condS v9 (
 bind1 (ixS (C.ti T_Case).size x6 x8) fun v10 =>
 bind1 (ldV (C.ti T_Case) false s_1 v10) fun v11 =>
 bindL (boxCells (C.ti T_Case) v11) fun c =>
 bindL (putAt (List.map .val (C.ti T_Case).zero) 0 c) fun c5 =>
 bind1 (ofSlots (C.ti T_Pat) (List.take (C.ti T_Pat).size (List.drop 0 c5))) fun v14 =>
 back (noPan (cal cw true (tgtV (.val (.fn F_tree_deepPat [])) [v14]) s_1)) fun v15 s_2 =>
 bind1 (ofSlots (C.ti T_Exp) (List.take (C.ti T_Exp).size (List.drop 5 c5))) fun v17 =>
 back (noPan (cal cw true (tgtV (.val (.fn F_tree_deepExp [])) [v17]) s_2)) fun v18 s_3 =>
 bind1 (max3 x3 v15 v18) fun v19 =>
 bind1 (binS (C.ti T_int) .add x8 (.val (.int .i64 1))) fun v20 =>
 tree_deepCases_l0 (v19) (x6) (x7) (v20) s_3) (
 some (.ret x3, s_1)) := by unfold tree_deepCases_l0; exact (loopR_eq _ _ _ _ _ _).trans (by kernel_rfl)
theorem tree_deepCases_eq (a0 : AV) (s : St) : cw (.f F_tree_deepCases) [a0] s =
 bind1 (lenS (C.ti T_S_Case) (.val a0)) fun v7 =>
 tree_deepCases_l0 ((.val (.int .i64 0))) ((.val a0)) (v7) ((.val (.int .i64 0))) s := (callw_f _ _ _).trans (by kernel_rfl)

/- 57 camlet/tree.deepTy -/
noncomputable def tree_deepTy_l0 : Slot → Slot → Slot → Slot → St → Res := fun x3 x7 x8 x9 s => loopR C false F_tree_deepTy [.seqR, .seqR, .seqL, .seqR, .block] (body Go.Proofs.Try.f57) [(3, .s x3), (7, .s x7), (8, .s x8), (9, .s x9)] s (ctxR C false F_tree_deepTy [.seqR, .seqR, .seqL, .seqR, .block] (body Go.Proofs.Try.f57) (outK C (Go.Proofs.Try.f57).results.toList))
theorem tree_deepTy_l0_eq (x3 : Slot) (x7 : Slot) (x8 : Slot) (x9 : Slot) (s_1 : St) : tree_deepTy_l0 x3 x7 x8 x9 s_1 =
 bind1 (binS (C.ti T_int) .lss x9 x8) fun v10 =>
 condS v10 (
 bind1 (ixS (C.ti T_Ty).size x7 x9) fun v11 =>
 bind1 (ldV (C.ti T_Ty) false s_1 v11) fun v12 =>
 bindL (boxCells (C.ti T_Ty) v12) fun c =>
 bindL (putAt (List.map .val (C.ti T_Ty).zero) 0 c) fun c5 =>
 bind1 (ofSlots (C.ti T_Ty) (List.take (C.ti T_Ty).size c5)) fun v14 =>
 back (cal cw true (tgtV (.val (.fn F_tree_deepTy [])) [v14]) s_1) fun v15 s_2 =>
 bind1 (max2 x3 v15) fun v16 =>
 bind1 (binS (C.ti T_int) .add x9 (.val (.int .i64 1))) fun v17 =>
 tree_deepTy_l0 (v16) (x7) (x8) (v17) s_2) (
 bind1 (binS (C.ti T_int) .add x3 (.val (.int .i64 1))) fun v19 =>
 some (.ret v19, s_1)) := by unfold tree_deepTy_l0; exact (loopR_eq _ _ _ _ _ _).trans (by kernel_rfl)
theorem tree_deepTy_eq (a0 : AV) (s : St) : cw (.f F_tree_deepTy) [a0] s =
 bindL (boxCells (C.ti T_Ty) (.val a0)) fun c1 =>
 bind1 (ofSlots (C.ti T_S_Ty) (List.take (C.ti T_S_Ty).size (List.drop 3 c1))) fun v7 =>
 bind1 (lenS (C.ti T_S_Ty) v7) fun v8 =>
 tree_deepTy_l0 ((.val (.int .i64 0))) (v7) (v8) ((.val (.int .i64 0))) s := (callw_f _ _ _).trans (by kernel_rfl)

/- 58 camlet/camletref05.wrong -/
theorem ref05_wrong_eq (a0 : AV) (s : St) : cw (.f F_ref05_wrong) [a0] s =
 bindL (boxCells (C.ti T_ref05_Node) (.val a0)) fun c1 =>
 bind1 (ofSlots (C.ti T_int) (List.take (C.ti T_int).size (List.drop 0 c1))) fun v5 =>
 bind1 (binS (C.ti T_int) .eql v5 (.val (.int .i64 1))) fun v7 =>
 condS v7 (
 bind1 (ofSlots (C.ti T_Dec) (List.take (C.ti T_Dec).size (List.drop 3 c1))) fun v9 =>
 bind1 (ofSlots (C.ti T_bool) (List.take (C.ti T_bool).size (List.drop 1 c1))) fun v11 =>
 back (noPan (cal cw true (tgtV (.val (.fn F_ref05_dec [])) [v9, v11]) s)) fun v12 s_1 =>
 bind1 (ofSlots (C.ti T_string) (List.take (C.ti T_string).size (List.drop 5 c1))) fun v15 =>
 bind1 (tupS [(some v12), (some v15)]) fun v => some (.ret v, s_1)) (
 bind1 (binS (C.ti T_int) .eql v5 (.val (.int .i64 2))) fun v17 =>
 condS v17 (
 bind1 (ofSlots (C.ti T_Exp) (List.take (C.ti T_Exp).size (List.drop 10 c1))) fun v19 =>
 back (noPan (cal cw true (tgtV (.val (.fn F_ref05_exp [])) [v19]) s)) fun v20 s_2 =>
 bind1 (ofSlots (C.ti T_string) (List.take (C.ti T_string).size (List.drop 12 c1))) fun v23 =>
 bind1 (tupS [(some v20), (some v23)]) fun v => some (.ret v, s_2)) (
 bind1 (binS (C.ti T_int) .eql v5 (.val (.int .i64 3))) fun v25 =>
 condS v25 (
 bind1 (ofSlots (C.ti T_Pat) (List.take (C.ti T_Pat).size (List.drop 17 c1))) fun v27 =>
 back (noPan (cal cw true (tgtV (.val (.fn F_ref05_pat [])) [v27]) s)) fun v28 s_3 =>
 bind1 (ofSlots (C.ti T_string) (List.take (C.ti T_string).size (List.drop 19 c1))) fun v31 =>
 bind1 (tupS [(some v28), (some v31)]) fun v => some (.ret v, s_3)) (
 bind1 (binS (C.ti T_int) .eql v5 (.val (.int .i64 4))) fun v33 =>
 condS v33 (
 bind1 (ofSlots (C.ti T_Ty) (List.take (C.ti T_Ty).size (List.drop 22 c1))) fun v35 =>
 back (noPan (cal cw true (tgtV (.val (.fn F_ref05_ty [])) [v35]) s)) fun v36 s_4 =>
 bind1 (ofSlots (C.ti T_string) (List.take (C.ti T_string).size (List.drop 24 c1))) fun v39 =>
 bind1 (tupS [(some v36), (some v39)]) fun v => some (.ret v, s_4)) (
 bind1 (binS (C.ti T_int) .eql v5 (.val (.int .i64 5))) fun v41 =>
 condS v41 (
 bind1 (ofSlots (C.ti T_string) (List.take (C.ti T_string).size (List.drop 26 c1))) fun v44 =>
 back (cal cw true (tgtV (.val (.fn F_ref05_Low [])) [v44]) s) fun v45 s_5 =>
 bind1 (unS .not v45) fun v46 =>
 condS v46 (
 bind1 (ofSlots (C.ti T_string) (List.take (C.ti T_string).size (List.drop 26 c1))) fun v49 =>
 bind1 (tupS [(some (.val (.int .i64 8))), (some v49)]) fun v => some (.ret v, s_5)) (
 bind1 (tupS [(some (.val (.int .i64 0))), (some (.val (.str [])))]) fun v => some (.ret v, s_5))) (
 bind1 (ofSlots (C.ti T_bool) (List.take (C.ti T_bool).size (List.drop 42 c1))) fun v52 =>
 bind1 (unS .not v52) fun v53 =>
 bindB (Slot.isB v53 true) fun w =>
 bindB (Slot.isB v53 true) fun w_1 =>
 chkP w w_1 fun _ =>
 bindB (Slot.isB v53 true) fun w_2 =>
 bind1 (gd w_2 (bif (w && w_1) then (ofSlots (C.ti T_Ty) (List.take (C.ti T_Ty).size (List.drop 43 c1))) else none)) fun v57 =>
 bindB (Slot.isB v53 true) fun w_3 =>
 back (cal cw w_3 (tgtV (.val (.fn F_ref05_zeroTy [])) [v57]) s) fun v58 s_6 =>
 bindB (Slot.isB v53 true) fun w_4 =>
 bind1 (gd w_4 (unS .not v58)) fun v59 =>
 bind1 (pickS v53 v59 (.val (.bool false))) fun v60 =>
 condS v60 (
 bind1 (tupS [(some (.val (.int .i64 29))), (some (.val (.str [])))]) fun v => some (.ret v, s_6)) (
 bind1 (ofSlots (C.ti T_string) (List.take (C.ti T_string).size (List.drop 40 c1))) fun v63 =>
 back (cal cw true (tgtV (.val (.fn F_ref05_Capital [])) [v63]) s_6) fun v64 s_7 =>
 bind1 (unS .not v64) fun v65 =>
 condS v65 (
 bind1 (ofSlots (C.ti T_string) (List.take (C.ti T_string).size (List.drop 40 c1))) fun v68 =>
 bind1 (tupS [(some (.val (.int .i64 8))), (some v68)]) fun v => some (.ret v, s_7)) (
 bind1 (tupS [(some (.val (.int .i64 0))), (some (.val (.str [])))]) fun v => some (.ret v, s_7)))))))) := (callw_f _ _ _).trans (by kernel_rfl)

/- 59 camlet/camletref05.deepTy -/
noncomputable def ref05_deepTy_l0 : List Slot → Slot → Slot → St → Res := fun x1 x3 x4 s => loopR C false F_ref05_deepTy [.seqR, .seqR, .seqL, .seqR, .block] (body Go.Proofs.Try.f59) [(1, .var x1), (3, .s x3), (4, .s x4)] s (ctxR C false F_ref05_deepTy [.seqR, .seqR, .seqL, .seqR, .block] (body Go.Proofs.Try.f59) (outK C (Go.Proofs.Try.f59).results.toList))
theorem ref05_deepTy_l0_eq (x1 : List Slot) (x3 : Slot) (x4 : Slot) (s_1 : St) : ref05_deepTy_l0 x1 x3 x4 s_1 =
 bind1 (ofSlots (C.ti T_S_Ty) (List.take (C.ti T_S_Ty).size (List.drop 3 x1))) fun v7 =>
 bind1 (lenS (C.ti T_S_Ty) v7) fun v8 =>
 bind1 (binS (C.ti T_int) .lss x4 v8) fun v9 =>
 condS v9 (
 bind1 (ofSlots (C.ti T_S_Ty) (List.take (C.ti T_S_Ty).size (List.drop 3 x1))) fun v14 =>
 bind1 (ixS (C.ti T_Ty).size v14 x4) fun v16 =>
 bind1 (ldV (C.ti T_Ty) false s_1 v16) fun v17 =>
 back (cal cw true (tgtV (.val (.fn F_ref05_deepTy [])) [v17]) s_1) fun v18 s_2 =>
 bind1 (max2 x3 v18) fun v19 =>
 bind1 (binS (C.ti T_int) .add x4 (.val (.int .i64 1))) fun v11 =>
 ref05_deepTy_l0 (x1) (v19) (v11) s_2) (
 bind1 (binS (C.ti T_int) .add x3 (.val (.int .i64 1))) fun v21 =>
 some (.ret v21, s_1)) := by unfold ref05_deepTy_l0; exact (loopR_eq _ _ _ _ _ _).trans (by kernel_rfl)
theorem ref05_deepTy_eq (a0 : AV) (s : St) : cw (.f F_ref05_deepTy) [a0] s =
 bindL (boxCells (C.ti T_Ty) (.val a0)) fun c1 =>
 ref05_deepTy_l0 (c1) ((.val (.int .i64 0))) ((.val (.int .i64 0))) s := (callw_f _ _ _).trans (by kernel_rfl)

/- 60 camlet/tree.expression$1 -/
theorem tree_expression_1_eq (a0 : AV) (a1 : AV) (s : St) : cw (.f F_tree_expression_1) [a0, a1] s =
 bind1 (buildS (C.ti T_walker).zero [(0, (C.ti T_98).size, (.val a0))]) fun v4 =>
 back (cal cw true (tgtV (.val (.fn F_tree_walker_exps [])) [v4, (.val a1)]) s) fun v5 s_1 =>
 bind1 (tupS []) fun v => some (.ret v, s_1) := (callw_f _ _ _).trans (by kernel_rfl)

/- 61 (camlet/tree.walker).exps -/
noncomputable def tree_walker_exps_l0 : Slot → List Slot → Slot → Slot → St → Res := fun x1 x2 x29 x30 s => loopR C false F_tree_walker_exps [.seqR, .seqR, .seqL, .seqR, .block] (body Go.Proofs.Try.f61) [(1, .s x1), (2, .var x2), (29, .s x29), (30, .s x30)] s (ctxR C false F_tree_walker_exps [.seqR, .seqR, .seqL, .seqR, .block] (body Go.Proofs.Try.f61) (outK C (Go.Proofs.Try.f61).results.toList))
theorem tree_walker_exps_l0_eq (x1 : Slot) (x2 : List Slot) (x29 : Slot) (x30 : Slot) (s_3 : St) : tree_walker_exps_l0 x1 x2 x29 x30 s_3 =
 bind1 (binS (C.ti T_int) .lss x30 x29) fun v31 =>
 condS v31 (
 bind1 (ofSlots (C.ti T_walker) (List.take (C.ti T_walker).size x2)) fun v33 =>
 bind1 (nilCheckV x1) fun v35 =>
 bind1 (faV 4 v35) fun v36 =>
 bind1 (ldV (C.ti T_S_Exp) false s_3 v36) fun v37 =>
 bind1 (ixS (C.ti T_Exp).size v37 x30) fun v39 =>
 back (noPan (cal cw true (tgtV (.val (.fn F_tree_walker_exps [])) [v33, v39]) s_3)) fun v40 s_4 =>
 bind1 (unS .not v40) fun v41 =>
 condS v41 (
 some (.ret (.val (.bool false)), s_4)) (
 bind1 (binS (C.ti T_int) .add x30 (.val (.int .i64 1))) fun v42 =>
 tree_walker_exps_l0 (x1) (x2) (x29) (v42) s_4)) (
 bind1 (ofSlots (C.ti T_walker) (List.take (C.ti T_walker).size x2)) fun v43 =>
 bind1 (nilCheckV x1) fun v45 =>
 bind1 (faV 5 v45) fun v46 =>
 bind1 (ldV (C.ti T_S_Case) false s_3 v46) fun v47 =>
 back (noPan (cal cw true (tgtV (.val (.fn F_tree_walker_cases [])) [v43, v47]) s_3)) fun v48 s_5 =>
 some (.ret v48, s_5)) := by unfold tree_walker_exps_l0; exact (loopR_eq _ _ _ _ _ _).trans (by kernel_rfl)
theorem tree_walker_exps_eq (a0 : AV) (a1 : AV) (s : St) : cw (.f F_tree_walker_exps) [a0, a1] s =
 bindL (boxCells (C.ti T_walker) (.val a0)) fun c2 =>
 bind1 (ofSlots (C.ti T_98) (List.take (C.ti T_98).size (List.drop 0 c2))) fun v7 =>
 bind1 (nilCheckV (.val a1)) fun v10 =>
 bind1 (faV 1 v10) fun v11 =>
 bind1 (ldV (C.ti T_int) false s v11) fun v12 =>
 bind1 (buildS (C.ti T_thing).zero [(4, (C.ti T_P_Exp).size, (.val a1)), (7, (C.ti T_int).size, v12)]) fun v13 =>
 back (noPan (cal cw true (tgtV v7 [v13]) s)) fun v14 s_1 =>
 bind1 (unS .not v14) fun v15 =>
 bindB (Slot.isB v15 false) fun w =>
 bind1 (gd w (ofSlots (C.ti T_walker) (List.take (C.ti T_walker).size c2))) fun v17 =>
 bindB (Slot.isB v15 false) fun w_1 =>
 bindB (Slot.isB v15 false) fun w_2 =>
 bind1 (gd w_2 (nilCheckV (gdV w_1 (.val a1)))) fun v19 =>
 bindB (Slot.isB v15 false) fun w_3 =>
 bind1 (gd w_3 (faV 6 v19)) fun v20 =>
 bindB (Slot.isB v15 false) fun w_4 =>
 bind1 (gd w_4 (ldV (C.ti T_S_Dec) false s_1 v20)) fun v21 =>
 bindB (Slot.isB v15 false) fun w_5 =>
 back (noPan (cal cw w_5 (tgtV (.val (.fn F_tree_walker_decs [])) [v17, v21, (.val (.bool true))]) s_1)) fun v22 s_2 =>
 bindB (Slot.isB v15 false) fun w_6 =>
 bind1 (gd w_6 (unS .not v22)) fun v23 =>
 bind1 (pickS v15 (.val (.bool true)) v23) fun v24 =>
 condS v24 (
 some (.ret (.val (.bool false)), s_2)) (
 bind1 (nilCheckV (.val a1)) fun v26 =>
 bind1 (faV 4 v26) fun v27 =>
 bind1 (ldV (C.ti T_S_Exp) false s_2 v27) fun v28 =>
 bind1 (lenS (C.ti T_S_Exp) v28) fun v29 =>
 tree_walker_exps_l0 ((.val a1)) (c2) (v29) ((.val (.int .i64 0))) s_2) := (callw_f _ _ _).trans (by kernel_rfl)

/- 62 camlet/camletref05.OfCase -/
theorem ref05_OfCase_eq (a0 : AV) (s : St) : cw (.f F_ref05_OfCase) [a0] s =
 bindL (boxCells (C.ti T_Case) (.val a0)) fun c1 =>
 bind1 (ofSlots (C.ti T_Pat) (List.take (C.ti T_Pat).size (List.drop 0 c1))) fun v4 =>
 back (noPan (cal cw true (tgtV (.val (.fn F_ref05_OfPat [])) [v4]) s)) fun v5 s_1 =>
 bind1 (ofSlots (C.ti T_Exp) (List.take (C.ti T_Exp).size (List.drop 5 c1))) fun v7 =>
 back (noPan (cal cw true (tgtV (.val (.fn F_ref05_OfExp [])) [v7]) s_1)) fun v8 s_2 =>
 bind2 (appendS T_ref05_Node (C.ti T_ref05_Node) s_2 v5 v8) fun v9 s_3 =>
 some (.ret v9, s_3) := (callw_f _ _ _).trans (by kernel_rfl)

/- 63 camlet/tree.pattern$1 -/
theorem tree_pattern_1_eq (a0 : AV) (a1 : AV) (s : St) : cw (.f F_tree_pattern_1) [a0, a1] s =
 bind1 (buildS (C.ti T_walker).zero [(0, (C.ti T_98).size, (.val a0))]) fun v4 =>
 back (cal cw true (tgtV (.val (.fn F_tree_walker_pats [])) [v4, (.val a1)]) s) fun v5 s_1 =>
 bind1 (tupS []) fun v => some (.ret v, s_1) := (callw_f _ _ _).trans (by kernel_rfl)

/- 64 (camlet/tree.walker).pats -/
noncomputable def tree_walker_pats_l0 : Slot → List Slot → Slot → Slot → St → Res := fun x1 x2 x20 x21 s => loopR C false F_tree_walker_pats [.seqR, .seqR, .seqL, .seqR, .block] (body Go.Proofs.Try.f64) [(1, .s x1), (2, .var x2), (20, .s x20), (21, .s x21)] s (ctxR C false F_tree_walker_pats [.seqR, .seqR, .seqL, .seqR, .block] (body Go.Proofs.Try.f64) (outK C (Go.Proofs.Try.f64).results.toList))
theorem tree_walker_pats_l0_eq (x1 : Slot) (x2 : List Slot) (x20 : Slot) (x21 : Slot) (s_2 : St) : tree_walker_pats_l0 x1 x2 x20 x21 s_2 =
 bind1 (binS (C.ti T_int) .lss x21 x20) fun v22 =>
 condS v22 (
 bind1 (ofSlots (C.ti T_walker) (List.take (C.ti T_walker).size x2)) fun v24 =>
 bind1 (nilCheckV x1) fun v26 =>
 bind1 (faV 4 v26) fun v27 =>
 bind1 (ldV (C.ti T_S_Pat) false s_2 v27) fun v28 =>
 bind1 (ixS (C.ti T_Pat).size v28 x21) fun v30 =>
 back (noPan (cal cw true (tgtV (.val (.fn F_tree_walker_pats [])) [v24, v30]) s_2)) fun v31 s_3 =>
 bind1 (unS .not v31) fun v32 =>
 condS v32 (
 some (.ret (.val (.bool false)), s_3)) (
 bind1 (binS (C.ti T_int) .add x21 (.val (.int .i64 1))) fun v33 =>
 tree_walker_pats_l0 (x1) (x2) (x20) (v33) s_3)) (
 some (.ret (.val (.bool true)), s_2)) := by unfold tree_walker_pats_l0; exact (loopR_eq _ _ _ _ _ _).trans (by kernel_rfl)
theorem tree_walker_pats_eq (a0 : AV) (a1 : AV) (s : St) : cw (.f F_tree_walker_pats) [a0, a1] s =
 bindL (boxCells (C.ti T_walker) (.val a0)) fun c2 =>
 bind1 (ofSlots (C.ti T_98) (List.take (C.ti T_98).size (List.drop 0 c2))) fun v7 =>
 bind1 (nilCheckV (.val a1)) fun v10 =>
 bind1 (faV 1 v10) fun v11 =>
 bind1 (ldV (C.ti T_int) false s v11) fun v12 =>
 bind1 (buildS (C.ti T_thing).zero [(5, (C.ti T_P_Pat).size, (.val a1)), (7, (C.ti T_int).size, v12)]) fun v13 =>
 back (noPan (cal cw true (tgtV v7 [v13]) s)) fun v14 s_1 =>
 bind1 (unS .not v14) fun v15 =>
 condS v15 (
 some (.ret (.val (.bool false)), s_1)) (
 bind1 (nilCheckV (.val a1)) fun v17 =>
 bind1 (faV 4 v17) fun v18 =>
 bind1 (ldV (C.ti T_S_Pat) false s_1 v18) fun v19 =>
 bind1 (lenS (C.ti T_S_Pat) v19) fun v20 =>
 tree_walker_pats_l0 ((.val a1)) (c2) (v20) ((.val (.int .i64 0))) s_1) := (callw_f _ _ _).trans (by kernel_rfl)

/- 65 camlet/camletref05.OfTy -/
noncomputable def ref05_OfTy_l0 : Slot → List Slot → Slot → Slot → St → Res := fun x1 x2 x5 x6 s => loopR C false F_ref05_OfTy [.seqR, .seqR, .seqL, .seqR, .block] (body Go.Proofs.Try.f65) [(1, .s x1), (2, .var x2), (5, .s x5), (6, .s x6)] s (ctxR C false F_ref05_OfTy [.seqR, .seqR, .seqL, .seqR, .block] (body Go.Proofs.Try.f65) (outK C (Go.Proofs.Try.f65).results.toList))
theorem ref05_OfTy_l0_eq (x1 : Slot) (x2 : List Slot) (x5 : Slot) (x6 : Slot) (s_1 : St) : ref05_OfTy_l0 x1 x2 x5 x6 s_1 =
 bind1 (ofSlots (C.ti T_S_Ty) (List.take (C.ti T_S_Ty).size (List.drop 3 x2))) fun v13 =>
 bind1 (lenS (C.ti T_S_Ty) v13) fun v14 =>
 bind1 (binS (C.ti T_int) .lss x6 v14) fun v15 =>
 condS v15 (
 bind1 (ofSlots (C.ti T_S_Ty) (List.take (C.ti T_S_Ty).size (List.drop 3 x2))) fun v20 =>
 bind1 (ixS (C.ti T_Ty).size v20 x6) fun v22 =>
 bind1 (ldV (C.ti T_Ty) false s_1 v22) fun v23 =>
 back (cal cw true (tgtV (.val (.fn F_ref05_OfTy [])) [v23, x1]) s_1) fun v25 s_2 =>
 bind2 (appendS T_ref05_Node (C.ti T_ref05_Node) s_2 x5 v25) fun v26 s_3 =>
 bind1 (binS (C.ti T_int) .add x6 (.val (.int .i64 1))) fun v17 =>
 ref05_OfTy_l0 (x1) (x2) (v26) (v17) s_3) (
 some (.ret x5, s_1)) := by unfold ref05_OfTy_l0; exact (loopR_eq _ _ _ _ _ _).trans (by kernel_rfl)
theorem ref05_OfTy_eq (a0 : AV) (a1 : AV) (s : St) : cw (.f F_ref05_OfTy) [a0, a1] s =
 bindL (boxCells (C.ti T_Ty) (.val a0)) fun c2 =>
 bind1 (ofSlots (C.ti T_Ty) (List.take (C.ti T_Ty).size c2)) fun v7 =>
 bind1 (buildS (C.ti T_ref05_Node).zero [(0, (C.ti T_int).size, (.val (.int .i64 4))), (22, (C.ti T_Ty).size, v7), (2, (C.ti T_int).size, (.val a1))]) fun v9 =>
 bind1 (bslF (C.ti T_ref05_Node).size [v9]) fun v10 =>
 ref05_OfTy_l0 ((.val a1)) (c2) (v10) ((.val (.int .i64 0))) s := (callw_f _ _ _).trans (by kernel_rfl)

/- 66 slices.EqualFunc[[]camlet/api.Case,[]camlet/api.Case,camlet/api.Case,camlet/api.Case] -/
noncomputable def slices_EqualFunc_SCase_SCase_Case_Case_l0 : Slot → Slot → Slot → Slot → Slot → St → Res := fun x1 x2 x15 x16 x17 s => loopR C false F_slices_EqualFunc_SCase_SCase_Case_Case [.seqR, .seqR, .seqL, .seqR, .block] (body Go.Proofs.Try.f66) [(1, .s x1), (2, .s x2), (15, .s x15), (16, .s x16), (17, .s x17)] s (ctxR C false F_slices_EqualFunc_SCase_SCase_Case_Case [.seqR, .seqR, .seqL, .seqR, .block] (body Go.Proofs.Try.f66) (outK C (Go.Proofs.Try.f66).results.toList))
theorem slices_EqualFunc_SCase_SCase_Case_Case_l0_eq (x1 : Slot) (x2 : Slot) (x15 : Slot) (x16 : Slot) (x17 : Slot) (s_1 : St) : slices_EqualFunc_SCase_SCase_Case_Case_l0 x1 x2 x15 x16 x17 s_1 =
 bind1 (binS (C.ti T_int) .lss x17 x16) fun v18 =>
 condS v18 (
 bind1 (ixS (C.ti T_Case).size x15 x17) fun v20 =>
 bind1 (ldV (C.ti T_Case) false s_1 v20) fun v21 =>
 bindL (boxCells (C.ti T_Case) v21) fun c =>
 bindL (putAt (List.map .val (C.ti T_Case).zero) 0 c) fun c8 =>
 bind1 (ixS (C.ti T_Case).size x1 x17) fun v24 =>
 bind1 (ldV (C.ti T_Case) false s_1 v24) fun v25 =>
 bindL (boxCells (C.ti T_Case) v25) fun c_1 =>
 bindL (putAt (List.map .val (C.ti T_Case).zero) 0 c_1) fun c9 =>
 bind1 (ofSlots (C.ti T_Case) (List.take (C.ti T_Case).size c8)) fun v27 =>
 bind1 (ofSlots (C.ti T_Case) (List.take (C.ti T_Case).size c9)) fun v28 =>
 back (cal cw true (tgtV x2 [v27, v28]) s_1) fun v29 s_2 =>
 bind1 (unS .not v29) fun v30 =>
 condS v30 (
 some (.ret (.val (.bool false)), s_2)) (
 bind1 (binS (C.ti T_int) .add x17 (.val (.int .i64 1))) fun v31 =>
 slices_EqualFunc_SCase_SCase_Case_Case_l0 (x1) (x2) (x15) (x16) (v31) s_2)) (
 some (.ret (.val (.bool true)), s_1)) := by unfold slices_EqualFunc_SCase_SCase_Case_Case_l0; exact (loopR_eq _ _ _ _ _ _).trans (by kernel_rfl)
theorem slices_EqualFunc_SCase_SCase_Case_Case_eq (a0 : AV) (a1 : AV) (a2 : AV) (s : St) : cw (.f F_slices_EqualFunc_SCase_SCase_Case_Case) [a0, a1, a2] s =
 bind1 (lenS (C.ti T_S_Case) (.val a0)) fun v11 =>
 bind1 (lenS (C.ti T_S_Case) (.val a1)) fun v13 =>
 bind1 (binS (C.ti T_int) .neq v11 v13) fun v14 =>
 condS v14 (
 some (.ret (.val (.bool false)), s)) (
 bind1 (lenS (C.ti T_S_Case) (.val a0)) fun v16 =>
 slices_EqualFunc_SCase_SCase_Case_Case_l0 ((.val a1)) ((.val a2)) ((.val a0)) (v16) ((.val (.int .i64 0))) s) := (callw_f _ _ _).trans (by kernel_rfl)

/- 67 camlet/tree.sameCase -/
theorem tree_sameCase_eq (a0 : AV) (a1 : AV) (s : St) : cw (.f F_tree_sameCase) [a0, a1] s =
 bindL (boxCells (C.ti T_Case) (.val a0)) fun c2 =>
 bindL (boxCells (C.ti T_Case) (.val a1)) fun c3 =>
 bind1 (ofSlots (C.ti T_Pat) (List.take (C.ti T_Pat).size (List.drop 0 c2))) fun v6 =>
 bind1 (ofSlots (C.ti T_Pat) (List.take (C.ti T_Pat).size (List.drop 0 c3))) fun v8 =>
 back (cal cw true (tgtV (.val (.fn F_tree_samePat [])) [v6, v8]) s) fun v9 s_1 =>
 bindB (Slot.isB v9 true) fun w =>
 bindB (Slot.isB v9 true) fun w_1 =>
 bind1 (gd w_1 (bif w then (ofSlots (C.ti T_Exp) (List.take (C.ti T_Exp).size (List.drop 5 c2))) else none)) fun v12 =>
 bindB (Slot.isB v9 true) fun w_2 =>
 bindB (Slot.isB v9 true) fun w_3 =>
 bind1 (gd w_3 (bif w_2 then (ofSlots (C.ti T_Exp) (List.take (C.ti T_Exp).size (List.drop 5 c3))) else none)) fun v14 =>
 bindB (Slot.isB v9 true) fun w_4 =>
 back (cal cw w_4 (tgtV (.val (.fn F_tree_sameExp [])) [v12, v14]) s_1) fun v15 s_2 =>
 bind1 (pickS v9 v15 (.val (.bool false))) fun v16 =>
 some (.ret v16, s_2) := (callw_f _ _ _).trans (by kernel_rfl)

/- 68 slices.EqualFunc[[]camlet/api.Fun,[]camlet/api.Fun,camlet/api.Fun,camlet/api.Fun] -/
noncomputable def slices_EqualFunc_SFun_SFun_Fun_Fun_l0 : Slot → Slot → Slot → Slot → Slot → St → Res := fun x1 x2 x15 x16 x17 s => loopR C false F_slices_EqualFunc_SFun_SFun_Fun_Fun [.seqR, .seqR, .seqL, .seqR, .block] (body Go.Proofs.Try.f68) [(1, .s x1), (2, .s x2), (15, .s x15), (16, .s x16), (17, .s x17)] s (ctxR C false F_slices_EqualFunc_SFun_SFun_Fun_Fun [.seqR, .seqR, .seqL, .seqR, .block] (body Go.Proofs.Try.f68) (outK C (Go.Proofs.Try.f68).results.toList))
theorem slices_EqualFunc_SFun_SFun_Fun_Fun_l0_eq (x1 : Slot) (x2 : Slot) (x15 : Slot) (x16 : Slot) (x17 : Slot) (s_1 : St) : slices_EqualFunc_SFun_SFun_Fun_Fun_l0 x1 x2 x15 x16 x17 s_1 =
 bind1 (binS (C.ti T_int) .lss x17 x16) fun v18 =>
 condS v18 (
 bind1 (ixS (C.ti T_Fun).size x15 x17) fun v20 =>
 bind1 (ldV (C.ti T_Fun) false s_1 v20) fun v21 =>
 bindL (boxCells (C.ti T_Fun) v21) fun c =>
 bindL (putAt (List.map .val (C.ti T_Fun).zero) 0 c) fun c8 =>
 bind1 (ixS (C.ti T_Fun).size x1 x17) fun v24 =>
 bind1 (ldV (C.ti T_Fun) false s_1 v24) fun v25 =>
 bindL (boxCells (C.ti T_Fun) v25) fun c_1 =>
 bindL (putAt (List.map .val (C.ti T_Fun).zero) 0 c_1) fun c9 =>
 bind1 (ofSlots (C.ti T_Fun) (List.take (C.ti T_Fun).size c8)) fun v27 =>
 bind1 (ofSlots (C.ti T_Fun) (List.take (C.ti T_Fun).size c9)) fun v28 =>
 back (cal cw true (tgtV x2 [v27, v28]) s_1) fun v29 s_2 =>
 bind1 (unS .not v29) fun v30 =>
 condS v30 (
 some (.ret (.val (.bool false)), s_2)) (
 bind1 (binS (C.ti T_int) .add x17 (.val (.int .i64 1))) fun v31 =>
 slices_EqualFunc_SFun_SFun_Fun_Fun_l0 (x1) (x2) (x15) (x16) (v31) s_2)) (
 some (.ret (.val (.bool true)), s_1)) := by unfold slices_EqualFunc_SFun_SFun_Fun_Fun_l0; exact (loopR_eq _ _ _ _ _ _).trans (by kernel_rfl)
theorem slices_EqualFunc_SFun_SFun_Fun_Fun_eq (a0 : AV) (a1 : AV) (a2 : AV) (s : St) : cw (.f F_slices_EqualFunc_SFun_SFun_Fun_Fun) [a0, a1, a2] s =
 bind1 (lenS (C.ti T_S_Fun) (.val a0)) fun v11 =>
 bind1 (lenS (C.ti T_S_Fun) (.val a1)) fun v13 =>
 bind1 (binS (C.ti T_int) .neq v11 v13) fun v14 =>
 condS v14 (
 some (.ret (.val (.bool false)), s)) (
 bind1 (lenS (C.ti T_S_Fun) (.val a0)) fun v16 =>
 slices_EqualFunc_SFun_SFun_Fun_Fun_l0 ((.val a1)) ((.val a2)) ((.val a0)) (v16) ((.val (.int .i64 0))) s) := (callw_f _ _ _).trans (by kernel_rfl)

/- 69 camlet/tree.sameFun -/
theorem tree_sameFun_eq (a0 : AV) (a1 : AV) (s : St) : cw (.f F_tree_sameFun) [a0, a1] s =
 bindL (boxCells (C.ti T_Fun) (.val a0)) fun c2 =>
 bindL (boxCells (C.ti T_Fun) (.val a1)) fun c3 =>
 bind1 (ofSlots (C.ti T_string) (List.take (C.ti T_string).size (List.drop 0 c2))) fun v6 =>
 bind1 (ofSlots (C.ti T_string) (List.take (C.ti T_string).size (List.drop 0 c3))) fun v8 =>
 bind1 (binS (C.ti T_string) .eql v6 v8) fun v9 =>
 bindB (Slot.isB v9 true) fun w =>
 bindB (Slot.isB v9 true) fun w_1 =>
 bind1 (gd w_1 (bif w then (ofSlots (C.ti T_Case) (List.take (C.ti T_Case).size (List.drop 2 c2))) else none)) fun v12 =>
 bindB (Slot.isB v9 true) fun w_2 =>
 bindB (Slot.isB v9 true) fun w_3 =>
 bind1 (gd w_3 (bif w_2 then (ofSlots (C.ti T_Case) (List.take (C.ti T_Case).size (List.drop 2 c3))) else none)) fun v14 =>
 bindB (Slot.isB v9 true) fun w_4 =>
 back (cal cw w_4 (tgtV (.val (.fn F_tree_sameCase [])) [v12, v14]) s) fun v15 s_1 =>
 bind1 (pickS v9 v15 (.val (.bool false))) fun v16 =>
 some (.ret v16, s_1) := (callw_f _ _ _).trans (by kernel_rfl)

/- 70 slices.EqualFunc[[]camlet/api.Con,[]camlet/api.Con,camlet/api.Con,camlet/api.Con] -/
noncomputable def slices_EqualFunc_SCon_SCon_Con_Con_l0 : Slot → Slot → Slot → Slot → Slot → St → Res := fun x1 x2 x15 x16 x17 s => loopR C false F_slices_EqualFunc_SCon_SCon_Con_Con [.seqR, .seqR, .seqL, .seqR, .block] (body Go.Proofs.Try.f70) [(1, .s x1), (2, .s x2), (15, .s x15), (16, .s x16), (17, .s x17)] s (ctxR C false F_slices_EqualFunc_SCon_SCon_Con_Con [.seqR, .seqR, .seqL, .seqR, .block] (body Go.Proofs.Try.f70) (outK C (Go.Proofs.Try.f70).results.toList))
theorem slices_EqualFunc_SCon_SCon_Con_Con_l0_eq (x1 : Slot) (x2 : Slot) (x15 : Slot) (x16 : Slot) (x17 : Slot) (s_1 : St) : slices_EqualFunc_SCon_SCon_Con_Con_l0 x1 x2 x15 x16 x17 s_1 =
 bind1 (binS (C.ti T_int) .lss x17 x16) fun v18 =>
 condS v18 (
 bind1 (ixS (C.ti T_Con).size x15 x17) fun v20 =>
 bind1 (ldV (C.ti T_Con) false s_1 v20) fun v21 =>
 bindL (boxCells (C.ti T_Con) v21) fun c =>
 bindL (putAt (List.map .val (C.ti T_Con).zero) 0 c) fun c8 =>
 bind1 (ixS (C.ti T_Con).size x1 x17) fun v24 =>
 bind1 (ldV (C.ti T_Con) false s_1 v24) fun v25 =>
 bindL (boxCells (C.ti T_Con) v25) fun c_1 =>
 bindL (putAt (List.map .val (C.ti T_Con).zero) 0 c_1) fun c9 =>
 bind1 (ofSlots (C.ti T_Con) (List.take (C.ti T_Con).size c8)) fun v27 =>
 bind1 (ofSlots (C.ti T_Con) (List.take (C.ti T_Con).size c9)) fun v28 =>
 back (cal cw true (tgtV x2 [v27, v28]) s_1) fun v29 s_2 =>
 bind1 (unS .not v29) fun v30 =>
 condS v30 (
 some (.ret (.val (.bool false)), s_2)) (
 bind1 (binS (C.ti T_int) .add x17 (.val (.int .i64 1))) fun v31 =>
 slices_EqualFunc_SCon_SCon_Con_Con_l0 (x1) (x2) (x15) (x16) (v31) s_2)) (
 some (.ret (.val (.bool true)), s_1)) := by unfold slices_EqualFunc_SCon_SCon_Con_Con_l0; exact (loopR_eq _ _ _ _ _ _).trans (by kernel_rfl)
theorem slices_EqualFunc_SCon_SCon_Con_Con_eq (a0 : AV) (a1 : AV) (a2 : AV) (s : St) : cw (.f F_slices_EqualFunc_SCon_SCon_Con_Con) [a0, a1, a2] s =
 bind1 (lenS (C.ti T_S_Con) (.val a0)) fun v11 =>
 bind1 (lenS (C.ti T_S_Con) (.val a1)) fun v13 =>
 bind1 (binS (C.ti T_int) .neq v11 v13) fun v14 =>
 condS v14 (
 some (.ret (.val (.bool false)), s)) (
 bind1 (lenS (C.ti T_S_Con) (.val a0)) fun v16 =>
 slices_EqualFunc_SCon_SCon_Con_Con_l0 ((.val a1)) ((.val a2)) ((.val a0)) (v16) ((.val (.int .i64 0))) s) := (callw_f _ _ _).trans (by kernel_rfl)

/- 71 camlet/tree.sameCon -/
theorem tree_sameCon_eq (a0 : AV) (a1 : AV) (s : St) : cw (.f F_tree_sameCon) [a0, a1] s =
 bindL (boxCells (C.ti T_Con) (.val a0)) fun c2 =>
 bindL (boxCells (C.ti T_Con) (.val a1)) fun c3 =>
 bind1 (ofSlots (C.ti T_string) (List.take (C.ti T_string).size (List.drop 0 c2))) fun v6 =>
 bind1 (ofSlots (C.ti T_string) (List.take (C.ti T_string).size (List.drop 0 c3))) fun v8 =>
 bind1 (binS (C.ti T_string) .eql v6 v8) fun v9 =>
 bindB (Slot.isB v9 true) fun w =>
 bindB (Slot.isB v9 true) fun w_1 =>
 bind1 (gd w_1 (bif w then (ofSlots (C.ti T_bool) (List.take (C.ti T_bool).size (List.drop 2 c2))) else none)) fun v12 =>
 bindB (Slot.isB v9 true) fun w_2 =>
 bindB (Slot.isB v9 true) fun w_3 =>
 bind1 (gd w_3 (bif w_2 then (ofSlots (C.ti T_bool) (List.take (C.ti T_bool).size (List.drop 2 c3))) else none)) fun v14 =>
 bindB (Slot.isB v9 true) fun w_4 =>
 bind1 (gd w_4 (binS (C.ti T_bool) .eql v12 v14)) fun v15 =>
 bind1 (pickS v9 v15 (.val (.bool false))) fun v16 =>
 bindB (Slot.isB v16 true) fun w_5 =>
 bindB (Slot.isB v16 true) fun w_6 =>
 bind1 (gd w_6 (bif w_5 then (ofSlots (C.ti T_Ty) (List.take (C.ti T_Ty).size (List.drop 3 c2))) else none)) fun v19 =>
 bindB (Slot.isB v16 true) fun w_7 =>
 bindB (Slot.isB v16 true) fun w_8 =>
 bind1 (gd w_8 (bif w_7 then (ofSlots (C.ti T_Ty) (List.take (C.ti T_Ty).size (List.drop 3 c3))) else none)) fun v21 =>
 bindB (Slot.isB v16 true) fun w_9 =>
 back (cal cw w_9 (tgtV (.val (.fn F_tree_sameTy [])) [v19, v21]) s) fun v22 s_1 =>
 bind1 (pickS v16 v22 (.val (.bool false))) fun v23 =>
 some (.ret v23, s_1) := (callw_f _ _ _).trans (by kernel_rfl)

/- 72 (camlet/tree.thing).node -/
theorem tree_thing_node_eq (a0 : AV) (s : St) : cw (.f F_tree_thing_node) [a0] s =
 bindL (boxCells (C.ti T_thing) (.val a0)) fun c1 =>
 bind1 (ofSlots (C.ti T_P_Fun) (List.take (C.ti T_P_Fun).size (List.drop 2 c1))) fun v4 =>
 bind1 (binS (C.ti T_P_Fun) .eql v4 (.val (.nilp))) fun v5 =>
 bindB (Slot.isB v5 true) fun w =>
 bindB (Slot.isB v5 true) fun w_1 =>
 bind1 (gd w_1 (bif w then (ofSlots (C.ti T_P_Con) (List.take (C.ti T_P_Con).size (List.drop 3 c1))) else none)) fun v8 =>
 bindB (Slot.isB v5 true) fun w_2 =>
 bind1 (gd w_2 (binS (C.ti T_P_Con) .eql v8 (.val (.nilp)))) fun v9 =>
 bind1 (pickS v5 v9 (.val (.bool false))) fun v10 =>
 some (.ret v10, s) := (callw_f _ _ _).trans (by kernel_rfl)

/- 73 camlet/camletref05.sameCases -/
noncomputable def ref05_sameCases_l0 : Slot → Slot → Slot → Slot → St → Res := fun x0 x1 x2 x7 s => loopR C false F_ref05_sameCases [.seqR, .seqR, .seqL, .seqR, .block] (body Go.Proofs.Try.f73) [(0, .s x0), (1, .s x1), (2, .s x2), (7, .s x7)] s (ctxR C false F_ref05_sameCases [.seqR, .seqR, .seqL, .seqR, .block] (body Go.Proofs.Try.f73) (outK C (Go.Proofs.Try.f73).results.toList))
theorem ref05_sameCases_l0_eq (x0 : Slot) (x1 : Slot) (x2 : Slot) (x7 : Slot) (s_1 : St) : ref05_sameCases_l0 x0 x1 x2 x7 s_1 =
 bind1 (lenS (C.ti T_S_Case) x0) fun v15 =>
 bind1 (binS (C.ti T_int) .lss x7 v15) fun v16 =>
 condS v16 (
 bind1 (ixS (C.ti T_Case).size x0 x7) fun v21 =>
 bind1 (faV 0 v21) fun v22 =>
 bind1 (ldV (C.ti T_Pat) false s_1 v22) fun v23 =>
 bind1 (ixS (C.ti T_Case).size x1 x7) fun v26 =>
 bind1 (faV 0 v26) fun v27 =>
 bind1 (ldV (C.ti T_Pat) false s_1 v27) fun v28 =>
 back (noPan (cal cw true (tgtV (.val (.fn F_ref05_SamePat [])) [v23, v28, x2]) s_1)) fun v30 s_2 =>
 bind1 (unS .not v30) fun v31 =>
 bindB (Slot.isB v31 false) fun w =>
 bindB (Slot.isB v31 false) fun w_1 =>
 bindB (Slot.isB v31 false) fun w_2 =>
 bind1 (gd w_2 (ixS (C.ti T_Case).size (gdV w x0) (gdV w_1 x7))) fun v35 =>
 bindB (Slot.isB v31 false) fun w_3 =>
 bind1 (gd w_3 (faV 5 v35)) fun v36 =>
 bindB (Slot.isB v31 false) fun w_4 =>
 bind1 (gd w_4 (ldV (C.ti T_Exp) false s_2 v36)) fun v37 =>
 bindB (Slot.isB v31 false) fun w_5 =>
 bindB (Slot.isB v31 false) fun w_6 =>
 bindB (Slot.isB v31 false) fun w_7 =>
 bind1 (gd w_7 (ixS (C.ti T_Case).size (gdV w_5 x1) (gdV w_6 x7))) fun v40 =>
 bindB (Slot.isB v31 false) fun w_8 =>
 bind1 (gd w_8 (faV 5 v40)) fun v41 =>
 bindB (Slot.isB v31 false) fun w_9 =>
 bind1 (gd w_9 (ldV (C.ti T_Exp) false s_2 v41)) fun v42 =>
 bindB (Slot.isB v31 false) fun w_10 =>
 bindB (Slot.isB v31 false) fun w_11 =>
 back (noPan (cal cw w_11 (tgtV (.val (.fn F_ref05_SameExp [])) [v37, v42, (gdV w_10 x2)]) s_2)) fun v44 s_3 =>
 bindB (Slot.isB v31 false) fun w_12 =>
 bind1 (gd w_12 (unS .not v44)) fun v45 =>
 bind1 (pickS v31 (.val (.bool true)) v45) fun v46 =>
 condS v46 (
 some (.ret (.val (.bool false)), s_3)) (
 bind1 (binS (C.ti T_int) .add x7 (.val (.int .i64 1))) fun v18 =>
 ref05_sameCases_l0 (x0) (x1) (x2) (v18) s_3)) (
 some (.ret (.val (.bool true)), s_1)) := by unfold ref05_sameCases_l0; exact (loopR_eq _ _ _ _ _ _).trans (by kernel_rfl)
theorem ref05_sameCases_eq (a0 : AV) (a1 : AV) (a2 : AV) (s : St) : cw (.f F_ref05_sameCases) [a0, a1, a2] s =
 bind1 (lenS (C.ti T_S_Case) (.val a0)) fun v9 =>
 bind1 (lenS (C.ti T_S_Case) (.val a1)) fun v11 =>
 bind1 (binS (C.ti T_int) .neq v9 v11) fun v12 =>
 condS v12 (
 some (.ret (.val (.bool false)), s)) (
 ref05_sameCases_l0 ((.val a0)) ((.val a1)) ((.val a2)) ((.val (.int .i64 0))) s) := (callw_f _ _ _).trans (by kernel_rfl)

/- 74 camlet/camletref05.SameTy -/
noncomputable def ref05_SameTy_l0 : List Slot → List Slot → Slot → St → Res := fun x2 x3 x5 s => loopR C false F_ref05_SameTy [.seqR, .seqR, .seqL, .seqR, .block] (body Go.Proofs.Try.f74) [(2, .var x2), (3, .var x3), (5, .s x5)] s (ctxR C false F_ref05_SameTy [.seqR, .seqR, .seqL, .seqR, .block] (body Go.Proofs.Try.f74) (outK C (Go.Proofs.Try.f74).results.toList))
theorem ref05_SameTy_l0_eq (x2 : List Slot) (x3 : List Slot) (x5 : Slot) (s_1 : St) : ref05_SameTy_l0 x2 x3 x5 s_1 =
 bind1 (ofSlots (C.ti T_S_Ty) (List.take (C.ti T_S_Ty).size (List.drop 3 x2))) fun v36 =>
 bind1 (lenS (C.ti T_S_Ty) v36) fun v37 =>
 bind1 (binS (C.ti T_int) .lss x5 v37) fun v38 =>
 condS v38 (
 bind1 (ofSlots (C.ti T_S_Ty) (List.take (C.ti T_S_Ty).size (List.drop 3 x2))) fun v42 =>
 bind1 (ixS (C.ti T_Ty).size v42 x5) fun v44 =>
 bind1 (ldV (C.ti T_Ty) false s_1 v44) fun v45 =>
 bind1 (ofSlots (C.ti T_S_Ty) (List.take (C.ti T_S_Ty).size (List.drop 3 x3))) fun v47 =>
 bind1 (ixS (C.ti T_Ty).size v47 x5) fun v49 =>
 bind1 (ldV (C.ti T_Ty) false s_1 v49) fun v50 =>
 back (noPan (cal cw true (tgtV (.val (.fn F_ref05_SameTy [])) [v45, v50]) s_1)) fun v51 s_2 =>
 bind1 (unS .not v51) fun v52 =>
 condS v52 (
 some (.ret (.val (.bool false)), s_2)) (
 bind1 (binS (C.ti T_int) .add x5 (.val (.int .i64 1))) fun v40 =>
 ref05_SameTy_l0 (x2) (x3) (v40) s_2)) (
 some (.ret (.val (.bool true)), s_1)) := by unfold ref05_SameTy_l0; exact (loopR_eq _ _ _ _ _ _).trans (by kernel_rfl)
theorem ref05_SameTy_eq (a0 : AV) (a1 : AV) (s : St) : cw (.f F_ref05_SameTy) [a0, a1] s =
 bindL (boxCells (C.ti T_Ty) (.val a0)) fun c2 =>
 bindL (boxCells (C.ti T_Ty) (.val a1)) fun c3 =>
 bind1 (ofSlots (C.ti T_TyKind) (List.take (C.ti T_TyKind).size (List.drop 0 c2))) fun v7 =>
 bind1 (ofSlots (C.ti T_TyKind) (List.take (C.ti T_TyKind).size (List.drop 0 c3))) fun v9 =>
 bind1 (binS (C.ti T_TyKind) .neq v7 v9) fun v10 =>
 bindB (Slot.isB v10 false) fun w =>
 bindB (Slot.isB v10 false) fun w_1 =>
 bind1 (gd w_1 (bif w then (ofSlots (C.ti T_int) (List.take (C.ti T_int).size (List.drop 1 c2))) else none)) fun v13 =>
 bindB (Slot.isB v10 false) fun w_2 =>
 bindB (Slot.isB v10 false) fun w_3 =>
 bind1 (gd w_3 (bif w_2 then (ofSlots (C.ti T_int) (List.take (C.ti T_int).size (List.drop 1 c3))) else none)) fun v15 =>
 bindB (Slot.isB v10 false) fun w_4 =>
 bind1 (gd w_4 (binS (C.ti T_int) .neq v13 v15)) fun v16 =>
 bind1 (pickS v10 (.val (.bool true)) v16) fun v17 =>
 bindB (Slot.isB v17 false) fun w_5 =>
 bindB (Slot.isB v17 false) fun w_6 =>
 bind1 (gd w_6 (bif w_5 then (ofSlots (C.ti T_string) (List.take (C.ti T_string).size (List.drop 2 c2))) else none)) fun v20 =>
 bindB (Slot.isB v17 false) fun w_7 =>
 bindB (Slot.isB v17 false) fun w_8 =>
 bind1 (gd w_8 (bif w_7 then (ofSlots (C.ti T_string) (List.take (C.ti T_string).size (List.drop 2 c3))) else none)) fun v22 =>
 bindB (Slot.isB v17 false) fun w_9 =>
 bind1 (gd w_9 (binS (C.ti T_string) .neq v20 v22)) fun v23 =>
 bind1 (pickS v17 (.val (.bool true)) v23) fun v24 =>
 bindB (Slot.isB v24 false) fun w_10 =>
 bindB (Slot.isB v24 false) fun w_11 =>
 bind1 (gd w_11 (bif w_10 then (ofSlots (C.ti T_S_Ty) (List.take (C.ti T_S_Ty).size (List.drop 3 c2))) else none)) fun v27 =>
 bindB (Slot.isB v24 false) fun w_12 =>
 bind1 (gd w_12 (lenS (C.ti T_S_Ty) v27)) fun v28 =>
 bindB (Slot.isB v24 false) fun w_13 =>
 bindB (Slot.isB v24 false) fun w_14 =>
 bind1 (gd w_14 (bif w_13 then (ofSlots (C.ti T_S_Ty) (List.take (C.ti T_S_Ty).size (List.drop 3 c3))) else none)) fun v30 =>
 bindB (Slot.isB v24 false) fun w_15 =>
 bind1 (gd w_15 (lenS (C.ti T_S_Ty) v30)) fun v31 =>
 bindB (Slot.isB v24 false) fun w_16 =>
 bind1 (gd w_16 (binS (C.ti T_int) .neq v28 v31)) fun v32 =>
 bind1 (pickS v24 (.val (.bool true)) v32) fun v33 =>
 condS v33 (
 some (.ret (.val (.bool false)), s)) (
 ref05_SameTy_l0 (c2) (c3) ((.val (.int .i64 0))) s) := (callw_f _ _ _).trans (by kernel_rfl)

/- 75 camlet/tree.each[camlet/api.Case] -/
noncomputable def tree_each_Case_l0 : Slot → Slot → Slot → Slot → Slot → St → Res := fun x1 x5 x8 x9 x10 s => loopR C false F_tree_each_Case [.seqR, .seqR, .seqL, .seqR, .block] (body Go.Proofs.Try.f75) [(1, .s x1), (5, .s x5), (8, .s x8), (9, .s x9), (10, .s x10)] s (ctxR C false F_tree_each_Case [.seqR, .seqR, .seqL, .seqR, .block] (body Go.Proofs.Try.f75) (outK C (Go.Proofs.Try.f75).results.toList))
theorem tree_each_Case_l0_eq (x1 : Slot) (x5 : Slot) (x8 : Slot) (x9 : Slot) (x10 : Slot) (s_1 : St) : tree_each_Case_l0 x1 x5 x8 x9 x10 s_1 =
 bind1 (binS (C.ti T_int) .lss x10 x9) fun v11 =>
 condS v11 (
 bind1 (ixS (C.ti T_Case).size x8 x10) fun v12 =>
 bind1 (ldV (C.ti T_Case) false s_1 v12) fun v13 =>
 bindL (boxCells (C.ti T_Case) v13) fun c =>
 bindL (putAt (List.map .val (C.ti T_Case).zero) 0 c) fun c7 =>
 bind1 (ofSlots (C.ti T_Case) (List.take (C.ti T_Case).size c7)) fun v16 =>
 back (cal cw true (tgtV x1 [v16]) s_1) fun v17 s_2 =>
 bind1 (bslF (C.ti T_Case).size [v17]) fun v18 =>
 bind2 (appendS T_Case (C.ti T_Case) s_2 x5 v18) fun v19 s_3 =>
 bind1 (binS (C.ti T_int) .add x10 (.val (.int .i64 1))) fun v20 =>
 tree_each_Case_l0 (x1) (v19) (x8) (x9) (v20) s_3) (
 some (.ret x5, s_1)) := by unfold tree_each_Case_l0; exact (loopR_eq _ _ _ _ _ _).trans (by kernel_rfl)
theorem tree_each_Case_eq (a0 : AV) (a1 : AV) (s : St) : cw (.f F_tree_each_Case) [a0, a1] s =
 bind1 (lenS (C.ti T_S_Case) (.val a0)) fun v9 =>
 tree_each_Case_l0 ((.val a1)) ((.val (.nils))) ((.val a0)) (v9) ((.val (.int .i64 0))) s := (callw_f _ _ _).trans (by kernel_rfl)

/- 76 camlet/tree.bareCase -/
theorem tree_bareCase_eq (a0 : AV) (s : St) : cw (.f F_tree_bareCase) [a0] s =
 bindL (boxCells (C.ti T_Case) (.val a0)) fun c1 =>
 bind1 (ofSlots (C.ti T_Pat) (List.take (C.ti T_Pat).size (List.drop 0 c1))) fun v4 =>
 back (noPan (cal cw true (tgtV (.val (.fn F_tree_barePat [])) [v4]) s)) fun v5 s_1 =>
 bind1 (ofSlots (C.ti T_Exp) (List.take (C.ti T_Exp).size (List.drop 5 c1))) fun v7 =>
 back (noPan (cal cw true (tgtV (.val (.fn F_tree_bareExp [])) [v7]) s_1)) fun v8 s_2 =>
 bind1 (buildS (C.ti T_Case).zero [(0, (C.ti T_Pat).size, v5), (5, (C.ti T_Exp).size, v8)]) fun v9 =>
 bindL (boxCells (C.ti T_Case) v9) fun c =>
 bindL (putAt (List.map .val (C.ti T_Case).zero) 0 c) fun c2 =>
 bind1 (ofSlots (C.ti T_Case) (List.take (C.ti T_Case).size c2)) fun v => some (.ret v, s_2) := (callw_f _ _ _).trans (by kernel_rfl)

/- 77 camlet/tree.each[camlet/api.Fun] -/
noncomputable def tree_each_Fun_l0 : Slot → Slot → Slot → Slot → Slot → St → Res := fun x1 x5 x8 x9 x10 s => loopR C false F_tree_each_Fun [.seqR, .seqR, .seqL, .seqR, .block] (body Go.Proofs.Try.f77) [(1, .s x1), (5, .s x5), (8, .s x8), (9, .s x9), (10, .s x10)] s (ctxR C false F_tree_each_Fun [.seqR, .seqR, .seqL, .seqR, .block] (body Go.Proofs.Try.f77) (outK C (Go.Proofs.Try.f77).results.toList))
theorem tree_each_Fun_l0_eq (x1 : Slot) (x5 : Slot) (x8 : Slot) (x9 : Slot) (x10 : Slot) (s_1 : St) : tree_each_Fun_l0 x1 x5 x8 x9 x10 s_1 =
 bind1 (binS (C.ti T_int) .lss x10 x9) fun v11 =>
 condS v11 (
 bind1 (ixS (C.ti T_Fun).size x8 x10) fun v12 =>
 bind1 (ldV (C.ti T_Fun) false s_1 v12) fun v13 =>
 bindL (boxCells (C.ti T_Fun) v13) fun c =>
 bindL (putAt (List.map .val (C.ti T_Fun).zero) 0 c) fun c7 =>
 bind1 (ofSlots (C.ti T_Fun) (List.take (C.ti T_Fun).size c7)) fun v16 =>
 back (cal cw true (tgtV x1 [v16]) s_1) fun v17 s_2 =>
 bind1 (bslF (C.ti T_Fun).size [v17]) fun v18 =>
 bind2 (appendS T_Fun (C.ti T_Fun) s_2 x5 v18) fun v19 s_3 =>
 bind1 (binS (C.ti T_int) .add x10 (.val (.int .i64 1))) fun v20 =>
 tree_each_Fun_l0 (x1) (v19) (x8) (x9) (v20) s_3) (
 some (.ret x5, s_1)) := by unfold tree_each_Fun_l0; exact (loopR_eq _ _ _ _ _ _).trans (by kernel_rfl)
theorem tree_each_Fun_eq (a0 : AV) (a1 : AV) (s : St) : cw (.f F_tree_each_Fun) [a0, a1] s =
 bind1 (lenS (C.ti T_S_Fun) (.val a0)) fun v9 =>
 tree_each_Fun_l0 ((.val a1)) ((.val (.nils))) ((.val a0)) (v9) ((.val (.int .i64 0))) s := (callw_f _ _ _).trans (by kernel_rfl)

/- 78 camlet/tree.bareDec$1 -/
theorem tree_bareDec_1_eq (a0 : AV) (s : St) : cw (.f F_tree_bareDec_1) [a0] s =
 bindL (boxCells (C.ti T_Fun) (.val a0)) fun c1 =>
 bind1 (ofSlots (C.ti T_string) (List.take (C.ti T_string).size (List.drop 0 c1))) fun v4 =>
 bind1 (ofSlots (C.ti T_Case) (List.take (C.ti T_Case).size (List.drop 2 c1))) fun v6 =>
 back (noPan (cal cw true (tgtV (.val (.fn F_tree_bareCase [])) [v6]) s)) fun v7 s_1 =>
 bind1 (buildS (C.ti T_Fun).zero [(0, (C.ti T_string).size, v4), (2, (C.ti T_Case).size, v7)]) fun v8 =>
 bindL (boxCells (C.ti T_Fun) v8) fun c =>
 bindL (putAt (List.map .val (C.ti T_Fun).zero) 0 c) fun c2 =>
 bind1 (ofSlots (C.ti T_Fun) (List.take (C.ti T_Fun).size c2)) fun v => some (.ret v, s_1) := (callw_f _ _ _).trans (by kernel_rfl)

/- 79 camlet/tree.each[camlet/api.Con] -/
noncomputable def tree_each_Con_l0 : Slot → Slot → Slot → Slot → Slot → St → Res := fun x1 x5 x8 x9 x10 s => loopR C false F_tree_each_Con [.seqR, .seqR, .seqL, .seqR, .block] (body Go.Proofs.Try.f79) [(1, .s x1), (5, .s x5), (8, .s x8), (9, .s x9), (10, .s x10)] s (ctxR C false F_tree_each_Con [.seqR, .seqR, .seqL, .seqR, .block] (body Go.Proofs.Try.f79) (outK C (Go.Proofs.Try.f79).results.toList))
theorem tree_each_Con_l0_eq (x1 : Slot) (x5 : Slot) (x8 : Slot) (x9 : Slot) (x10 : Slot) (s_1 : St) : tree_each_Con_l0 x1 x5 x8 x9 x10 s_1 =
 bind1 (binS (C.ti T_int) .lss x10 x9) fun v11 =>
 condS v11 (
 bind1 (ixS (C.ti T_Con).size x8 x10) fun v12 =>
 bind1 (ldV (C.ti T_Con) false s_1 v12) fun v13 =>
 bindL (boxCells (C.ti T_Con) v13) fun c =>
 bindL (putAt (List.map .val (C.ti T_Con).zero) 0 c) fun c7 =>
 bind1 (ofSlots (C.ti T_Con) (List.take (C.ti T_Con).size c7)) fun v16 =>
 back (cal cw true (tgtV x1 [v16]) s_1) fun v17 s_2 =>
 bind1 (bslF (C.ti T_Con).size [v17]) fun v18 =>
 bind2 (appendS T_Con (C.ti T_Con) s_2 x5 v18) fun v19 s_3 =>
 bind1 (binS (C.ti T_int) .add x10 (.val (.int .i64 1))) fun v20 =>
 tree_each_Con_l0 (x1) (v19) (x8) (x9) (v20) s_3) (
 some (.ret x5, s_1)) := by unfold tree_each_Con_l0; exact (loopR_eq _ _ _ _ _ _).trans (by kernel_rfl)
theorem tree_each_Con_eq (a0 : AV) (a1 : AV) (s : St) : cw (.f F_tree_each_Con) [a0, a1] s =
 bind1 (lenS (C.ti T_S_Con) (.val a0)) fun v9 =>
 tree_each_Con_l0 ((.val a1)) ((.val (.nils))) ((.val a0)) (v9) ((.val (.int .i64 0))) s := (callw_f _ _ _).trans (by kernel_rfl)

/- 80 camlet/tree.bareDec$2 -/
theorem tree_bareDec_2_eq (a0 : AV) (s : St) : cw (.f F_tree_bareDec_2) [a0] s =
 bindL (boxCells (C.ti T_Con) (.val a0)) fun c1 =>
 bind1 (ofSlots (C.ti T_string) (List.take (C.ti T_string).size (List.drop 0 c1))) fun v4 =>
 bind1 (ofSlots (C.ti T_bool) (List.take (C.ti T_bool).size (List.drop 2 c1))) fun v6 =>
 bind1 (ofSlots (C.ti T_Ty) (List.take (C.ti T_Ty).size (List.drop 3 c1))) fun v8 =>
 back (noPan (cal cw true (tgtV (.val (.fn F_tree_bareTy [])) [v8]) s)) fun v9 s_1 =>
 bind1 (buildS (C.ti T_Con).zero [(0, (C.ti T_string).size, v4), (2, (C.ti T_bool).size, v6), (3, (C.ti T_Ty).size, v9)]) fun v10 =>
 bindL (boxCells (C.ti T_Con) v10) fun c =>
 bindL (putAt (List.map .val (C.ti T_Con).zero) 0 c) fun c2 =>
 bind1 (ofSlots (C.ti T_Con) (List.take (C.ti T_Con).size c2)) fun v => some (.ret v, s_1) := (callw_f _ _ _).trans (by kernel_rfl)

/- 81 camlet/tree.bareTy -/
theorem tree_bareTy_eq (a0 : AV) (s : St) : cw (.f F_tree_bareTy) [a0] s =
 bindL (boxCells (C.ti T_Ty) (.val a0)) fun c1 =>
 bind1 (ofSlots (C.ti T_S_Ty) (List.take (C.ti T_S_Ty).size (List.drop 3 c1))) fun v4 =>
 back (cal cw true (tgtV (.val (.fn F_tree_each_Ty [])) [v4, (.val (.fn F_tree_bareTy []))]) s) fun v5 s_1 =>
 bindL (boxCells (C.ti T_S_Ty) v5) fun c =>
 bindL (putAt c1 3 c) fun c1_1 =>
 bind1 (ofSlots (C.ti T_Ty) (List.take (C.ti T_Ty).size c1_1)) fun v7 =>
 bindL (boxCells (C.ti T_Ty) v7) fun c_1 =>
 bindL (putAt (List.map .val (C.ti T_Ty).zero) 0 c_1) fun c2 =>
 bind1 (ofSlots (C.ti T_Ty) (List.take (C.ti T_Ty).size c2)) fun v => some (.ret v, s_1) := (callw_f _ _ _).trans (by kernel_rfl)

/- 82 camlet/camletref05.barePat -/
noncomputable def ref05_barePat_l0 : List Slot → List Slot → List Slot → Slot → St → Res := fun x1 x2 x3 x4 s => loopR C false F_ref05_barePat [.seqR, .seqR, .seqL, .seqR, .block] (body Go.Proofs.Try.f82) [(1, .var x1), (2, .var x2), (3, .var x3), (4, .s x4)] s (ctxR C false F_ref05_barePat [.seqR, .seqR, .seqL, .seqR, .block] (body Go.Proofs.Try.f82) (outK C (Go.Proofs.Try.f82).results.toList))
theorem ref05_barePat_l0_eq (x1 : List Slot) (x2 : List Slot) (x3 : List Slot) (x4 : Slot) (s_1 : St) : ref05_barePat_l0 x1 x2 x3 x4 s_1 =
 bind1 (ofSlots (C.ti T_S_Pat) (List.take (C.ti T_S_Pat).size (List.drop 4 x1))) fun v14 =>
 bind1 (lenS (C.ti T_S_Pat) v14) fun v15 =>
 bind1 (binS (C.ti T_int) .lss x4 v15) fun v16 =>
 condS v16 (
 bind1 (ofSlots (C.ti T_S_Pat) (List.take (C.ti T_S_Pat).size (List.drop 4 x3))) fun v20 =>
 bind1 (ofSlots (C.ti T_S_Pat) (List.take (C.ti T_S_Pat).size (List.drop 4 x1))) fun v22 =>
 bind1 (ixS (C.ti T_Pat).size v22 x4) fun v24 =>
 bind1 (ldV (C.ti T_Pat) true s_1 v24) fun v25 =>
 back (noPan (cal cw true (tgtV (.val (.fn F_ref05_barePat [])) [v25]) s_1)) fun v26 s_2 =>
 bind1 (bslF (C.ti T_Pat).size [v26]) fun v27 =>
 bind2 (appendS T_Pat (C.ti T_Pat) s_2 v20 v27) fun v28 s_3 =>
 bindL (boxCells (C.ti T_S_Pat) v28) fun c_1 =>
 bindL (putAt x3 4 c_1) fun c3_1 =>
 bind1 (binS (C.ti T_int) .add x4 (.val (.int .i64 1))) fun v18 =>
 ref05_barePat_l0 (x1) (x2) (c3_1) (v18) s_3) (
 bind1 (ofSlots (C.ti T_Pat) (List.take (C.ti T_Pat).size x3)) fun v30 =>
 bindL (boxCells (C.ti T_Pat) v30) fun c_2 =>
 bindL (putAt x2 0 c_2) fun c2 =>
 bind1 (ofSlots (C.ti T_Pat) (List.take (C.ti T_Pat).size c2)) fun v => some (.ret v, s_1)) := by unfold ref05_barePat_l0; exact (loopR_eq _ _ _ _ _ _).trans (by kernel_rfl)
theorem ref05_barePat_eq (a0 : AV) (s : St) : cw (.f F_ref05_barePat) [a0] s =
 bindL (boxCells (C.ti T_Pat) (.val a0)) fun c1 =>
 bind1 (ofSlots (C.ti T_PatKind) (List.take (C.ti T_PatKind).size (List.drop 0 c1))) fun v6 =>
 bind1 (ofSlots (C.ti T_string) (List.take (C.ti T_string).size (List.drop 2 c1))) fun v8 =>
 bind1 (ofSlots (C.ti T_int) (List.take (C.ti T_int).size (List.drop 3 c1))) fun v10 =>
 bind1 (buildS (C.ti T_Pat).zero [(0, (C.ti T_PatKind).size, v6), (2, (C.ti T_string).size, v8), (3, (C.ti T_int).size, v10)]) fun v11 =>
 bindL (boxCells (C.ti T_Pat) v11) fun c =>
 bindL (putAt (List.map .val (C.ti T_Pat).zero) 0 c) fun c3 =>
 ref05_barePat_l0 (c1) ((List.map .val (C.ti T_Pat).zero)) (c3) ((.val (.int .i64 0))) s := (callw_f _ _ _).trans (by kernel_rfl)

/- 83 camlet/camletref05.BareExp -/
noncomputable def ref05_BareExp_l1 : List Slot → List Slot → List Slot → Slot → St → Res := fun x1_1 x2_1 x3_1 x5 s => loopR C false F_ref05_BareExp [.seqR, .seqR, .seqR, .seqL, .seqR, .block] (body Go.Proofs.Try.f83) [(1, .var x1_1), (2, .var x2_1), (3, .var x3_1), (5, .s x5)] s (ctxR C false F_ref05_BareExp [.seqR, .seqR, .seqR, .seqL, .seqR, .block] (body Go.Proofs.Try.f83) (outK C (Go.Proofs.Try.f83).results.toList))
noncomputable def ref05_BareExp_l0 : List Slot → List Slot → List Slot → Slot → St → Res := fun x1 x2 x3 x4 s => loopR C false F_ref05_BareExp [.seqR, .seqR, .seqL, .seqR, .block] (body Go.Proofs.Try.f83) [(1, .var x1), (2, .var x2), (3, .var x3), (4, .s x4)] s (ctxR C false F_ref05_BareExp [.seqR, .seqR, .seqL, .seqR, .block] (body Go.Proofs.Try.f83) (outK C (Go.Proofs.Try.f83).results.toList))
theorem ref05_BareExp_l1_eq (x1_1 : List Slot) (x2_1 : List Slot) (x3_1 : List Slot) (x5 : Slot) (s_5 : St) : ref05_BareExp_l1 x1_1 x2_1 x3_1 x5 s_5 =
 bind1 (ofSlots (C.ti T_S_Case) (List.take (C.ti T_S_Case).size (List.drop 5 x1_1))) fun v36 =>
 bind1 (lenS (C.ti T_S_Case) v36) fun v37 =>
 bind1 (binS (C.ti T_int) .lss x5 v37) fun v38 =>
 condS v38 (
 bind1 (ofSlots (C.ti T_S_Case) (List.take (C.ti T_S_Case).size (List.drop 5 x3_1))) fun v42 =>
 bind1 (ofSlots (C.ti T_S_Case) (List.take (C.ti T_S_Case).size (List.drop 5 x1_1))) fun v44 =>
 bind1 (ixS (C.ti T_Case).size v44 x5) fun v46 =>
 bind1 (ldV (C.ti T_Case) true s_5 v46) fun v47 =>
 back (noPan (cal cw true (tgtV (.val (.fn F_ref05_bareCase [])) [v47]) s_5)) fun v48 s_6 =>
 bind1 (bslF (C.ti T_Case).size [v48]) fun v49 =>
 bind2 (appendS T_Case (C.ti T_Case) s_6 v42 v49) fun v50 s_7 =>
 bindL (boxCells (C.ti T_S_Case) v50) fun c_2 =>
 bindL (putAt x3_1 5 c_2) fun c3_2 =>
 bind1 (binS (C.ti T_int) .add x5 (.val (.int .i64 1))) fun v40 =>
 ref05_BareExp_l1 (x1_1) (x2_1) (c3_2) (v40) s_7) (
 bind1 (ofSlots (C.ti T_Exp) (List.take (C.ti T_Exp).size x3_1)) fun v52 =>
 bindL (boxCells (C.ti T_Exp) v52) fun c_3 =>
 bindL (putAt x2_1 0 c_3) fun c2 =>
 bind1 (ofSlots (C.ti T_Exp) (List.take (C.ti T_Exp).size c2)) fun v => some (.ret v, s_5)) := by unfold ref05_BareExp_l1; exact (loopR_eq _ _ _ _ _ _).trans (by kernel_rfl)
theorem ref05_BareExp_l0_eq (x1 : List Slot) (x2 : List Slot) (x3 : List Slot) (x4 : Slot) (s_2 : St) : ref05_BareExp_l0 x1 x2 x3 x4 s_2 =
 bind1 (ofSlots (C.ti T_S_Exp) (List.take (C.ti T_S_Exp).size (List.drop 4 x1))) fun v18 =>
 bind1 (lenS (C.ti T_S_Exp) v18) fun v19 =>
 bind1 (binS (C.ti T_int) .lss x4 v19) fun v20 =>
 condS v20 (
 bind1 (ofSlots (C.ti T_S_Exp) (List.take (C.ti T_S_Exp).size (List.drop 4 x3))) fun v24 =>
 bind1 (ofSlots (C.ti T_S_Exp) (List.take (C.ti T_S_Exp).size (List.drop 4 x1))) fun v26 =>
 bind1 (ixS (C.ti T_Exp).size v26 x4) fun v28 =>
 bind1 (ldV (C.ti T_Exp) true s_2 v28) fun v29 =>
 back (noPan (cal cw true (tgtV (.val (.fn F_ref05_BareExp [])) [v29]) s_2)) fun v30 s_3 =>
 bind1 (bslF (C.ti T_Exp).size [v30]) fun v31 =>
 bind2 (appendS T_Exp (C.ti T_Exp) s_3 v24 v31) fun v32 s_4 =>
 bindL (boxCells (C.ti T_S_Exp) v32) fun c_1 =>
 bindL (putAt x3 4 c_1) fun c3_1 =>
 bind1 (binS (C.ti T_int) .add x4 (.val (.int .i64 1))) fun v22 =>
 ref05_BareExp_l0 (x1) (x2) (c3_1) (v22) s_4) (
 ref05_BareExp_l1 (x1) (x2) (x3) ((.val (.int .i64 0))) s_2) := by unfold ref05_BareExp_l0; exact (loopR_eq _ _ _ _ _ _).trans (by kernel_rfl)
theorem ref05_BareExp_eq (a0 : AV) (s : St) : cw (.f F_ref05_BareExp) [a0] s =
 bindL (boxCells (C.ti T_Exp) (.val a0)) fun c1 =>
 bind1 (ofSlots (C.ti T_ExpKind) (List.take (C.ti T_ExpKind).size (List.drop 0 c1))) fun v7 =>
 bind1 (ofSlots (C.ti T_string) (List.take (C.ti T_string).size (List.drop 2 c1))) fun v9 =>
 bind1 (ofSlots (C.ti T_int) (List.take (C.ti T_int).size (List.drop 3 c1))) fun v11 =>
 bind1 (ofSlots (C.ti T_S_Dec) (List.take (C.ti T_S_Dec).size (List.drop 6 c1))) fun v13 =>
 back (noPan (cal cw true (tgtV (.val (.fn F_ref05_Bare [])) [v13]) s)) fun v14 s_1 =>
 bind1 (buildS (C.ti T_Exp).zero [(0, (C.ti T_ExpKind).size, v7), (2, (C.ti T_string).size, v9), (3, (C.ti T_int).size, v11), (6, (C.ti T_S_Dec).size, v14)]) fun v15 =>
 bindL (boxCells (C.ti T_Exp) v15) fun c =>
 bindL (putAt (List.map .val (C.ti T_Exp).zero) 0 c) fun c3 =>
 ref05_BareExp_l0 (c1) ((List.map .val (C.ti T_Exp).zero)) (c3) ((.val (.int .i64 0))) s_1 := (callw_f _ _ _).trans (by kernel_rfl)

/- 84 (camlet/tree.thing).wrongDec -/
noncomputable def tree_thing_wrongDec_j0 : List Slot → Slot → Slot → Slot → Slot → St → Res := fun x1 x3 x5 x7 x8 s => pw (run C false F_tree_thing_wrongDec (codeAt [.seqR, .seqR, .seqR, .seqR, .seqR] (body Go.Proofs.Try.f84)) [(1, .var x1), (3, .s x3), (5, .s x5), (7, .s x7), (8, .s x8)] s (ctxR C false F_tree_thing_wrongDec [.seqR, .seqR, .seqR, .seqR, .seqR] (body Go.Proofs.Try.f84) (outK C (Go.Proofs.Try.f84).results.toList)))
theorem tree_thing_wrongDec_j0_eq (x1 : List Slot) (x3 : Slot) (x5 : Slot) (x7 : Slot) (x8 : Slot) (s_1 : St) : tree_thing_wrongDec_j0 x1 x3 x5 x7 x8 s_1 =
 bind1 (unS .not x8) fun v91 =>
 bindB (Slot.isB v91 false) fun w_9 =>
 bindB (Slot.isB v91 false) fun w_10 =>
 bind1 (gd w_10 (bif w_9 then (ofSlots (C.ti T_bool) (List.take (C.ti T_bool).size (List.drop 1 x1))) else none)) fun v94 =>
 bindB (Slot.isB v91 false) fun w_11 =>
 bindB (Slot.isB (gdV w_11 v94) true) fun w_12 =>
 bindB (Slot.isB (gdV w_11 v94) true) fun w_13 =>
 bind1 (gd w_13 (nilCheckV (gdV w_12 x3))) fun v97 =>
 bindB (Slot.isB (gdV w_11 v94) true) fun w_14 =>
 bind1 (gd w_14 (faV 0 v97)) fun v98 =>
 bindB (Slot.isB (gdV w_11 v94) true) fun w_15 =>
 bind1 (gd w_15 (ldV (C.ti T_DecKind) false s_1 v98)) fun v99 =>
 bindB (Slot.isB (gdV w_11 v94) true) fun w_16 =>
 bind1 (gd w_16 (binS (C.ti T_DecKind) .neq v99 (.val (.int .i64 1)))) fun v100 =>
 bindB (Slot.isB v91 false) fun w_17 =>
 bind1 (gd w_17 (pickS (gdV w_11 v94) v100 (.val (.bool false)))) fun v101 =>
 bindB (Slot.isB v91 false) fun w_18 =>
 bindB (Slot.isB (gdV w_18 v101) true) fun w_19 =>
 bindB (Slot.isB (gdV w_18 v101) true) fun w_20 =>
 bind1 (gd w_20 (nilCheckV (gdV w_19 x3))) fun v104 =>
 bindB (Slot.isB (gdV w_18 v101) true) fun w_21 =>
 bind1 (gd w_21 (faV 0 v104)) fun v105 =>
 bindB (Slot.isB (gdV w_18 v101) true) fun w_22 =>
 bind1 (gd w_22 (ldV (C.ti T_DecKind) false s_1 v105)) fun v106 =>
 bindB (Slot.isB (gdV w_18 v101) true) fun w_23 =>
 bind1 (gd w_23 (binS (C.ti T_DecKind) .neq v106 (.val (.int .i64 2)))) fun v107 =>
 bindB (Slot.isB v91 false) fun w_24 =>
 bind1 (gd w_24 (pickS (gdV w_18 v101) v107 (.val (.bool false)))) fun v108 =>
 bind1 (pickS v91 (.val (.bool true)) v108) fun v109 =>
 condS v109 (
 some (.ret (.val (.int .i64 29)), s_1)) (
 bind1 (nilCheckV x3) fun v111 =>
 bind1 (faV 0 v111) fun v112 =>
 bind1 (ldV (C.ti T_DecKind) false s_1 v112) fun v113 =>
 bind1 (binS (C.ti T_DecKind) .eql v113 (.val (.int .i64 1))) fun v115 =>
 condS v115 (
 bind1 (nilCheckV x3) fun v117 =>
 bind1 (faV 5 v117) fun v118 =>
 bind1 (ldV (C.ti T_S_Case) false s_1 v118) fun v119 =>
 bind1 (lenS (C.ti T_S_Case) v119) fun v120 =>
 bind1 (binS (C.ti T_int) .eql v120 (.val (.int .i64 1))) fun v121 =>
 bind1 (unS .not v121) fun v165 =>
 condS v165 (
 some (.ret (.val (.int .i64 19)), s_1)) (
 some (.ret (.val (.int .i64 0)), s_1))) (
 bind1 (binS (C.ti T_DecKind) .eql v113 (.val (.int .i64 2))) fun v123 =>
 condS v123 (
 bind1 (unS .not x5) fun v165_1 =>
 condS v165_1 (
 some (.ret (.val (.int .i64 19)), s_1)) (
 some (.ret (.val (.int .i64 0)), s_1))) (
 bind1 (binS (C.ti T_DecKind) .eql v113 (.val (.int .i64 3))) fun v126 =>
 condS v126 (
 bind1 (nilCheckV x3) fun v128 =>
 bind1 (faV 2 v128) fun v129 =>
 bind1 (ldV (C.ti T_string) false s_1 v129) fun v130 =>
 back (cal cw true (tgtV (.val (.fn F_tree_low [])) [v130]) s_1) fun v131 s_2 =>
 bind1 (unS .not v131) fun v132 =>
 condS v132 (
 some (.ret (.val (.int .i64 8)), s_2)) (
 bind1 (nilCheckV x3) fun v134 =>
 bind1 (faV 3 v134) fun v135 =>
 bind1 (ldV (C.ti T_int) false s_2 v135) fun v136 =>
 bind1 (binS (C.ti T_int) .geq v136 (.val (.int .i64 0))) fun v137 =>
 bindB (Slot.isB v137 true) fun w_25 =>
 bindB (Slot.isB v137 true) fun w_26 =>
 bind1 (gd w_26 (nilCheckV (gdV w_25 x3))) fun v140 =>
 bindB (Slot.isB v137 true) fun w_27 =>
 bind1 (gd w_27 (faV 3 v140)) fun v141 =>
 bindB (Slot.isB v137 true) fun w_28 =>
 bind1 (gd w_28 (ldV (C.ti T_int) false s_2 v141)) fun v142 =>
 bindB (Slot.isB v137 true) fun w_29 =>
 bind1 (gd w_29 (binS (C.ti T_int) .leq v142 (.val (.int .i64 8)))) fun v143 =>
 bind1 (pickS v137 v143 (.val (.bool false))) fun v144 =>
 bindB (Slot.isB v144 true) fun w_30 =>
 bind1 (pickS v144 (gdV w_30 x7) (.val (.bool false))) fun v147 =>
 bindB (Slot.isB v147 true) fun w_31 =>
 bindB (Slot.isB v147 true) fun w_32 =>
 bind1 (gd w_32 (nilCheckV (gdV w_31 x3))) fun v150 =>
 bindB (Slot.isB v147 true) fun w_33 =>
 bind1 (gd w_33 (faV 4 v150)) fun v151 =>
 bindB (Slot.isB v147 true) fun w_34 =>
 bind1 (gd w_34 (ldV (C.ti T_S_Con) false s_2 v151)) fun v152 =>
 bindB (Slot.isB v147 true) fun w_35 =>
 bind1 (gd w_35 (lenS (C.ti T_S_Con) v152)) fun v153 =>
 bindB (Slot.isB v147 true) fun w_36 =>
 bind1 (gd w_36 (binS (C.ti T_int) .leq v153 (.val (.int .i64 64)))) fun v154 =>
 bind1 (pickS v147 v154 (.val (.bool false))) fun v155 =>
 bind1 (unS .not v155) fun v165_2 =>
 condS v165_2 (
 some (.ret (.val (.int .i64 19)), s_2)) (
 some (.ret (.val (.int .i64 0)), s_2)))) (
 bind1 (binS (C.ti T_DecKind) .eql v113 (.val (.int .i64 4))) fun v157 =>
 condS v157 (
 bind1 (nilCheckV x3) fun v159 =>
 bind1 (faV 4 v159) fun v160 =>
 bind1 (ldV (C.ti T_S_Con) false s_1 v160) fun v161 =>
 bind1 (lenS (C.ti T_S_Con) v161) fun v162 =>
 bind1 (binS (C.ti T_int) .eql v162 (.val (.int .i64 1))) fun v163 =>
 bind1 (unS .not v163) fun v165_3 =>
 condS v165_3 (
 some (.ret (.val (.int .i64 19)), s_1)) (
 some (.ret (.val (.int .i64 0)), s_1))) (
 bind1 (unS .not (.val (.bool true))) fun v165_4 =>
 condS v165_4 (
 some (.ret (.val (.int .i64 19)), s_1)) (
 some (.ret (.val (.int .i64 0)), s_1))))))) := by unfold tree_thing_wrongDec_j0; exact (pw_eq _).trans (by kernel_rfl)
theorem tree_thing_wrongDec_eq (a0 : AV) (s : St) : cw (.f F_tree_thing_wrongDec) [a0] s =
 bindL (boxCells (C.ti T_thing) (.val a0)) fun c1 =>
 bind1 (ofSlots (C.ti T_P_Dec) (List.take (C.ti T_P_Dec).size (List.drop 0 c1))) fun v11 =>
 bind1 (nilCheckV v11) fun v13 =>
 bind1 (faV 5 v13) fun v14 =>
 bind1 (ldV (C.ti T_S_Case) false s v14) fun v15 =>
 bind1 (lenS (C.ti T_S_Case) v15) fun v16 =>
 bind1 (binS (C.ti T_int) .gtr v16 (.val (.int .i64 0))) fun v17 =>
 bind1 (nilCheckV v11) fun v19 =>
 bind1 (faV 6 v19) fun v20 =>
 bind1 (ldV (C.ti T_S_Fun) false s v20) fun v21 =>
 bind1 (lenS (C.ti T_S_Fun) v21) fun v22 =>
 bind1 (binS (C.ti T_int) .gtr v22 (.val (.int .i64 0))) fun v23 =>
 bind1 (nilCheckV v11) fun v25 =>
 bind1 (faV 2 v25) fun v26 =>
 bind1 (ldV (C.ti T_string) false s v26) fun v27 =>
 bind1 (binS (C.ti T_string) .neq v27 (.val (.str []))) fun v28 =>
 bindB (Slot.isB v28 false) fun w =>
 bindB (Slot.isB v28 false) fun w_1 =>
 bind1 (gd w_1 (nilCheckV (gdV w v11))) fun v31 =>
 bindB (Slot.isB v28 false) fun w_2 =>
 bind1 (gd w_2 (faV 3 v31)) fun v32 =>
 bindB (Slot.isB v28 false) fun w_3 =>
 bind1 (gd w_3 (ldV (C.ti T_int) false s v32)) fun v33 =>
 bindB (Slot.isB v28 false) fun w_4 =>
 bind1 (gd w_4 (binS (C.ti T_int) .neq v33 (.val (.int .i64 0)))) fun v34 =>
 bind1 (pickS v28 (.val (.bool true)) v34) fun v35 =>
 bind1 (nilCheckV v11) fun v37 =>
 bind1 (faV 4 v37) fun v38 =>
 bind1 (ldV (C.ti T_S_Con) false s v38) fun v39 =>
 bind1 (lenS (C.ti T_S_Con) v39) fun v40 =>
 bind1 (binS (C.ti T_int) .gtr v40 (.val (.int .i64 0))) fun v41 =>
 bind1 (nilCheckV v11) fun v43 =>
 bind1 (faV 0 v43) fun v44 =>
 bind1 (ldV (C.ti T_DecKind) false s v44) fun v45 =>
 bind1 (binS (C.ti T_DecKind) .eql v45 (.val (.int .i64 1))) fun v47 =>
 condS v47 (
 bind1 (unS .not v23) fun v49 =>
 bindB (Slot.isB v49 true) fun w_5 =>
 bindB (Slot.isB v49 true) fun w_6 =>
 bind1 (gd w_6 (unS .not (gdV w_5 v35))) fun v52 =>
 bind1 (pickS v49 v52 (.val (.bool false))) fun v53 =>
 bindB (Slot.isB v53 true) fun w_7 =>
 bindB (Slot.isB v53 true) fun w_8 =>
 bind1 (gd w_8 (unS .not (gdV w_7 v41))) fun v56 =>
 bind1 (pickS v53 v56 (.val (.bool false))) fun v57 =>
 tree_thing_wrongDec_j0 (c1) (v11) (v23) (v41) (v57) s) (
 bind1 (binS (C.ti T_DecKind) .eql v45 (.val (.int .i64 2))) fun v59 =>
 condS v59 (
 bind1 (unS .not v17) fun v61 =>
 bindB (Slot.isB v61 true) fun w_37 =>
 bindB (Slot.isB v61 true) fun w_38 =>
 bind1 (gd w_38 (unS .not (gdV w_37 v35))) fun v64 =>
 bind1 (pickS v61 v64 (.val (.bool false))) fun v65 =>
 bindB (Slot.isB v65 true) fun w_39 =>
 bindB (Slot.isB v65 true) fun w_40 =>
 bind1 (gd w_40 (unS .not (gdV w_39 v41))) fun v68 =>
 bind1 (pickS v65 v68 (.val (.bool false))) fun v69 =>
 tree_thing_wrongDec_j0 (c1) (v11) (v23) (v41) (v69) s) (
 bind1 (binS (C.ti T_DecKind) .eql v45 (.val (.int .i64 3))) fun v71 =>
 condS v71 (
 bind1 (unS .not v17) fun v73 =>
 bindB (Slot.isB v73 true) fun w_41 =>
 bindB (Slot.isB v73 true) fun w_42 =>
 bind1 (gd w_42 (unS .not (gdV w_41 v23))) fun v76 =>
 bind1 (pickS v73 v76 (.val (.bool false))) fun v77 =>
 tree_thing_wrongDec_j0 (c1) (v11) (v23) (v41) (v77) s) (
 bind1 (binS (C.ti T_DecKind) .eql v45 (.val (.int .i64 4))) fun v79 =>
 condS v79 (
 bind1 (unS .not v17) fun v81 =>
 bindB (Slot.isB v81 true) fun w_43 =>
 bindB (Slot.isB v81 true) fun w_44 =>
 bind1 (gd w_44 (unS .not (gdV w_43 v23))) fun v84 =>
 bind1 (pickS v81 v84 (.val (.bool false))) fun v85 =>
 bindB (Slot.isB v85 true) fun w_45 =>
 bindB (Slot.isB v85 true) fun w_46 =>
 bind1 (gd w_46 (unS .not (gdV w_45 v35))) fun v88 =>
 bind1 (pickS v85 v88 (.val (.bool false))) fun v89 =>
 tree_thing_wrongDec_j0 (c1) (v11) (v23) (v41) (v89) s) (
 tree_thing_wrongDec_j0 (c1) (v11) (v23) (v41) ((.val (.bool false))) s)))) := (callw_f _ _ _).trans (by kernel_rfl)

/- 85 camlet/tree.low -/
theorem tree_low_eq (a0 : AV) (s : St) : cw (.f F_tree_low) [a0] s =
 bind1 (binS (C.ti T_string) .neq (.val a0) (.val (.str []))) fun v4 =>
 bindB (Slot.isB v4 true) fun w =>
 bindB (Slot.isB v4 true) fun w_1 =>
 bind1 (gd w_1 (indexS (C.ti T_string) (C.ti T_0) (gdV w (.val a0)) (.val (.int .i64 0)))) fun v7 =>
 bindB (Slot.isB v4 true) fun w_2 =>
 back (cal cw w_2 (tgtV (.val (.fn F_tree_small [])) [v7]) s) fun v8 s_1 =>
 bind1 (pickS v4 v8 (.val (.bool false))) fun v9 =>
 bindB (Slot.isB v9 true) fun w_3 =>
 bindB (Slot.isB v9 true) fun w_4 =>
 back (cal cw w_4 (tgtV (.val (.fn F_tree_run [])) [(gdV w_3 (.val a0))]) s_1) fun v12 s_2 =>
 bind1 (pickS v9 v12 (.val (.bool false))) fun v13 =>
 bindB (Slot.isB v13 true) fun w_5 =>
 bindB (Slot.isB v13 true) fun w_6 =>
 bind1 (gd w_6 (binS (C.ti T_string) .add (.val (.str [32])) (gdV w_5 (.val a0)))) fun v16 =>
 bindB (Slot.isB v13 true) fun w_7 =>
 bind1 (gd w_7 (binS (C.ti T_string) .add v16 (.val (.str [32])))) fun v17 =>
 bindB (Slot.isB v13 true) fun w_8 =>
 back (cal cw w_8 (tgtV (.val (.fn F_strings_Contains [])) [(.val (.str K_80c441cf)), v17]) s_2) fun v18 s_3 =>
 bindB (Slot.isB v13 true) fun w_9 =>
 bind1 (gd w_9 (unS .not v18)) fun v19 =>
 bind1 (pickS v13 v19 (.val (.bool false))) fun v20 =>
 some (.ret v20, s_3) := (callw_f _ _ _).trans (by kernel_rfl)

/- 86 camlet/tree.wrongCon -/
theorem tree_wrongCon_eq (a0 : AV) (s : St) : cw (.f F_tree_wrongCon) [a0] s =
 bindL (boxCells (C.ti T_Con) (.val a0)) fun c1 =>
 bind1 (ofSlots (C.ti T_Ty) (List.take (C.ti T_Ty).size (List.drop 3 c1))) fun v5 =>
 bindL (boxCells (C.ti T_Ty) v5) fun c =>
 bindL (putAt (List.map .val (C.ti T_Ty).zero) 0 c) fun c3 =>
 bind1 (ofSlots (C.ti T_bool) (List.take (C.ti T_bool).size (List.drop 2 c1))) fun v8 =>
 bind1 (unS .not v8) fun v9 =>
 bindB (Slot.isB v9 true) fun w =>
 bindB (Slot.isB v9 true) fun w_1 =>
 bind1 (gd w_1 (bif w then (ofSlots (C.ti T_TyKind) (List.take (C.ti T_TyKind).size (List.drop 0 c3))) else none)) fun v12 =>
 bindB (Slot.isB v9 true) fun w_2 =>
 bind1 (gd w_2 (binS (C.ti T_TyKind) .neq v12 (.val (.int .i64 0)))) fun v13 =>
 bindB (Slot.isB v9 true) fun w_3 =>
 bindB (Slot.isB (gdV w_3 v13) false) fun w_4 =>
 bindB (Slot.isB (gdV w_3 v13) false) fun w_5 =>
 bind1 (gd w_5 (bif w_4 then (ofSlots (C.ti T_int) (List.take (C.ti T_int).size (List.drop 1 c3))) else none)) fun v16 =>
 bindB (Slot.isB (gdV w_3 v13) false) fun w_6 =>
 bind1 (gd w_6 (binS (C.ti T_int) .neq v16 (.val (.int .i64 0)))) fun v17 =>
 bindB (Slot.isB v9 true) fun w_7 =>
 bind1 (gd w_7 (pickS (gdV w_3 v13) (.val (.bool true)) v17)) fun v18 =>
 bindB (Slot.isB v9 true) fun w_8 =>
 bindB (Slot.isB (gdV w_8 v18) false) fun w_9 =>
 bindB (Slot.isB (gdV w_8 v18) false) fun w_10 =>
 bind1 (gd w_10 (bif w_9 then (ofSlots (C.ti T_string) (List.take (C.ti T_string).size (List.drop 2 c3))) else none)) fun v21 =>
 bindB (Slot.isB (gdV w_8 v18) false) fun w_11 =>
 bind1 (gd w_11 (binS (C.ti T_string) .neq v21 (.val (.str [])))) fun v22 =>
 bindB (Slot.isB v9 true) fun w_12 =>
 bind1 (gd w_12 (pickS (gdV w_8 v18) (.val (.bool true)) v22)) fun v23 =>
 bindB (Slot.isB v9 true) fun w_13 =>
 bindB (Slot.isB (gdV w_13 v23) false) fun w_14 =>
 bindB (Slot.isB (gdV w_13 v23) false) fun w_15 =>
 bind1 (gd w_15 (bif w_14 then (ofSlots (C.ti T_S_Ty) (List.take (C.ti T_S_Ty).size (List.drop 3 c3))) else none)) fun v26 =>
 bindB (Slot.isB (gdV w_13 v23) false) fun w_16 =>
 bind1 (gd w_16 (lenS (C.ti T_S_Ty) v26)) fun v27 =>
 bindB (Slot.isB (gdV w_13 v23) false) fun w_17 =>
 bind1 (gd w_17 (binS (C.ti T_int) .gtr v27 (.val (.int .i64 0)))) fun v28 =>
 bindB (Slot.isB v9 true) fun w_18 =>
 bind1 (gd w_18 (pickS (gdV w_13 v23) (.val (.bool true)) v28)) fun v29 =>
 bind1 (pickS v9 v29 (.val (.bool false))) fun v30 =>
 condS v30 (
 some (.ret (.val (.int .i64 29)), s)) (
 bind1 (ofSlots (C.ti T_string) (List.take (C.ti T_string).size (List.drop 0 c1))) fun v33 =>
 back (cal cw true (tgtV (.val (.fn F_tree_capital [])) [v33]) s) fun v34 s_1 =>
 bind1 (unS .not v34) fun v35 =>
 condS v35 (
 some (.ret (.val (.int .i64 8)), s_1)) (
 some (.ret (.val (.int .i64 0)), s_1))) := (callw_f _ _ _).trans (by kernel_rfl)

end Go.Proofs.Ytemfpnlpnmglfaa
