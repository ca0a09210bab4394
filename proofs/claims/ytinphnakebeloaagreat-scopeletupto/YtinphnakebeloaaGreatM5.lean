/- A part of the proof: G3, PTree, RDec, RBase0, RBase2, RBase, SRef1. -/
import Derived.Test.YtinphnakebeloaaGreatM4
import Derived.Test.YtinphnakebeloaaGreatRows
import Derived.Test.YtinphnakebeloaaGreatShelf
import Derived.ChangeSame
import Derived.ReadAgain
import Derived.ChangeOld
import Derived.Deep.DeepHandedRow
import Derived.WalkKit
import Derived.ProofKit
import Derived.OpenShut
set_option linter.unusedVariables false
set_option linter.unusedSimpArgs false
namespace Go.Proofs.YtinphnakebeloaaGreat
open Go Go.Am
set_option linter.unusedVariables false
/- 108 camlet/camletref05.dec -/
theorem ref05_dec_eq (a0 : AV) (a1 : AV) (s : St) : cw (.f F_ref05_dec) [a0, a1] s =
 bx T_Dec (.val a0) fun c2 =>
 gC T_DecKind 0 c2 fun v10 =>
 bn T_DecKind .eql v10 (.val (.int .i64 1)) fun v11 =>
 gC T_DecKind 0 c2 fun v13 =>
 bn T_DecKind .eql v13 (.val (.int .i64 2)) fun v14 =>
 gC T_DecKind 0 c2 fun v16 =>
 bn T_DecKind .eql v16 (.val (.int .i64 3)) fun v17 =>
 gC T_DecKind 0 c2 fun v19 =>
 bn T_DecKind .eql v19 (.val (.int .i64 4)) fun v20 =>
 bind1 (unS .not v11) fun v22 =>
 bindB (Slot.isB v22 true) fun w =>
 bindB (Slot.isB v22 true) fun w_1 =>
 bind1 (gd w_1 (unS .not (gdV w v14))) fun v25 =>
 bind1 (pickS v22 v25 (.val (.bool false))) fun v26 =>
 bindB (Slot.isB v26 true) fun w_2 =>
 bindB (Slot.isB v26 true) fun w_3 =>
 bind1 (gd w_3 (unS .not (gdV w_2 v17))) fun v29 =>
 bind1 (pickS v26 v29 (.val (.bool false))) fun v30 =>
 bindB (Slot.isB v30 true) fun w_4 =>
 bindB (Slot.isB v30 true) fun w_5 =>
 bind1 (gd w_5 (unS .not (gdV w_4 v20))) fun v33 =>
 bind1 (pickS v30 v33 (.val (.bool false))) fun v34 =>
 bindB (Slot.isB v34 false) fun w_6 =>
 bindB (Slot.isB v34 false) fun w_7 =>
 bindB (Slot.isB (gdV w_7 (gdV w_6 (.val a1))) true) fun w_8 =>
 bindB (Slot.isB (gdV w_7 (gdV w_6 (.val a1))) true) fun w_9 =>
 bind1 (gd w_9 (unS .not (gdV w_8 v11))) fun v39 =>
 bindB (Slot.isB v34 false) fun w_10 =>
 bind1 (gd w_10 (pickS (gdV w_7 (gdV w_6 (.val a1))) v39 (.val (.bool false)))) fun v40 =>
 bindB (Slot.isB v34 false) fun w_11 =>
 bindB (Slot.isB (gdV w_11 v40) true) fun w_12 =>
 bindB (Slot.isB (gdV w_11 v40) true) fun w_13 =>
 bind1 (gd w_13 (unS .not (gdV w_12 v14))) fun v43 =>
 bindB (Slot.isB v34 false) fun w_14 =>
 bind1 (gd w_14 (pickS (gdV w_11 v40) v43 (.val (.bool false)))) fun v44 =>
 bind1 (pickS v34 (.val (.bool true)) v44) fun v45 =>
 condS v45 (
 some (.ret (.val (.int .i64 29)), s)) (
 bind1 (unS .not v11) fun v47 =>
 bindB (Slot.isB v47 true) fun w_15 =>
 bindB (Slot.isB v47 true) fun w_16 =>
 bind1 (gd w_16 (bif w_15 then (ofSlots (C.ti T_S_Case) (List.take (C.ti T_S_Case).size (List.drop 5 c2))) else none)) fun v50 =>
 bindB (Slot.isB v47 true) fun w_17 =>
 bind1 (gd w_17 (lenS (C.ti T_S_Case) v50)) fun v51 =>
 bindB (Slot.isB v47 true) fun w_18 =>
 bind1 (gd w_18 (binS (C.ti T_int) .gtr v51 (.val (.int .i64 0)))) fun v52 =>
 bind1 (pickS v47 v52 (.val (.bool false))) fun v53 =>
 bindB (Slot.isB v53 false) fun w_19 =>
 bindB (Slot.isB v53 false) fun w_20 =>
 bind1 (gd w_20 (unS .not (gdV w_19 v14))) fun v56 =>
 bindB (Slot.isB v53 false) fun w_21 =>
 bindB (Slot.isB (gdV w_21 v56) true) fun w_22 =>
 bindB (Slot.isB (gdV w_21 v56) true) fun w_23 =>
 bind1 (gd w_23 (bif w_22 then (ofSlots (C.ti T_S_Fun) (List.take (C.ti T_S_Fun).size (List.drop 6 c2))) else none)) fun v59 =>
 bindB (Slot.isB (gdV w_21 v56) true) fun w_24 =>
 bind1 (gd w_24 (lenS (C.ti T_S_Fun) v59)) fun v60 =>
 bindB (Slot.isB (gdV w_21 v56) true) fun w_25 =>
 bind1 (gd w_25 (binS (C.ti T_int) .gtr v60 (.val (.int .i64 0)))) fun v61 =>
 bindB (Slot.isB v53 false) fun w_26 =>
 bind1 (gd w_26 (pickS (gdV w_21 v56) v61 (.val (.bool false)))) fun v62 =>
 bind1 (pickS v53 (.val (.bool true)) v62) fun v63 =>
 bindB (Slot.isB v63 false) fun w_27 =>
 bindB (Slot.isB v63 false) fun w_28 =>
 bind1 (gd w_28 (unS .not (gdV w_27 v17))) fun v66 =>
 bindB (Slot.isB v63 false) fun w_29 =>
 bindB (Slot.isB (gdV w_29 v66) true) fun w_30 =>
 bindB (Slot.isB (gdV w_29 v66) true) fun w_31 =>
 bind1 (gd w_31 (bif w_30 then (ofSlots (C.ti T_string) (List.take (C.ti T_string).size (List.drop 2 c2))) else none)) fun v69 =>
 bindB (Slot.isB (gdV w_29 v66) true) fun w_32 =>
 bind1 (gd w_32 (binS (C.ti T_string) .neq v69 (.val (.str [])))) fun v70 =>
 bindB (Slot.isB (gdV w_29 v66) true) fun w_33 =>
 bindB (Slot.isB (gdV w_33 v70) false) fun w_34 =>
 bindB (Slot.isB (gdV w_33 v70) false) fun w_35 =>
 bind1 (gd w_35 (bif w_34 then (ofSlots (C.ti T_int) (List.take (C.ti T_int).size (List.drop 3 c2))) else none)) fun v73 =>
 bindB (Slot.isB (gdV w_33 v70) false) fun w_36 =>
 bind1 (gd w_36 (binS (C.ti T_int) .neq v73 (.val (.int .i64 0)))) fun v74 =>
 bindB (Slot.isB (gdV w_29 v66) true) fun w_37 =>
 bind1 (gd w_37 (pickS (gdV w_33 v70) (.val (.bool true)) v74)) fun v75 =>
 bindB (Slot.isB v63 false) fun w_38 =>
 bind1 (gd w_38 (pickS (gdV w_29 v66) v75 (.val (.bool false)))) fun v76 =>
 bind1 (pickS v63 (.val (.bool true)) v76) fun v77 =>
 bindB (Slot.isB v77 false) fun w_39 =>
 bindB (Slot.isB v77 false) fun w_40 =>
 bind1 (gd w_40 (unS .not (gdV w_39 v17))) fun v80 =>
 bindB (Slot.isB v77 false) fun w_41 =>
 bindB (Slot.isB (gdV w_41 v80) true) fun w_42 =>
 bindB (Slot.isB (gdV w_41 v80) true) fun w_43 =>
 bind1 (gd w_43 (unS .not (gdV w_42 v20))) fun v83 =>
 bindB (Slot.isB v77 false) fun w_44 =>
 bind1 (gd w_44 (pickS (gdV w_41 v80) v83 (.val (.bool false)))) fun v84 =>
 bindB (Slot.isB v77 false) fun w_45 =>
 bindB (Slot.isB (gdV w_45 v84) true) fun w_46 =>
 bindB (Slot.isB (gdV w_45 v84) true) fun w_47 =>
 bind1 (gd w_47 (bif w_46 then (ofSlots (C.ti T_S_Con) (List.take (C.ti T_S_Con).size (List.drop 4 c2))) else none)) fun v87 =>
 bindB (Slot.isB (gdV w_45 v84) true) fun w_48 =>
 bind1 (gd w_48 (lenS (C.ti T_S_Con) v87)) fun v88 =>
 bindB (Slot.isB (gdV w_45 v84) true) fun w_49 =>
 bind1 (gd w_49 (binS (C.ti T_int) .gtr v88 (.val (.int .i64 0)))) fun v89 =>
 bindB (Slot.isB v77 false) fun w_50 =>
 bind1 (gd w_50 (pickS (gdV w_45 v84) v89 (.val (.bool false)))) fun v90 =>
 bind1 (pickS v77 (.val (.bool true)) v90) fun v91 =>
 condS v91 (
 some (.ret (.val (.int .i64 29)), s)) (
 bindB (Slot.isB v17 true) fun w_51 =>
 bindB (Slot.isB v17 true) fun w_52 =>
 bind1 (gd w_52 (bif w_51 then (ofSlots (C.ti T_string) (List.take (C.ti T_string).size (List.drop 2 c2))) else none)) fun v95 =>
 bindB (Slot.isB v17 true) fun w_53 =>
 cg w_53 F_ref05_Low [v95] s fun v96 s_1 =>
 bindB (Slot.isB v17 true) fun w_54 =>
 bind1 (gd w_54 (unS .not v96)) fun v97 =>
 bind1 (pickS v17 v97 (.val (.bool false))) fun v98 =>
 condS v98 (
 some (.ret (.val (.int .i64 8)), s_1)) (
 bindB (Slot.isB v11 true) fun w_55 =>
 bindB (Slot.isB v11 true) fun w_56 =>
 bind1 (gd w_56 (bif w_55 then (ofSlots (C.ti T_S_Case) (List.take (C.ti T_S_Case).size (List.drop 5 c2))) else none)) fun v102 =>
 bindB (Slot.isB v11 true) fun w_57 =>
 bind1 (gd w_57 (lenS (C.ti T_S_Case) v102)) fun v103 =>
 bindB (Slot.isB v11 true) fun w_58 =>
 bind1 (gd w_58 (binS (C.ti T_int) .neq v103 (.val (.int .i64 1)))) fun v104 =>
 bind1 (pickS v11 v104 (.val (.bool false))) fun v105 =>
 bindB (Slot.isB v105 false) fun w_59 =>
 bindB (Slot.isB v105 false) fun w_60 =>
 bindB (Slot.isB (gdV w_60 (gdV w_59 v14)) true) fun w_61 =>
 bindB (Slot.isB (gdV w_60 (gdV w_59 v14)) true) fun w_62 =>
 bind1 (gd w_62 (bif w_61 then (ofSlots (C.ti T_S_Fun) (List.take (C.ti T_S_Fun).size (List.drop 6 c2))) else none)) fun v110 =>
 bindB (Slot.isB (gdV w_60 (gdV w_59 v14)) true) fun w_63 =>
 bind1 (gd w_63 (lenS (C.ti T_S_Fun) v110)) fun v111 =>
 bindB (Slot.isB (gdV w_60 (gdV w_59 v14)) true) fun w_64 =>
 bind1 (gd w_64 (binS (C.ti T_int) .lss v111 (.val (.int .i64 1)))) fun v112 =>
 bindB (Slot.isB v105 false) fun w_65 =>
 bind1 (gd w_65 (pickS (gdV w_60 (gdV w_59 v14)) v112 (.val (.bool false)))) fun v113 =>
 bind1 (pickS v105 (.val (.bool true)) v113) fun v114 =>
 bindB (Slot.isB v114 false) fun w_66 =>
 bindB (Slot.isB v114 false) fun w_67 =>
 bindB (Slot.isB (gdV w_67 (gdV w_66 v17)) true) fun w_68 =>
 bindB (Slot.isB (gdV w_67 (gdV w_66 v17)) true) fun w_69 =>
 bind1 (gd w_69 (bif w_68 then (ofSlots (C.ti T_int) (List.take (C.ti T_int).size (List.drop 3 c2))) else none)) fun v119 =>
 bindB (Slot.isB (gdV w_67 (gdV w_66 v17)) true) fun w_70 =>
 cg w_70 F_ref05_is [v119, (.val (.int .i64 0)), (.val (.int .i64 8))] s_1 fun v120 s_2 =>
 bindB (Slot.isB (gdV w_67 (gdV w_66 v17)) true) fun w_71 =>
 bind1 (gd w_71 (unS .not v120)) fun v121 =>
 bindB (Slot.isB (gdV w_67 (gdV w_66 v17)) true) fun w_72 =>
 bindB (Slot.isB (gdV w_72 v121) false) fun w_73 =>
 bindB (Slot.isB (gdV w_72 v121) false) fun w_74 =>
 bind1 (gd w_74 (bif w_73 then (ofSlots (C.ti T_S_Con) (List.take (C.ti T_S_Con).size (List.drop 4 c2))) else none)) fun v124 =>
 bindB (Slot.isB (gdV w_72 v121) false) fun w_75 =>
 bind1 (gd w_75 (lenS (C.ti T_S_Con) v124)) fun v125 =>
 bindB (Slot.isB (gdV w_72 v121) false) fun w_76 =>
 cg w_76 F_ref05_is [v125, (.val (.int .i64 1)), (.val (.int .i64 64))] s_2 fun v126 s_3 =>
 bindB (Slot.isB (gdV w_72 v121) false) fun w_77 =>
 bind1 (gd w_77 (unS .not v126)) fun v127 =>
 bindB (Slot.isB (gdV w_67 (gdV w_66 v17)) true) fun w_78 =>
 bind1 (gd w_78 (pickS (gdV w_72 v121) (.val (.bool true)) v127)) fun v128 =>
 bindB (Slot.isB v114 false) fun w_79 =>
 bind1 (gd w_79 (pickS (gdV w_67 (gdV w_66 v17)) v128 (.val (.bool false)))) fun v129 =>
 bind1 (pickS v114 (.val (.bool true)) v129) fun v130 =>
 bindB (Slot.isB v130 false) fun w_80 =>
 bindB (Slot.isB v130 false) fun w_81 =>
 bindB (Slot.isB (gdV w_81 (gdV w_80 v20)) true) fun w_82 =>
 bindB (Slot.isB (gdV w_81 (gdV w_80 v20)) true) fun w_83 =>
 bind1 (gd w_83 (bif w_82 then (ofSlots (C.ti T_S_Con) (List.take (C.ti T_S_Con).size (List.drop 4 c2))) else none)) fun v135 =>
 bindB (Slot.isB (gdV w_81 (gdV w_80 v20)) true) fun w_84 =>
 bind1 (gd w_84 (lenS (C.ti T_S_Con) v135)) fun v136 =>
 bindB (Slot.isB (gdV w_81 (gdV w_80 v20)) true) fun w_85 =>
 bind1 (gd w_85 (binS (C.ti T_int) .neq v136 (.val (.int .i64 1)))) fun v137 =>
 bindB (Slot.isB v130 false) fun w_86 =>
 bind1 (gd w_86 (pickS (gdV w_81 (gdV w_80 v20)) v137 (.val (.bool false)))) fun v138 =>
 bind1 (pickS v130 (.val (.bool true)) v138) fun v139 =>
 condS v139 (
 some (.ret (.val (.int .i64 19)), s_3)) (
 some (.ret (.val (.int .i64 0)), s_3))))) := (callw_f _ _ _).trans (by kernel_rfl)
/- 109 camlet/camletref05.exp -/
theorem ref05_exp_eq (a0 : AV) (s : St) : cw (.f F_ref05_exp) [a0] s =
 bindL (boxCells (C.ti T_Exp) (.val a0)) fun c1 =>
 bind1 (ofSlots (C.ti T_ExpKind) (List.take (C.ti T_ExpKind).size (List.drop 0 c1))) fun v10 =>
 bind1 (binS (C.ti T_ExpKind) .lss v10 (.val (.int .i64 1))) fun v12 =>
 bindB (Slot.isB v12 false) fun w =>
 bindB (Slot.isB v12 false) fun w_1 =>
 bind1 (gd w_1 (binS (C.ti T_ExpKind) .gtr (gdV w v10) (.val (.int .i64 20)))) fun v15 =>
 bind1 (pickS v12 (.val (.bool true)) v15) fun v16 =>
 condS v16 (
 some (.ret (.val (.int .i64 29)), s)) (
 back (cal cw true (tgtV (.val (.fn F_ref05_kids [])) [v10]) s) fun v19 s_1 =>
 bind1 (extractS v19 0) fun v20 =>
 bind1 (extractS v19 1) fun v21 =>
 bind1 (extractS v19 2) fun v22 =>
 bind1 (binS (C.ti T_ExpKind) .eql v10 (.val (.int .i64 5))) fun v24 =>
 bindB (Slot.isB v24 false) fun w_2 =>
 bindB (Slot.isB v24 false) fun w_3 =>
 bind1 (gd w_3 (binS (C.ti T_ExpKind) .eql (gdV w_2 v10) (.val (.int .i64 9)))) fun v27 =>
 bind1 (pickS v24 (.val (.bool true)) v27) fun v28 =>
 bindB (Slot.isB v28 false) fun w_4 =>
 bindB (Slot.isB v28 false) fun w_5 =>
 bind1 (gd w_5 (binS (C.ti T_ExpKind) .eql (gdV w_4 v10) (.val (.int .i64 11)))) fun v31 =>
 bind1 (pickS v28 (.val (.bool true)) v31) fun v32 =>
 bind1 (binS (C.ti T_ExpKind) .eql v10 (.val (.int .i64 2))) fun v34 =>
 bindB (Slot.isB v34 false) fun w_6 =>
 bindB (Slot.isB v34 false) fun w_7 =>
 bind1 (gd w_7 (binS (C.ti T_ExpKind) .eql (gdV w_6 v10) (.val (.int .i64 3)))) fun v37 =>
 bind1 (pickS v34 (.val (.bool true)) v37) fun v38 =>
 bind1 (unS .not v38) fun v40 =>
 bindB (Slot.isB v40 true) fun w_8 =>
 bindB (Slot.isB v40 true) fun w_9 =>
 bind1 (gd w_9 (bif w_8 then (ofSlots (C.ti T_string) (List.take (C.ti T_string).size (List.drop 2 c1))) else none)) fun v43 =>
 bindB (Slot.isB v40 true) fun w_10 =>
 bind1 (gd w_10 (binS (C.ti T_string) .neq v43 (.val (.str [])))) fun v44 =>
 bind1 (pickS v40 v44 (.val (.bool false))) fun v45 =>
 bindB (Slot.isB v45 false) fun w_11 =>
 bindB (Slot.isB v45 false) fun w_12 =>
 bind1 (gd w_12 (binS (C.ti T_ExpKind) .neq (gdV w_11 v10) (.val (.int .i64 1)))) fun v48 =>
 bindB (Slot.isB v45 false) fun w_13 =>
 bindB (Slot.isB (gdV w_13 v48) true) fun w_14 =>
 bindB (Slot.isB (gdV w_13 v48) true) fun w_15 =>
 bind1 (gd w_15 (binS (C.ti T_ExpKind) .neq (gdV w_14 v10) (.val (.int .i64 13)))) fun v51 =>
 bindB (Slot.isB v45 false) fun w_16 =>
 bind1 (gd w_16 (pickS (gdV w_13 v48) v51 (.val (.bool false)))) fun v52 =>
 bindB (Slot.isB v45 false) fun w_17 =>
 bindB (Slot.isB (gdV w_17 v52) true) fun w_18 =>
 bindB (Slot.isB (gdV w_17 v52) true) fun w_19 =>
 bind1 (gd w_19 (bif w_18 then (ofSlots (C.ti T_int) (List.take (C.ti T_int).size (List.drop 3 c1))) else none)) fun v55 =>
 bindB (Slot.isB (gdV w_17 v52) true) fun w_20 =>
 bind1 (gd w_20 (binS (C.ti T_int) .neq v55 (.val (.int .i64 0)))) fun v56 =>
 bindB (Slot.isB v45 false) fun w_21 =>
 bind1 (gd w_21 (pickS (gdV w_17 v52) v56 (.val (.bool false)))) fun v57 =>
 bind1 (pickS v45 (.val (.bool true)) v57) fun v58 =>
 bindB (Slot.isB v58 false) fun w_22 =>
 bindB (Slot.isB v58 false) fun w_23 =>
 bind1 (gd w_23 (unS .not (gdV w_22 v22))) fun v61 =>
 bindB (Slot.isB v58 false) fun w_24 =>
 bindB (Slot.isB (gdV w_24 v61) true) fun w_25 =>
 bindB (Slot.isB (gdV w_24 v61) true) fun w_26 =>
 bind1 (gd w_26 (bif w_25 then (ofSlots (C.ti T_S_Exp) (List.take (C.ti T_S_Exp).size (List.drop 4 c1))) else none)) fun v64 =>
 bindB (Slot.isB (gdV w_24 v61) true) fun w_27 =>
 bind1 (gd w_27 (lenS (C.ti T_S_Exp) v64)) fun v65 =>
 bindB (Slot.isB (gdV w_24 v61) true) fun w_28 =>
 bind1 (gd w_28 (binS (C.ti T_int) .gtr v65 (.val (.int .i64 0)))) fun v66 =>
 bindB (Slot.isB v58 false) fun w_29 =>
 bind1 (gd w_29 (pickS (gdV w_24 v61) v66 (.val (.bool false)))) fun v67 =>
 bind1 (pickS v58 (.val (.bool true)) v67) fun v68 =>
 bindB (Slot.isB v68 false) fun w_30 =>
 bindB (Slot.isB v68 false) fun w_31 =>
 bind1 (gd w_31 (unS .not (gdV w_30 v32))) fun v71 =>
 bindB (Slot.isB v68 false) fun w_32 =>
 bindB (Slot.isB (gdV w_32 v71) true) fun w_33 =>
 bindB (Slot.isB (gdV w_32 v71) true) fun w_34 =>
 bind1 (gd w_34 (bif w_33 then (ofSlots (C.ti T_S_Case) (List.take (C.ti T_S_Case).size (List.drop 5 c1))) else none)) fun v74 =>
 bindB (Slot.isB (gdV w_32 v71) true) fun w_35 =>
 bind1 (gd w_35 (lenS (C.ti T_S_Case) v74)) fun v75 =>
 bindB (Slot.isB (gdV w_32 v71) true) fun w_36 =>
 bind1 (gd w_36 (binS (C.ti T_int) .gtr v75 (.val (.int .i64 0)))) fun v76 =>
 bindB (Slot.isB v68 false) fun w_37 =>
 bind1 (gd w_37 (pickS (gdV w_32 v71) v76 (.val (.bool false)))) fun v77 =>
 bind1 (pickS v68 (.val (.bool true)) v77) fun v78 =>
 bindB (Slot.isB v78 false) fun w_38 =>
 bindB (Slot.isB v78 false) fun w_39 =>
 bind1 (gd w_39 (binS (C.ti T_ExpKind) .neq (gdV w_38 v10) (.val (.int .i64 7)))) fun v81 =>
 bindB (Slot.isB v78 false) fun w_40 =>
 bindB (Slot.isB (gdV w_40 v81) true) fun w_41 =>
 bindB (Slot.isB (gdV w_40 v81) true) fun w_42 =>
 bind1 (gd w_42 (bif w_41 then (ofSlots (C.ti T_S_Dec) (List.take (C.ti T_S_Dec).size (List.drop 6 c1))) else none)) fun v84 =>
 bindB (Slot.isB (gdV w_40 v81) true) fun w_43 =>
 bind1 (gd w_43 (lenS (C.ti T_S_Dec) v84)) fun v85 =>
 bindB (Slot.isB (gdV w_40 v81) true) fun w_44 =>
 bind1 (gd w_44 (binS (C.ti T_int) .gtr v85 (.val (.int .i64 0)))) fun v86 =>
 bindB (Slot.isB v78 false) fun w_45 =>
 bind1 (gd w_45 (pickS (gdV w_40 v81) v86 (.val (.bool false)))) fun v87 =>
 bind1 (pickS v78 (.val (.bool true)) v87) fun v88 =>
 condS v88 (
 some (.ret (.val (.int .i64 29)), s_1)) (
 bind1 (binS (C.ti T_ExpKind) .eql v10 (.val (.int .i64 2))) fun v90 =>
 bindB (Slot.isB v90 true) fun w_46 =>
 bindB (Slot.isB v90 true) fun w_47 =>
 bind1 (gd w_47 (bif w_46 then (ofSlots (C.ti T_string) (List.take (C.ti T_string).size (List.drop 2 c1))) else none)) fun v93 =>
 bindB (Slot.isB v90 true) fun w_48 =>
 back (cal cw w_48 (tgtV (.val (.fn F_ref05_Low [])) [v93]) s_1) fun v94 s_2 =>
 bindB (Slot.isB v90 true) fun w_49 =>
 bind1 (gd w_49 (unS .not v94)) fun v95 =>
 bind1 (pickS v90 v95 (.val (.bool false))) fun v96 =>
 bindB (Slot.isB v96 false) fun w_50 =>
 bindB (Slot.isB v96 false) fun w_51 =>
 bind1 (gd w_51 (binS (C.ti T_ExpKind) .eql (gdV w_50 v10) (.val (.int .i64 3)))) fun v99 =>
 bindB (Slot.isB v96 false) fun w_52 =>
 bindB (Slot.isB (gdV w_52 v99) true) fun w_53 =>
 bindB (Slot.isB (gdV w_52 v99) true) fun w_54 =>
 bind1 (gd w_54 (bif w_53 then (ofSlots (C.ti T_string) (List.take (C.ti T_string).size (List.drop 2 c1))) else none)) fun v102 =>
 bindB (Slot.isB (gdV w_52 v99) true) fun w_55 =>
 back (cal cw w_55 (tgtV (.val (.fn F_ref05_Con [])) [v102]) s_2) fun v103 s_3 =>
 bindB (Slot.isB (gdV w_52 v99) true) fun w_56 =>
 bind1 (gd w_56 (unS .not v103)) fun v104 =>
 bindB (Slot.isB v96 false) fun w_57 =>
 bind1 (gd w_57 (pickS (gdV w_52 v99) v104 (.val (.bool false)))) fun v105 =>
 bind1 (pickS v96 (.val (.bool true)) v105) fun v106 =>
 condS v106 (
 some (.ret (.val (.int .i64 8)), s_3)) (
 bind1 (binS (C.ti T_ExpKind) .eql v10 (.val (.int .i64 1))) fun v108 =>
 bindB (Slot.isB v108 true) fun w_58 =>
 bindB (Slot.isB v108 true) fun w_59 =>
 bind1 (gd w_59 (bif w_58 then (ofSlots (C.ti T_int) (List.take (C.ti T_int).size (List.drop 3 c1))) else none)) fun v111 =>
 bindB (Slot.isB v108 true) fun w_60 =>
 back (cal cw w_60 (tgtV (.val (.fn F_ref05_isInt [])) [v111]) s_3) fun v112 s_4 =>
 bindB (Slot.isB v108 true) fun w_61 =>
 bind1 (gd w_61 (unS .not v112)) fun v113 =>
 bind1 (pickS v108 v113 (.val (.bool false))) fun v114 =>
 bindB (Slot.isB v114 false) fun w_62 =>
 bindB (Slot.isB v114 false) fun w_63 =>
 bind1 (gd w_63 (binS (C.ti T_ExpKind) .eql (gdV w_62 v10) (.val (.int .i64 13)))) fun v117 =>
 bindB (Slot.isB v114 false) fun w_64 =>
 bindB (Slot.isB (gdV w_64 v117) true) fun w_65 =>
 bindB (Slot.isB (gdV w_64 v117) true) fun w_66 =>
 bind1 (gd w_66 (bif w_65 then (ofSlots (C.ti T_int) (List.take (C.ti T_int).size (List.drop 3 c1))) else none)) fun v120 =>
 bindB (Slot.isB (gdV w_64 v117) true) fun w_67 =>
 back (cal cw w_67 (tgtV (.val (.fn F_ref05_is [])) [v120, (.val (.int .i64 1)), (.val (.int .i64 9))]) s_4) fun v121 s_5 =>
 bindB (Slot.isB (gdV w_64 v117) true) fun w_68 =>
 bind1 (gd w_68 (unS .not v121)) fun v122 =>
 bindB (Slot.isB v114 false) fun w_69 =>
 bind1 (gd w_69 (pickS (gdV w_64 v117) v122 (.val (.bool false)))) fun v123 =>
 bind1 (pickS v114 (.val (.bool true)) v123) fun v124 =>
 condS v124 (
 some (.ret (.val (.int .i64 2)), s_5)) (
 bindB (Slot.isB v22 true) fun w_70 =>
 bindB (Slot.isB v22 true) fun w_71 =>
 bind1 (gd w_71 (bif w_70 then (ofSlots (C.ti T_S_Exp) (List.take (C.ti T_S_Exp).size (List.drop 4 c1))) else none)) fun v128 =>
 bindB (Slot.isB v22 true) fun w_72 =>
 bind1 (gd w_72 (lenS (C.ti T_S_Exp) v128)) fun v129 =>
 bindB (Slot.isB v22 true) fun w_73 =>
 bindB (Slot.isB v22 true) fun w_74 =>
 bindB (Slot.isB v22 true) fun w_75 =>
 back (cal cw w_75 (tgtV (.val (.fn F_ref05_is [])) [v129, (gdV w_73 v20), (gdV w_74 v21)]) s_5) fun v132 s_6 =>
 bindB (Slot.isB v22 true) fun w_76 =>
 bind1 (gd w_76 (unS .not v132)) fun v133 =>
 bind1 (pickS v22 v133 (.val (.bool false))) fun v134 =>
 bindB (Slot.isB v134 false) fun w_77 =>
 bindB (Slot.isB v134 false) fun w_78 =>
 bindB (Slot.isB (gdV w_78 (gdV w_77 v32)) true) fun w_79 =>
 bindB (Slot.isB (gdV w_78 (gdV w_77 v32)) true) fun w_80 =>
 bind1 (gd w_80 (bif w_79 then (ofSlots (C.ti T_S_Case) (List.take (C.ti T_S_Case).size (List.drop 5 c1))) else none)) fun v139 =>
 bindB (Slot.isB (gdV w_78 (gdV w_77 v32)) true) fun w_81 =>
 bind1 (gd w_81 (lenS (C.ti T_S_Case) v139)) fun v140 =>
 bindB (Slot.isB (gdV w_78 (gdV w_77 v32)) true) fun w_82 =>
 bind1 (gd w_82 (binS (C.ti T_int) .lss v140 (.val (.int .i64 1)))) fun v141 =>
 bindB (Slot.isB v134 false) fun w_83 =>
 bind1 (gd w_83 (pickS (gdV w_78 (gdV w_77 v32)) v141 (.val (.bool false)))) fun v142 =>
 bind1 (pickS v134 (.val (.bool true)) v142) fun v143 =>
 bindB (Slot.isB v143 false) fun w_84 =>
 bindB (Slot.isB v143 false) fun w_85 =>
 bind1 (gd w_85 (binS (C.ti T_ExpKind) .eql (gdV w_84 v10) (.val (.int .i64 7)))) fun v146 =>
 bindB (Slot.isB v143 false) fun w_86 =>
 bindB (Slot.isB (gdV w_86 v146) true) fun w_87 =>
 bindB (Slot.isB (gdV w_86 v146) true) fun w_88 =>
 bind1 (gd w_88 (bif w_87 then (ofSlots (C.ti T_S_Dec) (List.take (C.ti T_S_Dec).size (List.drop 6 c1))) else none)) fun v149 =>
 bindB (Slot.isB (gdV w_86 v146) true) fun w_89 =>
 bind1 (gd w_89 (lenS (C.ti T_S_Dec) v149)) fun v150 =>
 bindB (Slot.isB (gdV w_86 v146) true) fun w_90 =>
 bind1 (gd w_90 (binS (C.ti T_int) .lss v150 (.val (.int .i64 1)))) fun v151 =>
 bindB (Slot.isB v143 false) fun w_91 =>
 bind1 (gd w_91 (pickS (gdV w_86 v146) v151 (.val (.bool false)))) fun v152 =>
 bind1 (pickS v143 (.val (.bool true)) v152) fun v153 =>
 condS v153 (
 some (.ret (.val (.int .i64 19)), s_6)) (
 some (.ret (.val (.int .i64 0)), s_6)))))) := (callw_f _ _ _).trans (by kernel_rfl)
/- 110 camlet/camletref05.pat -/
theorem ref05_pat_eq (a0 : AV) (s : St) : cw (.f F_ref05_pat) [a0] s =
 bx T_Pat (.val a0) fun c1 =>
 gC T_PatKind 0 c1 fun v7 =>
 bn T_PatKind .lss v7 (.val (.int .i64 1)) fun v9 =>
 bindB (Slot.isB v9 false) fun w =>
 bindB (Slot.isB v9 false) fun w_1 =>
 bind1 (gd w_1 (binS (C.ti T_PatKind) .gtr (gdV w v7) (.val (.int .i64 6)))) fun v12 =>
 bind1 (pickS v9 (.val (.bool true)) v12) fun v13 =>
 condS v13 (
 some (.ret (.val (.int .i64 29)), s)) (
 bn T_PatKind .eql v7 (.val (.int .i64 2)) fun v15 =>
 bindB (Slot.isB v15 false) fun w_2 =>
 bindB (Slot.isB v15 false) fun w_3 =>
 bind1 (gd w_3 (binS (C.ti T_PatKind) .eql (gdV w_2 v7) (.val (.int .i64 4)))) fun v18 =>
 bind1 (pickS v15 (.val (.bool true)) v18) fun v19 =>
 bindB (Slot.isB v19 false) fun w_4 =>
 bindB (Slot.isB v19 false) fun w_5 =>
 bind1 (gd w_5 (binS (C.ti T_PatKind) .eql (gdV w_4 v7) (.val (.int .i64 6)))) fun v22 =>
 bind1 (pickS v19 (.val (.bool true)) v22) fun v23 =>
 bn T_PatKind .eql v7 (.val (.int .i64 4)) fun v25 =>
 bindB (Slot.isB v25 false) fun w_6 =>
 bindB (Slot.isB v25 false) fun w_7 =>
 bind1 (gd w_7 (binS (C.ti T_PatKind) .eql (gdV w_6 v7) (.val (.int .i64 5)))) fun v28 =>
 bind1 (pickS v25 (.val (.bool true)) v28) fun v29 =>
 bindB (Slot.isB v29 false) fun w_8 =>
 bindB (Slot.isB v29 false) fun w_9 =>
 bind1 (gd w_9 (binS (C.ti T_PatKind) .eql (gdV w_8 v7) (.val (.int .i64 6)))) fun v32 =>
 bind1 (pickS v29 (.val (.bool true)) v32) fun v33 =>
 bind1 (unS .not v23) fun v35 =>
 bindB (Slot.isB v35 true) fun w_10 =>
 bindB (Slot.isB v35 true) fun w_11 =>
 bind1 (gd w_11 (bif w_10 then (ofSlots (C.ti T_string) (List.take (C.ti T_string).size (List.drop 2 c1))) else none)) fun v38 =>
 bindB (Slot.isB v35 true) fun w_12 =>
 bind1 (gd w_12 (binS (C.ti T_string) .neq v38 (.val (.str [])))) fun v39 =>
 bind1 (pickS v35 v39 (.val (.bool false))) fun v40 =>
 bindB (Slot.isB v40 false) fun w_13 =>
 bindB (Slot.isB v40 false) fun w_14 =>
 bind1 (gd w_14 (binS (C.ti T_PatKind) .neq (gdV w_13 v7) (.val (.int .i64 3)))) fun v43 =>
 bindB (Slot.isB v40 false) fun w_15 =>
 bindB (Slot.isB (gdV w_15 v43) true) fun w_16 =>
 bindB (Slot.isB (gdV w_15 v43) true) fun w_17 =>
 bind1 (gd w_17 (bif w_16 then (ofSlots (C.ti T_int) (List.take (C.ti T_int).size (List.drop 3 c1))) else none)) fun v46 =>
 bindB (Slot.isB (gdV w_15 v43) true) fun w_18 =>
 bind1 (gd w_18 (binS (C.ti T_int) .neq v46 (.val (.int .i64 0)))) fun v47 =>
 bindB (Slot.isB v40 false) fun w_19 =>
 bind1 (gd w_19 (pickS (gdV w_15 v43) v47 (.val (.bool false)))) fun v48 =>
 bind1 (pickS v40 (.val (.bool true)) v48) fun v49 =>
 bindB (Slot.isB v49 false) fun w_20 =>
 bindB (Slot.isB v49 false) fun w_21 =>
 bind1 (gd w_21 (unS .not (gdV w_20 v33))) fun v52 =>
 bindB (Slot.isB v49 false) fun w_22 =>
 bindB (Slot.isB (gdV w_22 v52) true) fun w_23 =>
 bindB (Slot.isB (gdV w_22 v52) true) fun w_24 =>
 bind1 (gd w_24 (bif w_23 then (ofSlots (C.ti T_S_Pat) (List.take (C.ti T_S_Pat).size (List.drop 4 c1))) else none)) fun v55 =>
 bindB (Slot.isB (gdV w_22 v52) true) fun w_25 =>
 bind1 (gd w_25 (lenS (C.ti T_S_Pat) v55)) fun v56 =>
 bindB (Slot.isB (gdV w_22 v52) true) fun w_26 =>
 bind1 (gd w_26 (binS (C.ti T_int) .gtr v56 (.val (.int .i64 0)))) fun v57 =>
 bindB (Slot.isB v49 false) fun w_27 =>
 bind1 (gd w_27 (pickS (gdV w_22 v52) v57 (.val (.bool false)))) fun v58 =>
 bind1 (pickS v49 (.val (.bool true)) v58) fun v59 =>
 condS v59 (
 some (.ret (.val (.int .i64 29)), s)) (
 bn T_PatKind .eql v7 (.val (.int .i64 4)) fun v61 =>
 bindB (Slot.isB v61 true) fun w_28 =>
 bindB (Slot.isB v61 true) fun w_29 =>
 bind1 (gd w_29 (bif w_28 then (ofSlots (C.ti T_string) (List.take (C.ti T_string).size (List.drop 2 c1))) else none)) fun v64 =>
 bindB (Slot.isB v61 true) fun w_30 =>
 cg w_30 F_ref05_Con [v64] s fun v65 s_1 =>
 bindB (Slot.isB v61 true) fun w_31 =>
 bind1 (gd w_31 (unS .not v65)) fun v66 =>
 bind1 (pickS v61 v66 (.val (.bool false))) fun v67 =>
 bindB (Slot.isB v67 false) fun w_32 =>
 bindB (Slot.isB v67 false) fun w_33 =>
 bindB (Slot.isB (gdV w_33 (gdV w_32 v23)) true) fun w_34 =>
 bindB (Slot.isB (gdV w_33 (gdV w_32 v23)) true) fun w_35 =>
 bind1 (gd w_35 (binS (C.ti T_PatKind) .neq (gdV w_34 v7) (.val (.int .i64 4)))) fun v72 =>
 bindB (Slot.isB v67 false) fun w_36 =>
 bind1 (gd w_36 (pickS (gdV w_33 (gdV w_32 v23)) v72 (.val (.bool false)))) fun v73 =>
 bindB (Slot.isB v67 false) fun w_37 =>
 bindB (Slot.isB (gdV w_37 v73) true) fun w_38 =>
 bindB (Slot.isB (gdV w_37 v73) true) fun w_39 =>
 bind1 (gd w_39 (bif w_38 then (ofSlots (C.ti T_string) (List.take (C.ti T_string).size (List.drop 2 c1))) else none)) fun v76 =>
 bindB (Slot.isB (gdV w_37 v73) true) fun w_40 =>
 cg w_40 F_ref05_Low [v76] s_1 fun v77 s_2 =>
 bindB (Slot.isB (gdV w_37 v73) true) fun w_41 =>
 bind1 (gd w_41 (unS .not v77)) fun v78 =>
 bindB (Slot.isB v67 false) fun w_42 =>
 bind1 (gd w_42 (pickS (gdV w_37 v73) v78 (.val (.bool false)))) fun v79 =>
 bind1 (pickS v67 (.val (.bool true)) v79) fun v80 =>
 condS v80 (
 some (.ret (.val (.int .i64 8)), s_2)) (
 bn T_PatKind .eql v7 (.val (.int .i64 3)) fun v82 =>
 bindB (Slot.isB v82 true) fun w_43 =>
 bindB (Slot.isB v82 true) fun w_44 =>
 bind1 (gd w_44 (bif w_43 then (ofSlots (C.ti T_int) (List.take (C.ti T_int).size (List.drop 3 c1))) else none)) fun v85 =>
 bindB (Slot.isB v82 true) fun w_45 =>
 cg w_45 F_ref05_isInt [v85] s_2 fun v86 s_3 =>
 bindB (Slot.isB v82 true) fun w_46 =>
 bind1 (gd w_46 (unS .not v86)) fun v87 =>
 bind1 (pickS v82 v87 (.val (.bool false))) fun v88 =>
 condS v88 (
 some (.ret (.val (.int .i64 2)), s_3)) (
 bn T_PatKind .eql v7 (.val (.int .i64 4)) fun v90 =>
 bindB (Slot.isB v90 true) fun w_47 =>
 bindB (Slot.isB v90 true) fun w_48 =>
 bind1 (gd w_48 (bif w_47 then (ofSlots (C.ti T_S_Pat) (List.take (C.ti T_S_Pat).size (List.drop 4 c1))) else none)) fun v93 =>
 bindB (Slot.isB v90 true) fun w_49 =>
 bind1 (gd w_49 (lenS (C.ti T_S_Pat) v93)) fun v94 =>
 bindB (Slot.isB v90 true) fun w_50 =>
 bind1 (gd w_50 (binS (C.ti T_int) .gtr v94 (.val (.int .i64 1)))) fun v95 =>
 bind1 (pickS v90 v95 (.val (.bool false))) fun v96 =>
 bindB (Slot.isB v96 false) fun w_51 =>
 bindB (Slot.isB v96 false) fun w_52 =>
 bind1 (gd w_52 (binS (C.ti T_PatKind) .eql (gdV w_51 v7) (.val (.int .i64 5)))) fun v99 =>
 bindB (Slot.isB v96 false) fun w_53 =>
 bindB (Slot.isB (gdV w_53 v99) true) fun w_54 =>
 bindB (Slot.isB (gdV w_53 v99) true) fun w_55 =>
 bind1 (gd w_55 (bif w_54 then (ofSlots (C.ti T_S_Pat) (List.take (C.ti T_S_Pat).size (List.drop 4 c1))) else none)) fun v102 =>
 bindB (Slot.isB (gdV w_53 v99) true) fun w_56 =>
 bind1 (gd w_56 (lenS (C.ti T_S_Pat) v102)) fun v103 =>
 bindB (Slot.isB (gdV w_53 v99) true) fun w_57 =>
 cg w_57 F_ref05_is [v103, (.val (.int .i64 2)), (.val (.int .i64 8))] s_3 fun v104 s_4 =>
 bindB (Slot.isB (gdV w_53 v99) true) fun w_58 =>
 bind1 (gd w_58 (unS .not v104)) fun v105 =>
 bindB (Slot.isB v96 false) fun w_59 =>
 bind1 (gd w_59 (pickS (gdV w_53 v99) v105 (.val (.bool false)))) fun v106 =>
 bind1 (pickS v96 (.val (.bool true)) v106) fun v107 =>
 bindB (Slot.isB v107 false) fun w_60 =>
 bindB (Slot.isB v107 false) fun w_61 =>
 bind1 (gd w_61 (binS (C.ti T_PatKind) .eql (gdV w_60 v7) (.val (.int .i64 6)))) fun v110 =>
 bindB (Slot.isB v107 false) fun w_62 =>
 bindB (Slot.isB (gdV w_62 v110) true) fun w_63 =>
 bindB (Slot.isB (gdV w_62 v110) true) fun w_64 =>
 bind1 (gd w_64 (bif w_63 then (ofSlots (C.ti T_S_Pat) (List.take (C.ti T_S_Pat).size (List.drop 4 c1))) else none)) fun v113 =>
 bindB (Slot.isB (gdV w_62 v110) true) fun w_65 =>
 bind1 (gd w_65 (lenS (C.ti T_S_Pat) v113)) fun v114 =>
 bindB (Slot.isB (gdV w_62 v110) true) fun w_66 =>
 bind1 (gd w_66 (binS (C.ti T_int) .neq v114 (.val (.int .i64 1)))) fun v115 =>
 bindB (Slot.isB v107 false) fun w_67 =>
 bind1 (gd w_67 (pickS (gdV w_62 v110) v115 (.val (.bool false)))) fun v116 =>
 bind1 (pickS v107 (.val (.bool true)) v116) fun v117 =>
 condS v117 (
 some (.ret (.val (.int .i64 19)), s_4)) (
 some (.ret (.val (.int .i64 0)), s_4)))))) := (callw_f _ _ _).trans (by kernel_rfl)
/- 111 camlet/camletref05.ty -/
theorem ref05_ty_eq (a0 : AV) (s : St) : cw (.f F_ref05_ty) [a0] s =
 bx T_Ty (.val a0) fun c1 =>
 gC T_TyKind 0 c1 fun v6 =>
 bn T_TyKind .eql v6 (.val (.int .i64 1)) fun v7 =>
 condS v7 (
 gC T_string 2 c1 fun v9 =>
 bn T_string .neq v9 (.val (.str [])) fun v10 =>
 bindB (Slot.isB v10 false) fun w =>
 bindB (Slot.isB v10 false) fun w_1 =>
 bind1 (gd w_1 (bif w then (ofSlots (C.ti T_S_Ty) (List.take (C.ti T_S_Ty).size (List.drop 3 c1))) else none)) fun v13 =>
 bindB (Slot.isB v10 false) fun w_2 =>
 bind1 (gd w_2 (lenS (C.ti T_S_Ty) v13)) fun v14 =>
 bindB (Slot.isB v10 false) fun w_3 =>
 bind1 (gd w_3 (binS (C.ti T_int) .gtr v14 (.val (.int .i64 0)))) fun v15 =>
 bind1 (pickS v10 (.val (.bool true)) v15) fun v16 =>
 condS v16 (
 some (.ret (.val (.int .i64 29)), s)) (
 gC T_int 1 c1 fun v18 =>
 bn T_int .lss v18 (.val (.int .i64 0)) fun v19 =>
 condS v19 (
 some (.ret (.val (.int .i64 2)), s)) (
 some (.ret (.val (.int .i64 0)), s)))) (
 gC T_TyKind 0 c1 fun v21 =>
 bn T_TyKind .neq v21 (.val (.int .i64 2)) fun v22 =>
 bindB (Slot.isB v22 false) fun w_4 =>
 bindB (Slot.isB v22 false) fun w_5 =>
 bind1 (gd w_5 (bif w_4 then (ofSlots (C.ti T_int) (List.take (C.ti T_int).size (List.drop 1 c1))) else none)) fun v25 =>
 bindB (Slot.isB v22 false) fun w_6 =>
 bind1 (gd w_6 (binS (C.ti T_int) .neq v25 (.val (.int .i64 0)))) fun v26 =>
 bind1 (pickS v22 (.val (.bool true)) v26) fun v27 =>
 condS v27 (
 some (.ret (.val (.int .i64 29)), s)) (
 gC T_string 2 c1 fun v29 =>
 bn T_string .neq v29 (.val (.str [114, 101, 102])) fun v30 =>
 bindB (Slot.isB v30 true) fun w_7 =>
 bindB (Slot.isB v30 true) fun w_8 =>
 bind1 (gd w_8 (bif w_7 then (ofSlots (C.ti T_string) (List.take (C.ti T_string).size (List.drop 2 c1))) else none)) fun v33 =>
 bindB (Slot.isB v30 true) fun w_9 =>
 bind1 (gd w_9 (binS (C.ti T_string) .neq v33 (.val (.str [45, 62])))) fun v34 =>
 bind1 (pickS v30 v34 (.val (.bool false))) fun v35 =>
 bindB (Slot.isB v35 true) fun w_10 =>
 bindB (Slot.isB v35 true) fun w_11 =>
 bind1 (gd w_11 (bif w_10 then (ofSlots (C.ti T_string) (List.take (C.ti T_string).size (List.drop 2 c1))) else none)) fun v38 =>
 bindB (Slot.isB v35 true) fun w_12 =>
 bind1 (gd w_12 (binS (C.ti T_string) .neq v38 (.val (.str [42])))) fun v39 =>
 bind1 (pickS v35 v39 (.val (.bool false))) fun v40 =>
 bindB (Slot.isB v40 true) fun w_13 =>
 bindB (Slot.isB v40 true) fun w_14 =>
 bind1 (gd w_14 (bif w_13 then (ofSlots (C.ti T_string) (List.take (C.ti T_string).size (List.drop 2 c1))) else none)) fun v43 =>
 bindB (Slot.isB v40 true) fun w_15 =>
 cg w_15 F_ref05_Low [v43] s fun v44 s_1 =>
 bindB (Slot.isB v40 true) fun w_16 =>
 bind1 (gd w_16 (unS .not v44)) fun v45 =>
 bind1 (pickS v40 v45 (.val (.bool false))) fun v46 =>
 condS v46 (
 some (.ret (.val (.int .i64 8)), s_1)) (
 gC T_string 2 c1 fun v49 =>
 ca F_ref05_Args [v49] s_1 fun v50 s_2 =>
 bind1 (extractS v50 0) fun v51 =>
 bind1 (extractS v50 1) fun v52 =>
 gC T_S_Ty 3 c1 fun v54 =>
 ln T_S_Ty v54 fun v55 =>
 ca F_ref05_is [v55, v51, v52] s_2 fun v58 s_3 =>
 bind1 (unS .not v58) fun v59 =>
 condS v59 (
 some (.ret (.val (.int .i64 19)), s_3)) (
 some (.ret (.val (.int .i64 0)), s_3))))) := (callw_f _ _ _).trans (by kernel_rfl)
/- 112 camlet/camletref05.Low -/
theorem ref05_Low_eq (a0 : AV) (s : St) : cw (.f F_ref05_Low) [a0] s =
 ca F_ref05_shaped [(.val a0), (.val (.bool false))] s fun v4 s_1 =>
 bindB (Slot.isB v4 true) fun w =>
 bindB (Slot.isB v4 true) fun w_1 =>
 bind1 (gd w_1 (binS (C.ti T_string) .neq (gdV w (.val a0)) (.val (.str [95])))) fun v7 =>
 bind1 (pickS v4 v7 (.val (.bool false))) fun v8 =>
 bindB (Slot.isB v8 true) fun w_2 =>
 bindB (Slot.isB v8 true) fun w_3 =>
 bind1 (gd w_3 (binS (C.ti T_string) .neq (gdV w_2 (.val a0)) (.val (.str [116, 114, 117, 101])))) fun v11 =>
 bind1 (pickS v8 v11 (.val (.bool false))) fun v12 =>
 bindB (Slot.isB v12 true) fun w_4 =>
 bindB (Slot.isB v12 true) fun w_5 =>
 bind1 (gd w_5 (binS (C.ti T_string) .neq (gdV w_4 (.val a0)) (.val (.str [102, 97, 108, 115, 101])))) fun v15 =>
 bind1 (pickS v12 v15 (.val (.bool false))) fun v16 =>
 bindB (Slot.isB v16 true) fun w_6 =>
 bindB (Slot.isB v16 true) fun w_7 =>
 cg w_7 F_ref05_Words [] s_1 fun v19 s_2 =>
 bindB (Slot.isB v16 true) fun w_8 =>
 cg w_8 F_ref05_among [(gdV w_6 (.val a0)), v19] s_2 fun v20 s_3 =>
 bindB (Slot.isB v16 true) fun w_9 =>
 bind1 (gd w_9 (unS .not v20)) fun v21 =>
 bind1 (pickS v16 v21 (.val (.bool false))) fun v22 =>
 some (.ret v22, s_3) := (callw_f _ _ _).trans (by kernel_rfl)
/- 113 camlet/camletref05.zeroTy -/
theorem ref05_zeroTy_eq (a0 : AV) (s : St) : cw (.f F_ref05_zeroTy) [a0] s =
 bx T_Ty (.val a0) fun c1 =>
 gC T_TyKind 0 c1 fun v4 =>
 bn T_TyKind .eql v4 (.val (.int .i64 0)) fun v5 =>
 bindB (Slot.isB v5 true) fun w =>
 bindB (Slot.isB v5 true) fun w_1 =>
 bind1 (gd w_1 (bif w then (ofSlots (C.ti T_int) (List.take (C.ti T_int).size (List.drop 1 c1))) else none)) fun v8 =>
 bindB (Slot.isB v5 true) fun w_2 =>
 bind1 (gd w_2 (binS (C.ti T_int) .eql v8 (.val (.int .i64 0)))) fun v9 =>
 bind1 (pickS v5 v9 (.val (.bool false))) fun v10 =>
 bindB (Slot.isB v10 true) fun w_3 =>
 bindB (Slot.isB v10 true) fun w_4 =>
 bind1 (gd w_4 (bif w_3 then (ofSlots (C.ti T_string) (List.take (C.ti T_string).size (List.drop 2 c1))) else none)) fun v13 =>
 bindB (Slot.isB v10 true) fun w_5 =>
 bind1 (gd w_5 (binS (C.ti T_string) .eql v13 (.val (.str [])))) fun v14 =>
 bind1 (pickS v10 v14 (.val (.bool false))) fun v15 =>
 bindB (Slot.isB v15 true) fun w_6 =>
 bindB (Slot.isB v15 true) fun w_7 =>
 bind1 (gd w_7 (bif w_6 then (ofSlots (C.ti T_S_Ty) (List.take (C.ti T_S_Ty).size (List.drop 3 c1))) else none)) fun v18 =>
 bindB (Slot.isB v15 true) fun w_8 =>
 bind1 (gd w_8 (lenS (C.ti T_S_Ty) v18)) fun v19 =>
 bindB (Slot.isB v15 true) fun w_9 =>
 bind1 (gd w_9 (binS (C.ti T_int) .eql v19 (.val (.int .i64 0)))) fun v20 =>
 bind1 (pickS v15 v20 (.val (.bool false))) fun v21 =>
 some (.ret v21, s) := (callw_f _ _ _).trans (by kernel_rfl)
/- 114 camlet/camletref05.Capital -/
theorem ref05_Capital_eq (a0 : AV) (s : St) : cw (.f F_ref05_Capital) [a0] s =
 ca F_ref05_shaped [(.val a0), (.val (.bool true))] s fun v4 s_1 =>
 some (.ret v4, s_1) := (callw_f _ _ _).trans (by kernel_rfl)
/- 115 (camlet/tree.thing).node -/
theorem tree_thing_node_eq (a0 : AV) (s : St) : cw (.f F_tree_thing_node) [a0] s =
 bx T_thing (.val a0) fun c1 =>
 gC T_P_Fun 2 c1 fun v4 =>
 bn T_P_Fun .eql v4 (.val (.nilp)) fun v5 =>
 bindB (Slot.isB v5 true) fun w =>
 bindB (Slot.isB v5 true) fun w_1 =>
 bind1 (gd w_1 (bif w then (ofSlots (C.ti T_P_Con) (List.take (C.ti T_P_Con).size (List.drop 3 c1))) else none)) fun v8 =>
 bindB (Slot.isB v5 true) fun w_2 =>
 bind1 (gd w_2 (binS (C.ti T_P_Con) .eql v8 (.val (.nilp)))) fun v9 =>
 bind1 (pickS v5 v9 (.val (.bool false))) fun v10 =>
 some (.ret v10, s) := (callw_f _ _ _).trans (by kernel_rfl)
/- 116 (camlet/tree.thing).wrongDec -/
noncomputable def tree_thing_wrongDec_j0 : List Slot → Slot → Slot → Slot → Slot → St → Res := fun x1 x3 x5 x7 x8 s => pw (run C false F_tree_thing_wrongDec (codeAt [.seqR, .seqR, .seqR, .seqR, .seqR] (body Go.Proofs.Tryz.f116)) [(1, .var x1), (3, .s x3), (5, .s x5), (7, .s x7), (8, .s x8)] s (ctxR C false F_tree_thing_wrongDec [.seqR, .seqR, .seqR, .seqR, .seqR] (body Go.Proofs.Tryz.f116) (outK C (Go.Proofs.Tryz.f116).results.toList)))
theorem tree_thing_wrongDec_j0_eq : ∀ x1 x3 x5 x7 x8 s_1, tree_thing_wrongDec_j0 x1 x3 x5 x7 x8 s_1 =
 bind1 (unS .not x8) fun v91 =>
 bindB (Slot.isB v91 false) fun w_9 =>
 bindB (Slot.isB v91 false) fun w_10 =>
 bind1 (gd w_10 (bif w_9 then (ofSlots (C.ti T_bool) (List.take (C.ti T_bool).size (List.drop 1 x1))) else none)) fun v94 =>
 bindB (Slot.isB v91 false) fun w_11 =>
 bindB (Slot.isB (gdV w_11 v94) true) fun w_12 =>
 bindB (Slot.isB (gdV w_11 v94) true) fun w_13 =>
 bind1 (gd w_13 (nilCheckV (gdV w_12 x3))) fun v97 =>
 bindB (Slot.isB (gdV w_11 v94) true) fun w_14 =>
 bind1 (gd w_14 (faV 0 v97)) fun v98 =>
 bindB (Slot.isB (gdV w_11 v94) true) fun w_15 =>
 bind1 (gd w_15 (ldV (C.ti T_DecKind) false s_1 v98)) fun v99 =>
 bindB (Slot.isB (gdV w_11 v94) true) fun w_16 =>
 bind1 (gd w_16 (binS (C.ti T_DecKind) .neq v99 (.val (.int .i64 1)))) fun v100 =>
 bindB (Slot.isB v91 false) fun w_17 =>
 bind1 (gd w_17 (pickS (gdV w_11 v94) v100 (.val (.bool false)))) fun v101 =>
 bindB (Slot.isB v91 false) fun w_18 =>
 bindB (Slot.isB (gdV w_18 v101) true) fun w_19 =>
 bindB (Slot.isB (gdV w_18 v101) true) fun w_20 =>
 bind1 (gd w_20 (nilCheckV (gdV w_19 x3))) fun v104 =>
 bindB (Slot.isB (gdV w_18 v101) true) fun w_21 =>
 bind1 (gd w_21 (faV 0 v104)) fun v105 =>
 bindB (Slot.isB (gdV w_18 v101) true) fun w_22 =>
 bind1 (gd w_22 (ldV (C.ti T_DecKind) false s_1 v105)) fun v106 =>
 bindB (Slot.isB (gdV w_18 v101) true) fun w_23 =>
 bind1 (gd w_23 (binS (C.ti T_DecKind) .neq v106 (.val (.int .i64 2)))) fun v107 =>
 bindB (Slot.isB v91 false) fun w_24 =>
 bind1 (gd w_24 (pickS (gdV w_18 v101) v107 (.val (.bool false)))) fun v108 =>
 bind1 (pickS v91 (.val (.bool true)) v108) fun v109 =>
 condS v109 (
 some (.ret (.val (.int .i64 29)), s_1)) (
 bind1 (nilCheckV x3) fun v111 =>
 bind1 (faV 0 v111) fun v112 =>
 ld T_DecKind s_1 v112 fun v113 =>
 bn T_DecKind .eql v113 (.val (.int .i64 1)) fun v115 =>
 condS v115 (
 bind1 (nilCheckV x3) fun v117 =>
 bind1 (faV 5 v117) fun v118 =>
 ld T_S_Case s_1 v118 fun v119 =>
 ln T_S_Case v119 fun v120 =>
 bn T_int .eql v120 (.val (.int .i64 1)) fun v121 =>
 bind1 (unS .not v121) fun v165 =>
 condS v165 (
 some (.ret (.val (.int .i64 19)), s_1)) (
 some (.ret (.val (.int .i64 0)), s_1))) (
 bn T_DecKind .eql v113 (.val (.int .i64 2)) fun v123 =>
 condS v123 (
 bind1 (unS .not x5) fun v165_1 =>
 condS v165_1 (
 some (.ret (.val (.int .i64 19)), s_1)) (
 some (.ret (.val (.int .i64 0)), s_1))) (
 bn T_DecKind .eql v113 (.val (.int .i64 3)) fun v126 =>
 condS v126 (
 bind1 (nilCheckV x3) fun v128 =>
 bind1 (faV 2 v128) fun v129 =>
 ld T_string s_1 v129 fun v130 =>
 ca F_tree_low [v130] s_1 fun v131 s_2 =>
 bind1 (unS .not v131) fun v132 =>
 condS v132 (
 some (.ret (.val (.int .i64 8)), s_2)) (
 bind1 (nilCheckV x3) fun v134 =>
 bind1 (faV 3 v134) fun v135 =>
 ld T_int s_2 v135 fun v136 =>
 bn T_int .geq v136 (.val (.int .i64 0)) fun v137 =>
 bindB (Slot.isB v137 true) fun w_25 =>
 bindB (Slot.isB v137 true) fun w_26 =>
 bind1 (gd w_26 (nilCheckV (gdV w_25 x3))) fun v140 =>
 bindB (Slot.isB v137 true) fun w_27 =>
 bind1 (gd w_27 (faV 3 v140)) fun v141 =>
 bindB (Slot.isB v137 true) fun w_28 =>
 bind1 (gd w_28 (ldV (C.ti T_int) false s_2 v141)) fun v142 =>
 bindB (Slot.isB v137 true) fun w_29 =>
 bind1 (gd w_29 (binS (C.ti T_int) .leq v142 (.val (.int .i64 8)))) fun v143 =>
 bind1 (pickS v137 v143 (.val (.bool false))) fun v144 =>
 bindB (Slot.isB v144 true) fun w_30 =>
 bind1 (pickS v144 (gdV w_30 x7) (.val (.bool false))) fun v147 =>
 bindB (Slot.isB v147 true) fun w_31 =>
 bindB (Slot.isB v147 true) fun w_32 =>
 bind1 (gd w_32 (nilCheckV (gdV w_31 x3))) fun v150 =>
 bindB (Slot.isB v147 true) fun w_33 =>
 bind1 (gd w_33 (faV 4 v150)) fun v151 =>
 bindB (Slot.isB v147 true) fun w_34 =>
 bind1 (gd w_34 (ldV (C.ti T_S_Con) false s_2 v151)) fun v152 =>
 bindB (Slot.isB v147 true) fun w_35 =>
 bind1 (gd w_35 (lenS (C.ti T_S_Con) v152)) fun v153 =>
 bindB (Slot.isB v147 true) fun w_36 =>
 bind1 (gd w_36 (binS (C.ti T_int) .leq v153 (.val (.int .i64 64)))) fun v154 =>
 bind1 (pickS v147 v154 (.val (.bool false))) fun v155 =>
 bind1 (unS .not v155) fun v165_2 =>
 condS v165_2 (
 some (.ret (.val (.int .i64 19)), s_2)) (
 some (.ret (.val (.int .i64 0)), s_2)))) (
 bn T_DecKind .eql v113 (.val (.int .i64 4)) fun v157 =>
 condS v157 (
 bind1 (nilCheckV x3) fun v159 =>
 bind1 (faV 4 v159) fun v160 =>
 ld T_S_Con s_1 v160 fun v161 =>
 ln T_S_Con v161 fun v162 =>
 bn T_int .eql v162 (.val (.int .i64 1)) fun v163 =>
 bind1 (unS .not v163) fun v165_3 =>
 condS v165_3 (
 some (.ret (.val (.int .i64 19)), s_1)) (
 some (.ret (.val (.int .i64 0)), s_1))) (
 bind1 (unS .not (.val (.bool true))) fun v165_4 =>
 condS v165_4 (
 some (.ret (.val (.int .i64 19)), s_1)) (
 some (.ret (.val (.int .i64 0)), s_1))))))) := by intros; unfold tree_thing_wrongDec_j0; exact (pw_eq _).trans (by kernel_rfl)
theorem tree_thing_wrongDec_eq (a0 : AV) (s : St) : cw (.f F_tree_thing_wrongDec) [a0] s =
 bx T_thing (.val a0) fun c1 =>
 gC T_P_Dec 0 c1 fun v11 =>
 bind1 (nilCheckV v11) fun v13 =>
 bind1 (faV 5 v13) fun v14 =>
 ld T_S_Case s v14 fun v15 =>
 ln T_S_Case v15 fun v16 =>
 bn T_int .gtr v16 (.val (.int .i64 0)) fun v17 =>
 bind1 (nilCheckV v11) fun v19 =>
 bind1 (faV 6 v19) fun v20 =>
 ld T_S_Fun s v20 fun v21 =>
 ln T_S_Fun v21 fun v22 =>
 bn T_int .gtr v22 (.val (.int .i64 0)) fun v23 =>
 bind1 (nilCheckV v11) fun v25 =>
 bind1 (faV 2 v25) fun v26 =>
 ld T_string s v26 fun v27 =>
 bn T_string .neq v27 (.val (.str [])) fun v28 =>
 bindB (Slot.isB v28 false) fun w =>
 bindB (Slot.isB v28 false) fun w_1 =>
 bind1 (gd w_1 (nilCheckV (gdV w v11))) fun v31 =>
 bindB (Slot.isB v28 false) fun w_2 =>
 bind1 (gd w_2 (faV 3 v31)) fun v32 =>
 bindB (Slot.isB v28 false) fun w_3 =>
 bind1 (gd w_3 (ldV (C.ti T_int) false s v32)) fun v33 =>
 bindB (Slot.isB v28 false) fun w_4 =>
 bind1 (gd w_4 (binS (C.ti T_int) .neq v33 (.val (.int .i64 0)))) fun v34 =>
 bind1 (pickS v28 (.val (.bool true)) v34) fun v35 =>
 bind1 (nilCheckV v11) fun v37 =>
 bind1 (faV 4 v37) fun v38 =>
 ld T_S_Con s v38 fun v39 =>
 ln T_S_Con v39 fun v40 =>
 bn T_int .gtr v40 (.val (.int .i64 0)) fun v41 =>
 bind1 (nilCheckV v11) fun v43 =>
 bind1 (faV 0 v43) fun v44 =>
 ld T_DecKind s v44 fun v45 =>
 bn T_DecKind .eql v45 (.val (.int .i64 1)) fun v47 =>
 condS v47 (
 bind1 (unS .not v23) fun v49 =>
 bindB (Slot.isB v49 true) fun w_5 =>
 bindB (Slot.isB v49 true) fun w_6 =>
 bind1 (gd w_6 (unS .not (gdV w_5 v35))) fun v52 =>
 bind1 (pickS v49 v52 (.val (.bool false))) fun v53 =>
 bindB (Slot.isB v53 true) fun w_7 =>
 bindB (Slot.isB v53 true) fun w_8 =>
 bind1 (gd w_8 (unS .not (gdV w_7 v41))) fun v56 =>
 bind1 (pickS v53 v56 (.val (.bool false))) fun v57 =>
 tree_thing_wrongDec_j0 c1 v11 v23 v41 v57 s) (
 bn T_DecKind .eql v45 (.val (.int .i64 2)) fun v59 =>
 condS v59 (
 bind1 (unS .not v17) fun v61 =>
 bindB (Slot.isB v61 true) fun w_37 =>
 bindB (Slot.isB v61 true) fun w_38 =>
 bind1 (gd w_38 (unS .not (gdV w_37 v35))) fun v64 =>
 bind1 (pickS v61 v64 (.val (.bool false))) fun v65 =>
 bindB (Slot.isB v65 true) fun w_39 =>
 bindB (Slot.isB v65 true) fun w_40 =>
 bind1 (gd w_40 (unS .not (gdV w_39 v41))) fun v68 =>
 bind1 (pickS v65 v68 (.val (.bool false))) fun v69 =>
 tree_thing_wrongDec_j0 c1 v11 v23 v41 v69 s) (
 bn T_DecKind .eql v45 (.val (.int .i64 3)) fun v71 =>
 condS v71 (
 bind1 (unS .not v17) fun v73 =>
 bindB (Slot.isB v73 true) fun w_41 =>
 bindB (Slot.isB v73 true) fun w_42 =>
 bind1 (gd w_42 (unS .not (gdV w_41 v23))) fun v76 =>
 bind1 (pickS v73 v76 (.val (.bool false))) fun v77 =>
 tree_thing_wrongDec_j0 c1 v11 v23 v41 v77 s) (
 bn T_DecKind .eql v45 (.val (.int .i64 4)) fun v79 =>
 condS v79 (
 bind1 (unS .not v17) fun v81 =>
 bindB (Slot.isB v81 true) fun w_43 =>
 bindB (Slot.isB v81 true) fun w_44 =>
 bind1 (gd w_44 (unS .not (gdV w_43 v23))) fun v84 =>
 bind1 (pickS v81 v84 (.val (.bool false))) fun v85 =>
 bindB (Slot.isB v85 true) fun w_45 =>
 bindB (Slot.isB v85 true) fun w_46 =>
 bind1 (gd w_46 (unS .not (gdV w_45 v35))) fun v88 =>
 bind1 (pickS v85 v88 (.val (.bool false))) fun v89 =>
 tree_thing_wrongDec_j0 c1 v11 v23 v41 v89 s) (
 tree_thing_wrongDec_j0 c1 v11 v23 v41 (.val (.bool false)) s)))) := (callw_f _ _ _).trans (by kernel_rfl)
/- 117 camlet/tree.low -/
theorem tree_low_eq (a0 : AV) (s : St) : cw (.f F_tree_low) [a0] s =
 bn T_string .neq (.val a0) (.val (.str [])) fun v4 =>
 bindB (Slot.isB v4 true) fun w =>
 bindB (Slot.isB v4 true) fun w_1 =>
 bind1 (gd w_1 (indexS (C.ti T_string) (C.ti T_0) (gdV w (.val a0)) (.val (.int .i64 0)))) fun v7 =>
 bindB (Slot.isB v4 true) fun w_2 =>
 cg w_2 F_tree_small [v7] s fun v8 s_1 =>
 bind1 (pickS v4 v8 (.val (.bool false))) fun v9 =>
 bindB (Slot.isB v9 true) fun w_3 =>
 bindB (Slot.isB v9 true) fun w_4 =>
 cg w_4 F_tree_run [(gdV w_3 (.val a0))] s_1 fun v12 s_2 =>
 bind1 (pickS v9 v12 (.val (.bool false))) fun v13 =>
 bindB (Slot.isB v13 true) fun w_5 =>
 bindB (Slot.isB v13 true) fun w_6 =>
 bind1 (gd w_6 (binS (C.ti T_string) .add (.val (.str [32])) (gdV w_5 (.val a0)))) fun v16 =>
 bindB (Slot.isB v13 true) fun w_7 =>
 bind1 (gd w_7 (binS (C.ti T_string) .add v16 (.val (.str [32])))) fun v17 =>
 bindB (Slot.isB v13 true) fun w_8 =>
 cg w_8 F_strings_Contains [(.val (.str K_80c441cf)), v17] s_2 fun v18 s_3 =>
 bindB (Slot.isB v13 true) fun w_9 =>
 bind1 (gd w_9 (unS .not v18)) fun v19 =>
 bind1 (pickS v13 v19 (.val (.bool false))) fun v20 =>
 some (.ret v20, s_3) := (callw_f _ _ _).trans (by kernel_rfl)
/- 118 camlet/tree.wrongCon -/
theorem tree_wrongCon_eq (a0 : AV) (s : St) : cw (.f F_tree_wrongCon) [a0] s =
 bx T_Con (.val a0) fun c1 =>
 gC T_Ty 3 c1 fun v5 =>
 bx T_Ty v5 fun c =>
 pZ T_Ty c fun c3 =>
 gC T_bool 2 c1 fun v8 =>
 bind1 (unS .not v8) fun v9 =>
 bindB (Slot.isB v9 true) fun w =>
 bindB (Slot.isB v9 true) fun w_1 =>
 bind1 (gd w_1 (bif w then (ofSlots (C.ti T_TyKind) (List.take (C.ti T_TyKind).size (List.drop 0 c3))) else none)) fun v12 =>
 bindB (Slot.isB v9 true) fun w_2 =>
 bind1 (gd w_2 (binS (C.ti T_TyKind) .neq v12 (.val (.int .i64 0)))) fun v13 =>
 bindB (Slot.isB v9 true) fun w_3 =>
 bindB (Slot.isB (gdV w_3 v13) false) fun w_4 =>
 bindB (Slot.isB (gdV w_3 v13) false) fun w_5 =>
 bind1 (gd w_5 (bif w_4 then (ofSlots (C.ti T_int) (List.take (C.ti T_int).size (List.drop 1 c3))) else none)) fun v16 =>
 bindB (Slot.isB (gdV w_3 v13) false) fun w_6 =>
 bind1 (gd w_6 (binS (C.ti T_int) .neq v16 (.val (.int .i64 0)))) fun v17 =>
 bindB (Slot.isB v9 true) fun w_7 =>
 bind1 (gd w_7 (pickS (gdV w_3 v13) (.val (.bool true)) v17)) fun v18 =>
 bindB (Slot.isB v9 true) fun w_8 =>
 bindB (Slot.isB (gdV w_8 v18) false) fun w_9 =>
 bindB (Slot.isB (gdV w_8 v18) false) fun w_10 =>
 bind1 (gd w_10 (bif w_9 then (ofSlots (C.ti T_string) (List.take (C.ti T_string).size (List.drop 2 c3))) else none)) fun v21 =>
 bindB (Slot.isB (gdV w_8 v18) false) fun w_11 =>
 bind1 (gd w_11 (binS (C.ti T_string) .neq v21 (.val (.str [])))) fun v22 =>
 bindB (Slot.isB v9 true) fun w_12 =>
 bind1 (gd w_12 (pickS (gdV w_8 v18) (.val (.bool true)) v22)) fun v23 =>
 bindB (Slot.isB v9 true) fun w_13 =>
 bindB (Slot.isB (gdV w_13 v23) false) fun w_14 =>
 bindB (Slot.isB (gdV w_13 v23) false) fun w_15 =>
 bind1 (gd w_15 (bif w_14 then (ofSlots (C.ti T_S_Ty) (List.take (C.ti T_S_Ty).size (List.drop 3 c3))) else none)) fun v26 =>
 bindB (Slot.isB (gdV w_13 v23) false) fun w_16 =>
 bind1 (gd w_16 (lenS (C.ti T_S_Ty) v26)) fun v27 =>
 bindB (Slot.isB (gdV w_13 v23) false) fun w_17 =>
 bind1 (gd w_17 (binS (C.ti T_int) .gtr v27 (.val (.int .i64 0)))) fun v28 =>
 bindB (Slot.isB v9 true) fun w_18 =>
 bind1 (gd w_18 (pickS (gdV w_13 v23) (.val (.bool true)) v28)) fun v29 =>
 bind1 (pickS v9 v29 (.val (.bool false))) fun v30 =>
 condS v30 (
 some (.ret (.val (.int .i64 29)), s)) (
 gC T_string 0 c1 fun v33 =>
 ca F_tree_capital [v33] s fun v34 s_1 =>
 bind1 (unS .not v34) fun v35 =>
 condS v35 (
 some (.ret (.val (.int .i64 8)), s_1)) (
 some (.ret (.val (.int .i64 0)), s_1))) := (callw_f _ _ _).trans (by kernel_rfl)
/- 119 camlet/tree.wrongExp -/
theorem tree_wrongExp_eq (a0 : AV) (s : St) : cw (.f F_tree_wrongExp) [a0] s =
 bindL (boxCells (C.ti T_Exp) (.val a0)) fun c1 =>
 bind1 (ofSlots (C.ti T_ExpKind) (List.take (C.ti T_ExpKind).size (List.drop 0 c1))) fun v7 =>
 back (cal cw true (tgtV (.val (.fn F_tree_fields [])) [v7]) s) fun v8 s_1 =>
 bind1 (extractS v8 0) fun v9 =>
 bind1 (extractS v8 1) fun v10 =>
 bindL (boxCells (C.ti T_has) v9) fun c =>
 bindL (putAt (List.map .val (C.ti T_has).zero) 0 c) fun c3 =>
 bind1 (unS .not v10) fun v13 =>
 bindB (Slot.isB v13 false) fun w =>
 bindB (Slot.isB v13 false) fun w_1 =>
 bind1 (gd w_1 (bif w then (ofSlots (C.ti T_bool) (List.take (C.ti T_bool).size (List.drop 0 c3))) else none)) fun v16 =>
 bindB (Slot.isB v13 false) fun w_2 =>
 bind1 (gd w_2 (unS .not v16)) fun v17 =>
 bindB (Slot.isB v13 false) fun w_3 =>
 bindB (Slot.isB (gdV w_3 v17) true) fun w_4 =>
 bindB (Slot.isB (gdV w_3 v17) true) fun w_5 =>
 bind1 (gd w_5 (bif w_4 then (ofSlots (C.ti T_string) (List.take (C.ti T_string).size (List.drop 2 c1))) else none)) fun v20 =>
 bindB (Slot.isB (gdV w_3 v17) true) fun w_6 =>
 bind1 (gd w_6 (binS (C.ti T_string) .neq v20 (.val (.str [])))) fun v21 =>
 bindB (Slot.isB v13 false) fun w_7 =>
 bind1 (gd w_7 (pickS (gdV w_3 v17) v21 (.val (.bool false)))) fun v22 =>
 bind1 (pickS v13 (.val (.bool true)) v22) fun v23 =>
 bindB (Slot.isB v23 false) fun w_8 =>
 bindB (Slot.isB v23 false) fun w_9 =>
 bind1 (gd w_9 (bif w_8 then (ofSlots (C.ti T_bool) (List.take (C.ti T_bool).size (List.drop 1 c3))) else none)) fun v26 =>
 bindB (Slot.isB v23 false) fun w_10 =>
 bind1 (gd w_10 (unS .not v26)) fun v27 =>
 bindB (Slot.isB v23 false) fun w_11 =>
 bindB (Slot.isB (gdV w_11 v27) true) fun w_12 =>
 bindB (Slot.isB (gdV w_11 v27) true) fun w_13 =>
 bind1 (gd w_13 (bif w_12 then (ofSlots (C.ti T_int) (List.take (C.ti T_int).size (List.drop 3 c1))) else none)) fun v30 =>
 bindB (Slot.isB (gdV w_11 v27) true) fun w_14 =>
 bind1 (gd w_14 (binS (C.ti T_int) .neq v30 (.val (.int .i64 0)))) fun v31 =>
 bindB (Slot.isB v23 false) fun w_15 =>
 bind1 (gd w_15 (pickS (gdV w_11 v27) v31 (.val (.bool false)))) fun v32 =>
 bind1 (pickS v23 (.val (.bool true)) v32) fun v33 =>
 bindB (Slot.isB v33 false) fun w_16 =>
 bindB (Slot.isB v33 false) fun w_17 =>
 bind1 (gd w_17 (bif w_16 then (ofSlots (C.ti T_bool) (List.take (C.ti T_bool).size (List.drop 2 c3))) else none)) fun v36 =>
 bindB (Slot.isB v33 false) fun w_18 =>
 bind1 (gd w_18 (unS .not v36)) fun v37 =>
 bindB (Slot.isB v33 false) fun w_19 =>
 bindB (Slot.isB (gdV w_19 v37) true) fun w_20 =>
 bindB (Slot.isB (gdV w_19 v37) true) fun w_21 =>
 bind1 (gd w_21 (bif w_20 then (ofSlots (C.ti T_S_Case) (List.take (C.ti T_S_Case).size (List.drop 5 c1))) else none)) fun v40 =>
 bindB (Slot.isB (gdV w_19 v37) true) fun w_22 =>
 bind1 (gd w_22 (lenS (C.ti T_S_Case) v40)) fun v41 =>
 bindB (Slot.isB (gdV w_19 v37) true) fun w_23 =>
 bind1 (gd w_23 (binS (C.ti T_int) .gtr v41 (.val (.int .i64 0)))) fun v42 =>
 bindB (Slot.isB v33 false) fun w_24 =>
 bind1 (gd w_24 (pickS (gdV w_19 v37) v42 (.val (.bool false)))) fun v43 =>
 bind1 (pickS v33 (.val (.bool true)) v43) fun v44 =>
 bindB (Slot.isB v44 false) fun w_25 =>
 bindB (Slot.isB v44 false) fun w_26 =>
 bind1 (gd w_26 (bif w_25 then (ofSlots (C.ti T_bool) (List.take (C.ti T_bool).size (List.drop 3 c3))) else none)) fun v47 =>
 bindB (Slot.isB v44 false) fun w_27 =>
 bind1 (gd w_27 (unS .not v47)) fun v48 =>
 bindB (Slot.isB v44 false) fun w_28 =>
 bindB (Slot.isB (gdV w_28 v48) true) fun w_29 =>
 bindB (Slot.isB (gdV w_28 v48) true) fun w_30 =>
 bind1 (gd w_30 (bif w_29 then (ofSlots (C.ti T_S_Dec) (List.take (C.ti T_S_Dec).size (List.drop 6 c1))) else none)) fun v51 =>
 bindB (Slot.isB (gdV w_28 v48) true) fun w_31 =>
 bind1 (gd w_31 (lenS (C.ti T_S_Dec) v51)) fun v52 =>
 bindB (Slot.isB (gdV w_28 v48) true) fun w_32 =>
 bind1 (gd w_32 (binS (C.ti T_int) .gtr v52 (.val (.int .i64 0)))) fun v53 =>
 bindB (Slot.isB v44 false) fun w_33 =>
 bind1 (gd w_33 (pickS (gdV w_28 v48) v53 (.val (.bool false)))) fun v54 =>
 bind1 (pickS v44 (.val (.bool true)) v54) fun v55 =>
 bindB (Slot.isB v55 false) fun w_34 =>
 bindB (Slot.isB v55 false) fun w_35 =>
 bind1 (gd w_35 (bif w_34 then (ofSlots (C.ti T_int) (List.take (C.ti T_int).size (List.drop 5 c3))) else none)) fun v58 =>
 bindB (Slot.isB v55 false) fun w_36 =>
 bind1 (gd w_36 (binS (C.ti T_int) .eql v58 (.val (.int .i64 0)))) fun v59 =>
 bindB (Slot.isB v55 false) fun w_37 =>
 bindB (Slot.isB (gdV w_37 v59) true) fun w_38 =>
 bindB (Slot.isB (gdV w_37 v59) true) fun w_39 =>
 bind1 (gd w_39 (bif w_38 then (ofSlots (C.ti T_S_Exp) (List.take (C.ti T_S_Exp).size (List.drop 4 c1))) else none)) fun v62 =>
 bindB (Slot.isB (gdV w_37 v59) true) fun w_40 =>
 bind1 (gd w_40 (lenS (C.ti T_S_Exp) v62)) fun v63 =>
 bindB (Slot.isB (gdV w_37 v59) true) fun w_41 =>
 bind1 (gd w_41 (binS (C.ti T_int) .gtr v63 (.val (.int .i64 0)))) fun v64 =>
 bindB (Slot.isB v55 false) fun w_42 =>
 bind1 (gd w_42 (pickS (gdV w_37 v59) v64 (.val (.bool false)))) fun v65 =>
 bind1 (pickS v55 (.val (.bool true)) v65) fun v66 =>
 condS v66 (
 some (.ret (.val (.int .i64 29)), s_1)) (
 bind1 (ofSlots (C.ti T_ExpKind) (List.take (C.ti T_ExpKind).size (List.drop 0 c1))) fun v69 =>
 bind1 (binS (C.ti T_ExpKind) .eql v69 (.val (.int .i64 2))) fun v70 =>
 bindB (Slot.isB v70 true) fun w_43 =>
 bindB (Slot.isB v70 true) fun w_44 =>
 bind1 (gd w_44 (bif w_43 then (ofSlots (C.ti T_string) (List.take (C.ti T_string).size (List.drop 2 c1))) else none)) fun v73 =>
 bindB (Slot.isB v70 true) fun w_45 =>
 back (cal cw w_45 (tgtV (.val (.fn F_tree_low [])) [v73]) s_1) fun v74 s_2 =>
 bindB (Slot.isB v70 true) fun w_46 =>
 bind1 (gd w_46 (unS .not v74)) fun v75 =>
 bind1 (pickS v70 v75 (.val (.bool false))) fun v76 =>
 bindB (Slot.isB v76 false) fun w_47 =>
 bindB (Slot.isB v76 false) fun w_48 =>
 bind1 (gd w_48 (bif w_47 then (ofSlots (C.ti T_ExpKind) (List.take (C.ti T_ExpKind).size (List.drop 0 c1))) else none)) fun v79 =>
 bindB (Slot.isB v76 false) fun w_49 =>
 bind1 (gd w_49 (binS (C.ti T_ExpKind) .eql v79 (.val (.int .i64 3)))) fun v80 =>
 bindB (Slot.isB v76 false) fun w_50 =>
 bindB (Slot.isB (gdV w_50 v80) true) fun w_51 =>
 bindB (Slot.isB (gdV w_50 v80) true) fun w_52 =>
 bind1 (gd w_52 (bif w_51 then (ofSlots (C.ti T_string) (List.take (C.ti T_string).size (List.drop 2 c1))) else none)) fun v83 =>
 bindB (Slot.isB (gdV w_50 v80) true) fun w_53 =>
 back (cal cw w_53 (tgtV (.val (.fn F_tree_constructor [])) [v83]) s_2) fun v84 s_3 =>
 bindB (Slot.isB (gdV w_50 v80) true) fun w_54 =>
 bind1 (gd w_54 (unS .not v84)) fun v85 =>
 bindB (Slot.isB v76 false) fun w_55 =>
 bind1 (gd w_55 (pickS (gdV w_50 v80) v85 (.val (.bool false)))) fun v86 =>
 bind1 (pickS v76 (.val (.bool true)) v86) fun v87 =>
 condS v87 (
 some (.ret (.val (.int .i64 8)), s_3)) (
 bind1 (ofSlots (C.ti T_ExpKind) (List.take (C.ti T_ExpKind).size (List.drop 0 c1))) fun v90 =>
 bind1 (binS (C.ti T_ExpKind) .eql v90 (.val (.int .i64 1))) fun v91 =>
 bindB (Slot.isB v91 true) fun w_56 =>
 bindB (Slot.isB v91 true) fun w_57 =>
 bind1 (gd w_57 (bif w_56 then (ofSlots (C.ti T_int) (List.take (C.ti T_int).size (List.drop 3 c1))) else none)) fun v94 =>
 bindB (Slot.isB v91 true) fun w_58 =>
 back (cal cw w_58 (tgtV (.val (.fn F_tree_isInt [])) [v94]) s_3) fun v95 s_4 =>
 bindB (Slot.isB v91 true) fun w_59 =>
 bind1 (gd w_59 (unS .not v95)) fun v96 =>
 bind1 (pickS v91 v96 (.val (.bool false))) fun v97 =>
 bindB (Slot.isB v97 false) fun w_60 =>
 bindB (Slot.isB v97 false) fun w_61 =>
 bind1 (gd w_61 (bif w_60 then (ofSlots (C.ti T_ExpKind) (List.take (C.ti T_ExpKind).size (List.drop 0 c1))) else none)) fun v100 =>
 bindB (Slot.isB v97 false) fun w_62 =>
 bind1 (gd w_62 (binS (C.ti T_ExpKind) .eql v100 (.val (.int .i64 13)))) fun v101 =>
 bindB (Slot.isB v97 false) fun w_63 =>
 bindB (Slot.isB (gdV w_63 v101) true) fun w_64 =>
 bindB (Slot.isB (gdV w_63 v101) true) fun w_65 =>
 bind1 (gd w_65 (bif w_64 then (ofSlots (C.ti T_int) (List.take (C.ti T_int).size (List.drop 3 c1))) else none)) fun v104 =>
 bindB (Slot.isB (gdV w_63 v101) true) fun w_66 =>
 bind1 (gd w_66 (binS (C.ti T_int) .lss v104 (.val (.int .i64 1)))) fun v105 =>
 bindB (Slot.isB (gdV w_63 v101) true) fun w_67 =>
 bindB (Slot.isB (gdV w_67 v105) false) fun w_68 =>
 bindB (Slot.isB (gdV w_67 v105) false) fun w_69 =>
 bind1 (gd w_69 (bif w_68 then (ofSlots (C.ti T_int) (List.take (C.ti T_int).size (List.drop 3 c1))) else none)) fun v108 =>
 bindB (Slot.isB (gdV w_67 v105) false) fun w_70 =>
 bind1 (gd w_70 (binS (C.ti T_int) .gtr v108 (.val (.int .i64 9)))) fun v109 =>
 bindB (Slot.isB (gdV w_63 v101) true) fun w_71 =>
 bind1 (gd w_71 (pickS (gdV w_67 v105) (.val (.bool true)) v109)) fun v110 =>
 bindB (Slot.isB v97 false) fun w_72 =>
 bind1 (gd w_72 (pickS (gdV w_63 v101) v110 (.val (.bool false)))) fun v111 =>
 bind1 (pickS v97 (.val (.bool true)) v111) fun v112 =>
 condS v112 (
 some (.ret (.val (.int .i64 2)), s_4)) (
 bind1 (ofSlots (C.ti T_S_Exp) (List.take (C.ti T_S_Exp).size (List.drop 4 c1))) fun v115 =>
 bind1 (lenS (C.ti T_S_Exp) v115) fun v116 =>
 bind1 (ofSlots (C.ti T_int) (List.take (C.ti T_int).size (List.drop 4 c3))) fun v118 =>
 bind1 (binS (C.ti T_int) .lss v116 v118) fun v119 =>
 bindB (Slot.isB v119 false) fun w_73 =>
 bindB (Slot.isB v119 false) fun w_74 =>
 bind1 (gd w_74 (bif w_73 then (ofSlots (C.ti T_S_Exp) (List.take (C.ti T_S_Exp).size (List.drop 4 c1))) else none)) fun v122 =>
 bindB (Slot.isB v119 false) fun w_75 =>
 bind1 (gd w_75 (lenS (C.ti T_S_Exp) v122)) fun v123 =>
 bindB (Slot.isB v119 false) fun w_76 =>
 bindB (Slot.isB v119 false) fun w_77 =>
 bind1 (gd w_77 (bif w_76 then (ofSlots (C.ti T_int) (List.take (C.ti T_int).size (List.drop 5 c3))) else none)) fun v125 =>
 bindB (Slot.isB v119 false) fun w_78 =>
 bind1 (gd w_78 (binS (C.ti T_int) .gtr v123 v125)) fun v126 =>
 bind1 (pickS v119 (.val (.bool true)) v126) fun v127 =>
 bindB (Slot.isB v127 false) fun w_79 =>
 bindB (Slot.isB v127 false) fun w_80 =>
 bind1 (gd w_80 (bif w_79 then (ofSlots (C.ti T_bool) (List.take (C.ti T_bool).size (List.drop 2 c3))) else none)) fun v130 =>
 bindB (Slot.isB v127 false) fun w_81 =>
 bindB (Slot.isB (gdV w_81 v130) true) fun w_82 =>
 bindB (Slot.isB (gdV w_81 v130) true) fun w_83 =>
 bind1 (gd w_83 (bif w_82 then (ofSlots (C.ti T_S_Case) (List.take (C.ti T_S_Case).size (List.drop 5 c1))) else none)) fun v133 =>
 bindB (Slot.isB (gdV w_81 v130) true) fun w_84 =>
 bind1 (gd w_84 (lenS (C.ti T_S_Case) v133)) fun v134 =>
 bindB (Slot.isB (gdV w_81 v130) true) fun w_85 =>
 bind1 (gd w_85 (binS (C.ti T_int) .eql v134 (.val (.int .i64 0)))) fun v135 =>
 bindB (Slot.isB v127 false) fun w_86 =>
 bind1 (gd w_86 (pickS (gdV w_81 v130) v135 (.val (.bool false)))) fun v136 =>
 bind1 (pickS v127 (.val (.bool true)) v136) fun v137 =>
 bindB (Slot.isB v137 false) fun w_87 =>
 bindB (Slot.isB v137 false) fun w_88 =>
 bind1 (gd w_88 (bif w_87 then (ofSlots (C.ti T_bool) (List.take (C.ti T_bool).size (List.drop 3 c3))) else none)) fun v140 =>
 bindB (Slot.isB v137 false) fun w_89 =>
 bindB (Slot.isB (gdV w_89 v140) true) fun w_90 =>
 bindB (Slot.isB (gdV w_89 v140) true) fun w_91 =>
 bind1 (gd w_91 (bif w_90 then (ofSlots (C.ti T_S_Dec) (List.take (C.ti T_S_Dec).size (List.drop 6 c1))) else none)) fun v143 =>
 bindB (Slot.isB (gdV w_89 v140) true) fun w_92 =>
 bind1 (gd w_92 (lenS (C.ti T_S_Dec) v143)) fun v144 =>
 bindB (Slot.isB (gdV w_89 v140) true) fun w_93 =>
 bind1 (gd w_93 (binS (C.ti T_int) .eql v144 (.val (.int .i64 0)))) fun v145 =>
 bindB (Slot.isB v137 false) fun w_94 =>
 bind1 (gd w_94 (pickS (gdV w_89 v140) v145 (.val (.bool false)))) fun v146 =>
 bind1 (pickS v137 (.val (.bool true)) v146) fun v147 =>
 condS v147 (
 some (.ret (.val (.int .i64 19)), s_4)) (
 some (.ret (.val (.int .i64 0)), s_4))))) := (callw_f _ _ _).trans (by kernel_rfl)
/- 120 camlet/tree.wrongPat -/
noncomputable def tree_wrongPat_j0 : List Slot → Slot → Slot → Slot → Slot → St → Res := fun x1 x3 x4 x5 x6 s => pw (run C false F_tree_wrongPat (codeAt [.seqR, .seqR, .seqR] (body Go.Proofs.Tryz.f120)) [(1, .var x1), (3, .s x3), (4, .s x4), (5, .s x5), (6, .s x6)] s (ctxR C false F_tree_wrongPat [.seqR, .seqR, .seqR] (body Go.Proofs.Tryz.f120) (outK C (Go.Proofs.Tryz.f120).results.toList)))
theorem tree_wrongPat_j0_eq : ∀ x1 x3 x4 x5 x6 s_1, tree_wrongPat_j0 x1 x3 x4 x5 x6 s_1 =
 bind1 (unS .not x3) fun v23 =>
 bindB (Slot.isB v23 true) fun w =>
 bindB (Slot.isB v23 true) fun w_1 =>
 bind1 (gd w_1 (bif w then (ofSlots (C.ti T_string) (List.take (C.ti T_string).size (List.drop 2 x1))) else none)) fun v26 =>
 bindB (Slot.isB v23 true) fun w_2 =>
 bind1 (gd w_2 (binS (C.ti T_string) .neq v26 (.val (.str [])))) fun v27 =>
 bind1 (pickS v23 v27 (.val (.bool false))) fun v28 =>
 bindB (Slot.isB v28 false) fun w_3 =>
 bindB (Slot.isB v28 false) fun w_4 =>
 bind1 (gd w_4 (unS .not (gdV w_3 x4))) fun v31 =>
 bindB (Slot.isB v28 false) fun w_5 =>
 bindB (Slot.isB (gdV w_5 v31) true) fun w_6 =>
 bindB (Slot.isB (gdV w_5 v31) true) fun w_7 =>
 bind1 (gd w_7 (bif w_6 then (ofSlots (C.ti T_int) (List.take (C.ti T_int).size (List.drop 3 x1))) else none)) fun v34 =>
 bindB (Slot.isB (gdV w_5 v31) true) fun w_8 =>
 bind1 (gd w_8 (binS (C.ti T_int) .neq v34 (.val (.int .i64 0)))) fun v35 =>
 bindB (Slot.isB v28 false) fun w_9 =>
 bind1 (gd w_9 (pickS (gdV w_5 v31) v35 (.val (.bool false)))) fun v36 =>
 bind1 (pickS v28 (.val (.bool true)) v36) fun v37 =>
 bindB (Slot.isB v37 false) fun w_10 =>
 bindB (Slot.isB v37 false) fun w_11 =>
 bind1 (gd w_11 (binS (C.ti T_int) .eql (gdV w_10 x6) (.val (.int .i64 0)))) fun v40 =>
 bindB (Slot.isB v37 false) fun w_12 =>
 bindB (Slot.isB (gdV w_12 v40) true) fun w_13 =>
 bindB (Slot.isB (gdV w_12 v40) true) fun w_14 =>
 bind1 (gd w_14 (bif w_13 then (ofSlots (C.ti T_S_Pat) (List.take (C.ti T_S_Pat).size (List.drop 4 x1))) else none)) fun v43 =>
 bindB (Slot.isB (gdV w_12 v40) true) fun w_15 =>
 bind1 (gd w_15 (lenS (C.ti T_S_Pat) v43)) fun v44 =>
 bindB (Slot.isB (gdV w_12 v40) true) fun w_16 =>
 bind1 (gd w_16 (binS (C.ti T_int) .gtr v44 (.val (.int .i64 0)))) fun v45 =>
 bindB (Slot.isB v37 false) fun w_17 =>
 bind1 (gd w_17 (pickS (gdV w_12 v40) v45 (.val (.bool false)))) fun v46 =>
 bind1 (pickS v37 (.val (.bool true)) v46) fun v47 =>
 condS v47 (
 some (.ret (.val (.int .i64 29)), s_1)) (
 gC T_PatKind 0 x1 fun v50 =>
 bn T_PatKind .eql v50 (.val (.int .i64 4)) fun v51 =>
 bindB (Slot.isB v51 true) fun w_18 =>
 bindB (Slot.isB v51 true) fun w_19 =>
 bind1 (gd w_19 (bif w_18 then (ofSlots (C.ti T_string) (List.take (C.ti T_string).size (List.drop 2 x1))) else none)) fun v54 =>
 bindB (Slot.isB v51 true) fun w_20 =>
 cg w_20 F_tree_constructor [v54] s_1 fun v55 s_2 =>
 bindB (Slot.isB v51 true) fun w_21 =>
 bind1 (gd w_21 (unS .not v55)) fun v56 =>
 bind1 (pickS v51 v56 (.val (.bool false))) fun v57 =>
 bindB (Slot.isB v57 false) fun w_22 =>
 bindB (Slot.isB v57 false) fun w_23 =>
 bindB (Slot.isB (gdV w_23 (gdV w_22 x3)) true) fun w_24 =>
 bindB (Slot.isB (gdV w_23 (gdV w_22 x3)) true) fun w_25 =>
 bind1 (gd w_25 (bif w_24 then (ofSlots (C.ti T_PatKind) (List.take (C.ti T_PatKind).size (List.drop 0 x1))) else none)) fun v62 =>
 bindB (Slot.isB (gdV w_23 (gdV w_22 x3)) true) fun w_26 =>
 bind1 (gd w_26 (binS (C.ti T_PatKind) .neq v62 (.val (.int .i64 4)))) fun v63 =>
 bindB (Slot.isB v57 false) fun w_27 =>
 bind1 (gd w_27 (pickS (gdV w_23 (gdV w_22 x3)) v63 (.val (.bool false)))) fun v64 =>
 bindB (Slot.isB v57 false) fun w_28 =>
 bindB (Slot.isB (gdV w_28 v64) true) fun w_29 =>
 bindB (Slot.isB (gdV w_28 v64) true) fun w_30 =>
 bind1 (gd w_30 (bif w_29 then (ofSlots (C.ti T_string) (List.take (C.ti T_string).size (List.drop 2 x1))) else none)) fun v67 =>
 bindB (Slot.isB (gdV w_28 v64) true) fun w_31 =>
 cg w_31 F_tree_low [v67] s_2 fun v68 s_3 =>
 bindB (Slot.isB (gdV w_28 v64) true) fun w_32 =>
 bind1 (gd w_32 (unS .not v68)) fun v69 =>
 bindB (Slot.isB v57 false) fun w_33 =>
 bind1 (gd w_33 (pickS (gdV w_28 v64) v69 (.val (.bool false)))) fun v70 =>
 bind1 (pickS v57 (.val (.bool true)) v70) fun v71 =>
 condS v71 (
 some (.ret (.val (.int .i64 8)), s_3)) (
 bindB (Slot.isB x4 true) fun w_34 =>
 bindB (Slot.isB x4 true) fun w_35 =>
 bind1 (gd w_35 (bif w_34 then (ofSlots (C.ti T_int) (List.take (C.ti T_int).size (List.drop 3 x1))) else none)) fun v76 =>
 bindB (Slot.isB x4 true) fun w_36 =>
 cg w_36 F_tree_isInt [v76] s_3 fun v77 s_4 =>
 bindB (Slot.isB x4 true) fun w_37 =>
 bind1 (gd w_37 (unS .not v77)) fun v78 =>
 bind1 (pickS x4 v78 (.val (.bool false))) fun v79 =>
 condS v79 (
 some (.ret (.val (.int .i64 2)), s_4)) (
 gC T_S_Pat 4 x1 fun v82 =>
 ln T_S_Pat v82 fun v83 =>
 bn T_int .lss v83 x5 fun v85 =>
 bindB (Slot.isB v85 false) fun w_38 =>
 bindB (Slot.isB v85 false) fun w_39 =>
 bind1 (gd w_39 (bif w_38 then (ofSlots (C.ti T_S_Pat) (List.take (C.ti T_S_Pat).size (List.drop 4 x1))) else none)) fun v88 =>
 bindB (Slot.isB v85 false) fun w_40 =>
 bind1 (gd w_40 (lenS (C.ti T_S_Pat) v88)) fun v89 =>
 bindB (Slot.isB v85 false) fun w_41 =>
 bindB (Slot.isB v85 false) fun w_42 =>
 bind1 (gd w_42 (binS (C.ti T_int) .gtr v89 (gdV w_41 x6))) fun v91 =>
 bind1 (pickS v85 (.val (.bool true)) v91) fun v92 =>
 condS v92 (
 some (.ret (.val (.int .i64 19)), s_4)) (
 some (.ret (.val (.int .i64 0)), s_4))))) := by intros; unfold tree_wrongPat_j0; exact (pw_eq _).trans (by kernel_rfl)
theorem tree_wrongPat_eq (a0 : AV) (s : St) : cw (.f F_tree_wrongPat) [a0] s =
 bx T_Pat (.val a0) fun c1 =>
 gC T_PatKind 0 c1 fun v8 =>
 bn T_PatKind .eql v8 (.val (.int .i64 1)) fun v10 =>
 condS v10 (
 tree_wrongPat_j0 c1 (.val (.bool false)) (.val (.bool false)) (.val (.int .i64 0)) (.val (.int .i64 0)) s) (
 bn T_PatKind .eql v8 (.val (.int .i64 2)) fun v12 =>
 condS v12 (
 tree_wrongPat_j0 c1 (.val (.bool true)) (.val (.bool false)) (.val (.int .i64 0)) (.val (.int .i64 0)) s) (
 bn T_PatKind .eql v8 (.val (.int .i64 3)) fun v14 =>
 condS v14 (
 tree_wrongPat_j0 c1 (.val (.bool false)) (.val (.bool true)) (.val (.int .i64 0)) (.val (.int .i64 0)) s) (
 bn T_PatKind .eql v8 (.val (.int .i64 4)) fun v16 =>
 condS v16 (
 tree_wrongPat_j0 c1 (.val (.bool true)) (.val (.bool false)) (.val (.int .i64 0)) (.val (.int .i64 1)) s) (
 bn T_PatKind .eql v8 (.val (.int .i64 5)) fun v18 =>
 condS v18 (
 tree_wrongPat_j0 c1 (.val (.bool false)) (.val (.bool false)) (.val (.int .i64 2)) (.val (.int .i64 8)) s) (
 bn T_PatKind .eql v8 (.val (.int .i64 6)) fun v20 =>
 condS v20 (
 tree_wrongPat_j0 c1 (.val (.bool true)) (.val (.bool false)) (.val (.int .i64 1)) (.val (.int .i64 1)) s) (
 some (.ret (.val (.int .i64 29)), s))))))) := (callw_f _ _ _).trans (by kernel_rfl)
/- 121 camlet/tree.wrongTy -/
noncomputable def tree_wrongTy_j1 : Slot → Slot → Slot → St → Res := fun x3_1 x4_1 x5_1 s => pw (run C false F_tree_wrongTy (codeAt [.seqR, .seqR, .seqR, .seqR, .seqR] (body Go.Proofs.Tryz.f121)) [(3, .s x3_1), (4, .s x4_1), (5, .s x5_1)] s (ctxR C false F_tree_wrongTy [.seqR, .seqR, .seqR, .seqR, .seqR] (body Go.Proofs.Tryz.f121) (outK C (Go.Proofs.Tryz.f121).results.toList)))
noncomputable def tree_wrongTy_j0 : List Slot → Slot → Slot → Slot → Slot → Slot → St → Res := fun x1 x3 x4 x5 x56 x61 s => pw (run C false F_tree_wrongTy (codeAt [.seqR, .seqR, .seqR, .seqR, .seqL, .seqR, .block, .seqR] (body Go.Proofs.Tryz.f121)) [(1, .var x1), (3, .s x3), (4, .s x4), (5, .s x5), (56, .s x56), (61, .s x61)] s (ctxR C false F_tree_wrongTy [.seqR, .seqR, .seqR, .seqR, .seqL, .seqR, .block, .seqR] (body Go.Proofs.Tryz.f121) (outK C (Go.Proofs.Tryz.f121).results.toList)))
theorem tree_wrongTy_j1_eq : ∀ x3_1 x4_1 x5_1 s_2, tree_wrongTy_j1 x3_1 x4_1 x5_1 s_2 =
 bn T_int .lss x3_1 x4_1 fun v74 =>
 bindB (Slot.isB v74 false) fun w_26 =>
 bindB (Slot.isB v74 false) fun w_27 =>
 bindB (Slot.isB v74 false) fun w_28 =>
 bind1 (gd w_28 (binS (C.ti T_int) .gtr (gdV w_26 x3_1) (gdV w_27 x5_1))) fun v78 =>
 bind1 (pickS v74 (.val (.bool true)) v78) fun v79 =>
 condS v79 (
 some (.ret (.val (.int .i64 19)), s_2)) (
 some (.ret (.val (.int .i64 0)), s_2)) := by intros; unfold tree_wrongTy_j1; exact (pw_eq _).trans (by kernel_rfl)
theorem tree_wrongTy_j0_eq : ∀ x1 x3 x4 x5 x56 x61 s_1, tree_wrongTy_j0 x1 x3 x4 x5 x56 x61 s_1 =
 condS x61 (
 tree_wrongTy_j1 x3 x4 x5 s_1) (
 bn T_string .eql x56 (.val (.str [114, 101, 102])) fun v67 =>
 condS v67 (
 tree_wrongTy_j1 x3 (.val (.int .i64 1)) (.val (.int .i64 1)) s_1) (
 bn T_string .eql x56 (.val (.str [45, 62])) fun v69 =>
 condS v69 (
 tree_wrongTy_j1 x3 (.val (.int .i64 2)) (.val (.int .i64 2)) s_1) (
 bn T_string .eql x56 (.val (.str [42])) fun v71 =>
 condS v71 (
 tree_wrongTy_j1 x3 (.val (.int .i64 2)) (.val (.int .i64 8)) s_1) (
 gC T_string 2 x1 fun v58 =>
 ca F_tree_low [v58] s_1 fun v59 s_3 =>
 bind1 (unS .not v59) fun v60 =>
 condS v60 (
 some (.ret (.val (.int .i64 8)), s_3)) (
 tree_wrongTy_j1 x3 x4 (.val (.int .i64 8)) s_3))))) := by intros; unfold tree_wrongTy_j0; exact (pw_eq _).trans (by kernel_rfl)
theorem tree_wrongTy_eq (a0 : AV) (s : St) : cw (.f F_tree_wrongTy) [a0] s =
 bx T_Ty (.val a0) fun c1 =>
 gC T_S_Ty 3 c1 fun v7 =>
 ln T_S_Ty v7 fun v8 =>
 gC T_TyKind 0 c1 fun v11 =>
 bn T_TyKind .eql v11 (.val (.int .i64 1)) fun v12 =>
 bindB (Slot.isB v12 true) fun w =>
 bindB (Slot.isB v12 true) fun w_1 =>
 bind1 (gd w_1 (bif w then (ofSlots (C.ti T_string) (List.take (C.ti T_string).size (List.drop 2 c1))) else none)) fun v15 =>
 bindB (Slot.isB v12 true) fun w_2 =>
 bind1 (gd w_2 (binS (C.ti T_string) .neq v15 (.val (.str [])))) fun v16 =>
 bindB (Slot.isB v12 true) fun w_3 =>
 bindB (Slot.isB (gdV w_3 v16) false) fun w_4 =>
 bindB (Slot.isB (gdV w_3 v16) false) fun w_5 =>
 bind1 (gd w_5 (binS (C.ti T_int) .gtr (gdV w_4 v8) (.val (.int .i64 0)))) fun v19 =>
 bindB (Slot.isB v12 true) fun w_6 =>
 bind1 (gd w_6 (pickS (gdV w_3 v16) (.val (.bool true)) v19)) fun v20 =>
 bind1 (pickS v12 v20 (.val (.bool false))) fun v21 =>
 bindB (Slot.isB v21 false) fun w_7 =>
 bindB (Slot.isB v21 false) fun w_8 =>
 bind1 (gd w_8 (bif w_7 then (ofSlots (C.ti T_TyKind) (List.take (C.ti T_TyKind).size (List.drop 0 c1))) else none)) fun v24 =>
 bindB (Slot.isB v21 false) fun w_9 =>
 bind1 (gd w_9 (binS (C.ti T_TyKind) .eql v24 (.val (.int .i64 2)))) fun v25 =>
 bindB (Slot.isB v21 false) fun w_10 =>
 bindB (Slot.isB (gdV w_10 v25) true) fun w_11 =>
 bindB (Slot.isB (gdV w_10 v25) true) fun w_12 =>
 bind1 (gd w_12 (bif w_11 then (ofSlots (C.ti T_int) (List.take (C.ti T_int).size (List.drop 1 c1))) else none)) fun v28 =>
 bindB (Slot.isB (gdV w_10 v25) true) fun w_13 =>
 bind1 (gd w_13 (binS (C.ti T_int) .neq v28 (.val (.int .i64 0)))) fun v29 =>
 bindB (Slot.isB v21 false) fun w_14 =>
 bind1 (gd w_14 (pickS (gdV w_10 v25) v29 (.val (.bool false)))) fun v30 =>
 bind1 (pickS v21 (.val (.bool true)) v30) fun v31 =>
 bindB (Slot.isB v31 false) fun w_15 =>
 bindB (Slot.isB v31 false) fun w_16 =>
 bind1 (gd w_16 (bif w_15 then (ofSlots (C.ti T_TyKind) (List.take (C.ti T_TyKind).size (List.drop 0 c1))) else none)) fun v34 =>
 bindB (Slot.isB v31 false) fun w_17 =>
 bind1 (gd w_17 (binS (C.ti T_TyKind) .neq v34 (.val (.int .i64 1)))) fun v35 =>
 bindB (Slot.isB v31 false) fun w_18 =>
 bindB (Slot.isB (gdV w_18 v35) true) fun w_19 =>
 bindB (Slot.isB (gdV w_18 v35) true) fun w_20 =>
 bind1 (gd w_20 (bif w_19 then (ofSlots (C.ti T_TyKind) (List.take (C.ti T_TyKind).size (List.drop 0 c1))) else none)) fun v38 =>
 bindB (Slot.isB (gdV w_18 v35) true) fun w_21 =>
 bind1 (gd w_21 (binS (C.ti T_TyKind) .neq v38 (.val (.int .i64 2)))) fun v39 =>
 bindB (Slot.isB v31 false) fun w_22 =>
 bind1 (gd w_22 (pickS (gdV w_18 v35) v39 (.val (.bool false)))) fun v40 =>
 bind1 (pickS v31 (.val (.bool true)) v40) fun v41 =>
 condS v41 (
 some (.ret (.val (.int .i64 29)), s)) (
 gC T_TyKind 0 c1 fun v44 =>
 bn T_TyKind .eql v44 (.val (.int .i64 1)) fun v45 =>
 bindB (Slot.isB v45 true) fun w_23 =>
 bindB (Slot.isB v45 true) fun w_24 =>
 bind1 (gd w_24 (bif w_23 then (ofSlots (C.ti T_int) (List.take (C.ti T_int).size (List.drop 1 c1))) else none)) fun v48 =>
 bindB (Slot.isB v45 true) fun w_25 =>
 bind1 (gd w_25 (binS (C.ti T_int) .lss v48 (.val (.int .i64 0)))) fun v49 =>
 bind1 (pickS v45 v49 (.val (.bool false))) fun v50 =>
 condS v50 (
 some (.ret (.val (.int .i64 2)), s)) (
 gC T_TyKind 0 c1 fun v53 =>
 bn T_TyKind .eql v53 (.val (.int .i64 1)) fun v54 =>
 condS v54 (
 some (.ret (.val (.int .i64 0)), s)) (
 gC T_string 2 c1 fun v56 =>
 bn T_string .eql v56 (.val (.str [105, 110, 116])) fun v62 =>
 condS v62 (
 tree_wrongTy_j0 c1 v8 (.val (.int .i64 0)) (.val (.int .i64 0)) v56 v62 s) (
 bn T_string .eql v56 (.val (.str [98, 111, 111, 108])) fun v63 =>
 condS v63 (
 tree_wrongTy_j0 c1 v8 (.val (.int .i64 0)) (.val (.int .i64 0)) v56 v63 s) (
 bn T_string .eql v56 (.val (.str [117, 110, 105, 116])) fun v64 =>
 condS v64 (
 tree_wrongTy_j0 c1 v8 (.val (.int .i64 0)) (.val (.int .i64 0)) v56 v64 s) (
 bn T_string .eql v56 (.val (.str [101, 120, 110])) fun v65 =>
 tree_wrongTy_j0 c1 v8 (.val (.int .i64 0)) (.val (.int .i64 0)) v56 v65 s)))))) := (callw_f _ _ _).trans (by kernel_rfl)
/- 122 (camlet/tree.walker).cases -/
noncomputable def tree_walker_cases_l0 : Slot → List Slot → Slot → Slot → St → Res := fun x1 x2 x7 x8 s => lpD F_tree_walker_cases [.seqR, .seqL, .seqR, .block] Go.Proofs.Tryz.f122 [(1, .s x1), (2, .var x2), (7, .s x7), (8, .s x8)] s
theorem tree_walker_cases_l0_eq : ∀ x1 x2 x7 x8 s_1, tree_walker_cases_l0 x1 x2 x7 x8 s_1 =
 bn T_int .lss x8 x7 fun v9 =>
 condS v9 (
 gA T_walker x2 fun v11 =>
 ix T_Case x1 x8 fun v14 =>
 bind1 (faV 0 v14) fun v15 =>
 cn F_tree_walker_pats [v11, v15] s_1 fun v16 s_2 =>
 bind1 (unS .not v16) fun v17 =>
 bindB (Slot.isB v17 false) fun w =>
 bind1 (gd w (ofSlots (C.ti T_walker) (List.take (C.ti T_walker).size x2))) fun v19 =>
 bindB (Slot.isB v17 false) fun w_1 =>
 bindB (Slot.isB v17 false) fun w_2 =>
 bindB (Slot.isB v17 false) fun w_3 =>
 bind1 (gd w_3 (ixS (C.ti T_Case).size (gdV w_1 x1) (gdV w_2 x8))) fun v22 =>
 bindB (Slot.isB v17 false) fun w_4 =>
 bind1 (gd w_4 (faV 5 v22)) fun v23 =>
 bindB (Slot.isB v17 false) fun w_5 =>
 back (noPan (cal cw w_5 (tgtV (.val (.fn F_tree_walker_exps [])) [v19, v23]) s_2)) fun v24 s_3 =>
 bindB (Slot.isB v17 false) fun w_6 =>
 bind1 (gd w_6 (unS .not v24)) fun v25 =>
 bind1 (pickS v17 (.val (.bool true)) v25) fun v26 =>
 condS v26 (
 some (.ret (.val (.bool false)), s_3)) (
 nx x8 fun v27 =>
 tree_walker_cases_l0 x1 x2 x7 v27 s_3)) (
 some (.ret (.val (.bool true)), s_1)) := by intros; unfold tree_walker_cases_l0; exact (loopR_eq _ _ _ _ _ _).trans (by kernel_rfl)
theorem tree_walker_cases_eq (a0 : AV) (a1 : AV) (s : St) : cw (.f F_tree_walker_cases) [a0, a1] s =
 bx T_walker (.val a0) fun c2 =>
 ln T_S_Case (.val a1) fun v7 =>
 tree_walker_cases_l0 (.val a1) c2 v7 (.val (.int .i64 0)) s := (callw_f _ _ _).trans (by kernel_rfl)
/- 123 (camlet/tree.walker).types -/
noncomputable def tree_walker_types_l0 : Slot → Slot → List Slot → Slot → Slot → St → Res := fun x1 x2 x3 x19 x20 s => lpD F_tree_walker_types [.seqR, .seqR, .seqL, .seqR, .block] Go.Proofs.Tryz.f123 [(1, .s x1), (2, .s x2), (3, .var x3), (19, .s x19), (20, .s x20)] s
theorem tree_walker_types_l0_eq : ∀ x1 x2 x3 x19 x20 s_2, tree_walker_types_l0 x1 x2 x3 x19 x20 s_2 =
 bn T_int .lss x20 x19 fun v21 =>
 condS v21 (
 gA T_walker x3 fun v23 =>
 bind1 (nilCheckV x1) fun v25 =>
 bind1 (faV 3 v25) fun v26 =>
 ld T_S_Ty s_2 v26 fun v27 =>
 ix T_Ty v27 x20 fun v29 =>
 cn F_tree_walker_types [v23, v29, x2] s_2 fun v31 s_3 =>
 bind1 (unS .not v31) fun v32 =>
 condS v32 (
 some (.ret (.val (.bool false)), s_3)) (
 nx x20 fun v33 =>
 tree_walker_types_l0 x1 x2 x3 x19 v33 s_3)) (
 some (.ret (.val (.bool true)), s_2)) := by intros; unfold tree_walker_types_l0; exact (loopR_eq _ _ _ _ _ _).trans (by kernel_rfl)
theorem tree_walker_types_eq (a0 : AV) (a1 : AV) (a2 : AV) (s : St) : cw (.f F_tree_walker_types) [a0, a1, a2] s =
 bx T_walker (.val a0) fun c3 =>
 gC T_x_func_tree_thing_bool 0 c3 fun v9 =>
 bind1 (buildS (C.ti T_thing).zero [(6, (C.ti T_P_Ty).size, (.val a1)), (7, (C.ti T_int).size, (.val a2))]) fun v12 =>
 back (cal cw true (tgtV v9 [v12]) s) fun v13 s_1 =>
 bind1 (unS .not v13) fun v14 =>
 condS v14 (
 some (.ret (.val (.bool false)), s_1)) (
 bind1 (nilCheckV (.val a1)) fun v16 =>
 bind1 (faV 3 v16) fun v17 =>
 ld T_S_Ty s_1 v17 fun v18 =>
 ln T_S_Ty v18 fun v19 =>
 tree_walker_types_l0 (.val a1) (.val a2) c3 v19 (.val (.int .i64 0)) s_1) := (callw_f _ _ _).trans (by kernel_rfl)
/- 124 camlet/tree.deepPat -/
noncomputable def tree_deepPat_l0 : Slot → Slot → Slot → Slot → St → Res := fun x3 x7 x8 x9 s => lpD F_tree_deepPat [.seqR, .seqR, .seqL, .seqR, .block] Go.Proofs.Tryz.f124 [(3, .s x3), (7, .s x7), (8, .s x8), (9, .s x9)] s
theorem tree_deepPat_l0_eq : ∀ x3 x7 x8 x9 s_1, tree_deepPat_l0 x3 x7 x8 x9 s_1 =
 bn T_int .lss x9 x8 fun v10 =>
 condS v10 (
 ix T_Pat x7 x9 fun v11 =>
 ld T_Pat s_1 v11 fun v12 =>
 bx T_Pat v12 fun c =>
 pZ T_Pat c fun c5 =>
 gA T_Pat c5 fun v14 =>
 ca F_tree_deepPat [v14] s_1 fun v15 s_2 =>
 bind1 (max2 x3 v15) fun v16 =>
 nx x9 fun v17 =>
 tree_deepPat_l0 v16 x7 x8 v17 s_2) (
 nx x3 fun v19 =>
 some (.ret v19, s_1)) := by intros; unfold tree_deepPat_l0; exact (loopR_eq _ _ _ _ _ _).trans (by kernel_rfl)
theorem tree_deepPat_eq (a0 : AV) (s : St) : cw (.f F_tree_deepPat) [a0] s =
 bx T_Pat (.val a0) fun c1 =>
 gC T_S_Pat 4 c1 fun v7 =>
 ln T_S_Pat v7 fun v8 =>
 tree_deepPat_l0 (.val (.int .i64 0)) v7 v8 (.val (.int .i64 0)) s := (callw_f _ _ _).trans (by kernel_rfl)
/- 125 camlet/camletref05.OfPat -/
noncomputable def ref05_OfPat_l0 : List Slot → Slot → Slot → St → Res := fun x1 x3 x4 s => lpD F_ref05_OfPat [.seqR, .seqR, .seqL, .seqR, .block] Go.Proofs.Tryz.f125 [(1, .var x1), (3, .s x3), (4, .s x4)] s
theorem ref05_OfPat_l0_eq : ∀ x1 x3 x4 s_1, ref05_OfPat_l0 x1 x3 x4 s_1 =
 gC T_S_Pat 4 x1 fun v12 =>
 ln T_S_Pat v12 fun v13 =>
 bn T_int .lss x4 v13 fun v14 =>
 condS v14 (
 gC T_S_Pat 4 x1 fun v19 =>
 ix T_Pat v19 x4 fun v21 =>
 ld T_Pat s_1 v21 fun v22 =>
 ca F_ref05_OfPat [v22] s_1 fun v23 s_2 =>
 bind2 (appendS T_ref05_Node (C.ti T_ref05_Node) s_2 x3 v23) fun v24 s_3 =>
 nx x4 fun v16 =>
 ref05_OfPat_l0 x1 v24 v16 s_3) (
 some (.ret x3, s_1)) := by intros; unfold ref05_OfPat_l0; exact (loopR_eq _ _ _ _ _ _).trans (by kernel_rfl)
theorem ref05_OfPat_eq (a0 : AV) (s : St) : cw (.f F_ref05_OfPat) [a0] s =
 bx T_Pat (.val a0) fun c1 =>
 gA T_Pat c1 fun v5 =>
 gC T_int 1 c1 fun v7 =>
 bind1 (buildS (C.ti T_ref05_Node).zero [(0, (C.ti T_int).size, (.val (.int .i64 3))), (17, (C.ti T_Pat).size, v5), (2, (C.ti T_int).size, v7)]) fun v8 =>
 bind1 (bslF (C.ti T_ref05_Node).size [v8]) fun v9 =>
 ref05_OfPat_l0 c1 v9 (.val (.int .i64 0)) s := (callw_f _ _ _).trans (by kernel_rfl)
/- 126 camlet/tree.pattern$1 -/
theorem tree_pattern_1_eq (a0 : AV) (a1 : AV) (s : St) : cw (.f F_tree_pattern_1) [a0, a1] s =
 bind1 (buildS (C.ti T_walker).zero [(0, (C.ti T_x_func_tree_thing_bool).size, (.val a0))]) fun v4 =>
 ca F_tree_walker_pats [v4, (.val a1)] s fun v5 s_1 =>
 bind1 (tupS []) fun v => some (.ret v, s_1) := (callw_f _ _ _).trans (by kernel_rfl)
/- 127 (camlet/tree.walker).pats -/
noncomputable def tree_walker_pats_l0 : Slot → List Slot → Slot → Slot → St → Res := fun x1 x2 x20 x21 s => lpD F_tree_walker_pats [.seqR, .seqR, .seqL, .seqR, .block] Go.Proofs.Tryz.f127 [(1, .s x1), (2, .var x2), (20, .s x20), (21, .s x21)] s
theorem tree_walker_pats_l0_eq : ∀ x1 x2 x20 x21 s_2, tree_walker_pats_l0 x1 x2 x20 x21 s_2 =
 bn T_int .lss x21 x20 fun v22 =>
 condS v22 (
 gA T_walker x2 fun v24 =>
 bind1 (nilCheckV x1) fun v26 =>
 bind1 (faV 4 v26) fun v27 =>
 ld T_S_Pat s_2 v27 fun v28 =>
 ix T_Pat v28 x21 fun v30 =>
 cn F_tree_walker_pats [v24, v30] s_2 fun v31 s_3 =>
 bind1 (unS .not v31) fun v32 =>
 condS v32 (
 some (.ret (.val (.bool false)), s_3)) (
 nx x21 fun v33 =>
 tree_walker_pats_l0 x1 x2 x20 v33 s_3)) (
 some (.ret (.val (.bool true)), s_2)) := by intros; unfold tree_walker_pats_l0; exact (loopR_eq _ _ _ _ _ _).trans (by kernel_rfl)
theorem tree_walker_pats_eq (a0 : AV) (a1 : AV) (s : St) : cw (.f F_tree_walker_pats) [a0, a1] s =
 bx T_walker (.val a0) fun c2 =>
 gC T_x_func_tree_thing_bool 0 c2 fun v7 =>
 bind1 (nilCheckV (.val a1)) fun v10 =>
 bind1 (faV 1 v10) fun v11 =>
 ld T_int s v11 fun v12 =>
 bind1 (buildS (C.ti T_thing).zero [(5, (C.ti T_P_Pat).size, (.val a1)), (7, (C.ti T_int).size, v12)]) fun v13 =>
 back (noPan (cal cw true (tgtV v7 [v13]) s)) fun v14 s_1 =>
 bind1 (unS .not v14) fun v15 =>
 condS v15 (
 some (.ret (.val (.bool false)), s_1)) (
 bind1 (nilCheckV (.val a1)) fun v17 =>
 bind1 (faV 4 v17) fun v18 =>
 ld T_S_Pat s_1 v18 fun v19 =>
 ln T_S_Pat v19 fun v20 =>
 tree_walker_pats_l0 (.val a1) c2 v20 (.val (.int .i64 0)) s_1) := (callw_f _ _ _).trans (by kernel_rfl)
/- 128 camlet/camletref05.is -/
theorem ref05_is_eq (a0 : AV) (a1 : AV) (a2 : AV) (s : St) : cw (.f F_ref05_is) [a0, a1, a2] s =
 bn T_int .geq (.val a0) (.val a1) fun v9 =>
 bindB (Slot.isB v9 true) fun w =>
 bindB (Slot.isB v9 true) fun w_1 =>
 bindB (Slot.isB v9 true) fun w_2 =>
 bind1 (gd w_2 (binS (C.ti T_int) .leq (gdV w (.val a0)) (gdV w_1 (.val a2)))) fun v13 =>
 bind1 (pickS v9 v13 (.val (.bool false))) fun v14 =>
 some (.ret v14, s) := (callw_f _ _ _).trans (by kernel_rfl)
/- 129 camlet/camletref05.kids -/
noncomputable def ref05_kids_j1 : Slot → Slot → St → Res := fun x5_1 x18 s => pw (run C false F_ref05_kids (codeAt [.seqR, .seqL, .seqR, .block, .seqR, .els, .seqR, .els, .seqR, .els, .seqR] (body Go.Proofs.Tryz.f129)) [(5, .s x5_1), (18, .s x18)] s (ctxR C false F_ref05_kids [.seqR, .seqL, .seqR, .block, .seqR, .els, .seqR, .els, .seqR, .els, .seqR] (body Go.Proofs.Tryz.f129) (outK C (Go.Proofs.Tryz.f129).results.toList)))
noncomputable def ref05_kids_j0 : Slot → Slot → St → Res := fun x5 x10 s => pw (run C false F_ref05_kids (codeAt [.seqR, .seqL, .seqR, .block, .seqR, .els, .seqR, .els, .seqR] (body Go.Proofs.Tryz.f129)) [(5, .s x5), (10, .s x10)] s (ctxR C false F_ref05_kids [.seqR, .seqL, .seqR, .block, .seqR, .els, .seqR, .els, .seqR] (body Go.Proofs.Tryz.f129) (outK C (Go.Proofs.Tryz.f129).results.toList)))
theorem ref05_kids_j1_eq (x5_1 : Slot) (x18 : Slot) (s_2 : St) : ref05_kids_j1 x5_1 x18 s_2 =
 condS x18 (
 bind1 (tupS [(some (.val (.int .i64 2))), (some (.val (.int .i64 2))), (some (.val (.bool true)))]) fun v => some (.ret v, s_2)) (
 bind1 (binS (C.ti T_ExpKind) .eql x5_1 (.val (.int .i64 8))) fun v25 =>
 condS v25 (
 bind1 (tupS [(some (.val (.int .i64 3))), (some (.val (.int .i64 3))), (some (.val (.bool true)))]) fun v => some (.ret v, s_2)) (
 bind1 (binS (C.ti T_ExpKind) .eql x5_1 (.val (.int .i64 10))) fun v27 =>
 condS v27 (
 bind1 (tupS [(some (.val (.int .i64 2))), (some (.val (.int .i64 1099511627776))), (some (.val (.bool true)))]) fun v => some (.ret v, s_2)) (
 bind1 (tupS [(some (.val (.int .i64 0))), (some (.val (.int .i64 0))), (some (.val (.bool false)))]) fun v => some (.ret v, s_2)))) := by unfold ref05_kids_j1; exact (pw_eq _).trans (by kernel_rfl)
theorem ref05_kids_j0_eq (x5 : Slot) (x10 : Slot) (s_1 : St) : ref05_kids_j0 x5 x10 s_1 =
 condS x10 (
 bind1 (tupS [(some (.val (.int .i64 1))), (some (.val (.int .i64 1))), (some (.val (.bool true)))]) fun v => some (.ret v, s_1)) (
 bind1 (binS (C.ti T_ExpKind) .eql x5 (.val (.int .i64 6))) fun v19 =>
 condS v19 (
 ref05_kids_j1 (x5) (v19) s_1) (
 bind1 (binS (C.ti T_ExpKind) .eql x5 (.val (.int .i64 13))) fun v20 =>
 condS v20 (
 ref05_kids_j1 (x5) (v20) s_1) (
 bind1 (binS (C.ti T_ExpKind) .eql x5 (.val (.int .i64 14))) fun v21 =>
 condS v21 (
 ref05_kids_j1 (x5) (v21) s_1) (
 bind1 (binS (C.ti T_ExpKind) .eql x5 (.val (.int .i64 15))) fun v22 =>
 condS v22 (
 ref05_kids_j1 (x5) (v22) s_1) (
 bind1 (binS (C.ti T_ExpKind) .eql x5 (.val (.int .i64 18))) fun v23 =>
 ref05_kids_j1 (x5) (v23) s_1))))) := by unfold ref05_kids_j0; exact (pw_eq _).trans (by kernel_rfl)
theorem ref05_kids_eq (a0 : AV) (s : St) : cw (.f F_ref05_kids) [a0] s =
 bind1 (binS (C.ti T_ExpKind) .eql (.val a0) (.val (.int .i64 3))) fun v7 =>
 condS v7 (
 bind1 (tupS [(some (.val (.int .i64 0))), (some (.val (.int .i64 1))), (some (.val (.bool true)))]) fun v => some (.ret v, s)) (
 bind1 (binS (C.ti T_ExpKind) .eql (.val a0) (.val (.int .i64 4))) fun v9 =>
 condS v9 (
 bind1 (tupS [(some (.val (.int .i64 2))), (some (.val (.int .i64 8))), (some (.val (.bool true)))]) fun v => some (.ret v, s)) (
 bind1 (binS (C.ti T_ExpKind) .eql (.val a0) (.val (.int .i64 7))) fun v11 =>
 condS v11 (
 ref05_kids_j0 ((.val a0)) (v11) s) (
 bind1 (binS (C.ti T_ExpKind) .eql (.val a0) (.val (.int .i64 9))) fun v12 =>
 condS v12 (
 ref05_kids_j0 ((.val a0)) (v12) s) (
 bind1 (binS (C.ti T_ExpKind) .eql (.val a0) (.val (.int .i64 11))) fun v13 =>
 condS v13 (
 ref05_kids_j0 ((.val a0)) (v13) s) (
 bind1 (binS (C.ti T_ExpKind) .eql (.val a0) (.val (.int .i64 12))) fun v14 =>
 condS v14 (
 ref05_kids_j0 ((.val a0)) (v14) s) (
 bind1 (binS (C.ti T_ExpKind) .eql (.val a0) (.val (.int .i64 16))) fun v15 =>
 condS v15 (
 ref05_kids_j0 ((.val a0)) (v15) s) (
 bind1 (binS (C.ti T_ExpKind) .eql (.val a0) (.val (.int .i64 17))) fun v16 =>
 condS v16 (
 ref05_kids_j0 ((.val a0)) (v16) s) (
 bind1 (binS (C.ti T_ExpKind) .eql (.val a0) (.val (.int .i64 19))) fun v17 =>
 ref05_kids_j0 ((.val a0)) (v17) s)))))))) := (callw_f _ _ _).trans (by kernel_rfl)
/- 130 camlet/camletref05.Con -/
theorem ref05_Con_eq (a0 : AV) (s : St) : cw (.f F_ref05_Con) [a0] s =
 ca F_ref05_Capital [(.val a0)] s fun v4 s_1 =>
 bindB (Slot.isB v4 false) fun w =>
 bindB (Slot.isB v4 false) fun w_1 =>
 bind1 (gd w_1 (binS (C.ti T_string) .eql (gdV w (.val a0)) (.val (.str [116, 114, 117, 101])))) fun v7 =>
 bind1 (pickS v4 (.val (.bool true)) v7) fun v8 =>
 bindB (Slot.isB v8 false) fun w_2 =>
 bindB (Slot.isB v8 false) fun w_3 =>
 bind1 (gd w_3 (binS (C.ti T_string) .eql (gdV w_2 (.val a0)) (.val (.str [102, 97, 108, 115, 101])))) fun v11 =>
 bind1 (pickS v8 (.val (.bool true)) v11) fun v12 =>
 bindB (Slot.isB v12 false) fun w_4 =>
 bindB (Slot.isB v12 false) fun w_5 =>
 bind1 (gd w_5 (binS (C.ti T_string) .eql (gdV w_4 (.val a0)) (.val (.str [40, 41])))) fun v15 =>
 bind1 (pickS v12 (.val (.bool true)) v15) fun v16 =>
 some (.ret v16, s_1) := (callw_f _ _ _).trans (by kernel_rfl)
/- 131 camlet/camletref05.isInt -/
theorem ref05_isInt_eq (a0 : AV) (s : St) : cw (.f F_ref05_isInt) [a0] s =
 ca F_ref01_Wrap [(.val a0)] s fun v4 s_1 =>
 bn T_int .eql v4 (.val a0) fun v6 =>
 some (.ret v6, s_1) := (callw_f _ _ _).trans (by kernel_rfl)
/- 132 camlet/camletref05.Args -/
noncomputable def ref05_Args_j0 : Slot → Slot → St → Res := fun x4 x5 s => pw (run C false F_ref05_Args (codeAt [.seqR, .seqL, .seqR, .block, .seqR] (body Go.Proofs.Tryz.f132)) [(4, .s x4), (5, .s x5)] s (ctxR C false F_ref05_Args [.seqR, .seqL, .seqR, .block, .seqR] (body Go.Proofs.Tryz.f132) (outK C (Go.Proofs.Tryz.f132).results.toList)))
theorem ref05_Args_j0_eq : ∀ x4 x5 s_1, ref05_Args_j0 x4 x5 s_1 =
 condS x5 (
 bind1 (tupS [(some (.val (.int .i64 0))), (some (.val (.int .i64 0)))]) fun v => some (.ret v, s_1)) (
 bn T_string .eql x4 (.val (.str [114, 101, 102])) fun v11 =>
 condS v11 (
 bind1 (tupS [(some (.val (.int .i64 1))), (some (.val (.int .i64 1)))]) fun v => some (.ret v, s_1)) (
 bn T_string .eql x4 (.val (.str [45, 62])) fun v13 =>
 condS v13 (
 bind1 (tupS [(some (.val (.int .i64 2))), (some (.val (.int .i64 2)))]) fun v => some (.ret v, s_1)) (
 bn T_string .eql x4 (.val (.str [42])) fun v15 =>
 condS v15 (
 bind1 (tupS [(some (.val (.int .i64 2))), (some (.val (.int .i64 8)))]) fun v => some (.ret v, s_1)) (
 bind1 (tupS [(some (.val (.int .i64 0))), (some (.val (.int .i64 8)))]) fun v => some (.ret v, s_1))))) := by intros; unfold ref05_Args_j0; exact (pw_eq _).trans (by kernel_rfl)
theorem ref05_Args_eq (a0 : AV) (s : St) : cw (.f F_ref05_Args) [a0] s =
 bn T_string .eql (.val a0) (.val (.str [105, 110, 116])) fun v6 =>
 condS v6 (
 ref05_Args_j0 (.val a0) v6 s) (
 bn T_string .eql (.val a0) (.val (.str [98, 111, 111, 108])) fun v7 =>
 condS v7 (
 ref05_Args_j0 (.val a0) v7 s) (
 bn T_string .eql (.val a0) (.val (.str [117, 110, 105, 116])) fun v8 =>
 condS v8 (
 ref05_Args_j0 (.val a0) v8 s) (
 bn T_string .eql (.val a0) (.val (.str [101, 120, 110])) fun v9 =>
 ref05_Args_j0 (.val a0) v9 s))) := (callw_f _ _ _).trans (by kernel_rfl)
/- 133 camlet/camletref05.shaped -/
noncomputable def ref05_shaped_l0 : Slot → Slot → St → Res := fun x0 x5 s => lpD F_ref05_shaped [.seqR, .seqR, .seqL, .seqR, .block] Go.Proofs.Tryz.f133 [(0, .s x0), (5, .s x5)] s
theorem ref05_shaped_l0_eq : ∀ x0 x5 s_2, ref05_shaped_l0 x0 x5 s_2 =
 ln T_string x0 fun v23 =>
 bn T_int .lss x5 v23 fun v24 =>
 condS v24 (
 bind1 (indexS (C.ti T_string) (C.ti T_0) x0 x5) fun v29 =>
 ca F_ref05_rest [v29] s_2 fun v30 s_3 =>
 bind1 (unS .not v30) fun v31 =>
 condS v31 (
 some (.ret (.val (.bool false)), s_3)) (
 nx x5 fun v26 =>
 ref05_shaped_l0 x0 v26 s_3)) (
 some (.ret (.val (.bool true)), s_2)) := by intros; unfold ref05_shaped_l0; exact (loopR_eq _ _ _ _ _ _).trans (by kernel_rfl)
theorem ref05_shaped_eq (a0 : AV) (a1 : AV) (s : St) : cw (.f F_ref05_shaped) [a0, a1] s =
 ln T_string (.val a0) fun v7 =>
 bn T_int .lss v7 (.val (.int .i64 1)) fun v8 =>
 bindB (Slot.isB v8 false) fun w =>
 bindB (Slot.isB v8 false) fun w_1 =>
 bind1 (gd w_1 (lenS (C.ti T_string) (gdV w (.val a0)))) fun v11 =>
 bindB (Slot.isB v8 false) fun w_2 =>
 bind1 (gd w_2 (binS (C.ti T_int) .gtr v11 (.val (.int .i64 32)))) fun v12 =>
 bind1 (pickS v8 (.val (.bool true)) v12) fun v13 =>
 bindB (Slot.isB v13 false) fun w_3 =>
 bindB (Slot.isB v13 false) fun w_4 =>
 bind1 (gd w_4 (indexS (C.ti T_string) (C.ti T_0) (gdV w_3 (.val a0)) (.val (.int .i64 0)))) fun v16 =>
 bindB (Slot.isB v13 false) fun w_5 =>
 bindB (Slot.isB v13 false) fun w_6 =>
 cg w_6 F_ref05_letter [v16, (gdV w_5 (.val a1))] s fun v18 s_1 =>
 bindB (Slot.isB v13 false) fun w_7 =>
 bind1 (gd w_7 (unS .not v18)) fun v19 =>
 bind1 (pickS v13 (.val (.bool true)) v19) fun v20 =>
 condS v20 (
 some (.ret (.val (.bool false)), s_1)) (
 ref05_shaped_l0 (.val a0) (.val (.int .i64 1)) s_1) := (callw_f _ _ _).trans (by kernel_rfl)
/- 134 camlet/camletref05.among -/
noncomputable def ref05_among_l0 : Slot → Slot → Slot → St → Res := fun x0 x1 x5 s => lpD F_ref05_among [.seqR, .seqL, .seqR, .block] Go.Proofs.Tryz.f134 [(0, .s x0), (1, .s x1), (5, .s x5)] s
theorem ref05_among_l0_eq : ∀ x0 x1 x5 s_1, ref05_among_l0 x0 x1 x5 s_1 =
 ln T_S_string x1 fun v8 =>
 bn T_int .lss x5 v8 fun v9 =>
 condS v9 (
 ix T_string x1 x5 fun v14 =>
 ld T_string s_1 v14 fun v15 =>
 bn T_string .eql v15 x0 fun v17 =>
 condS v17 (
 some (.ret (.val (.bool true)), s_1)) (
 nx x5 fun v11 =>
 ref05_among_l0 x0 x1 v11 s_1)) (
 some (.ret (.val (.bool false)), s_1)) := by intros; unfold ref05_among_l0; exact (loopR_eq _ _ _ _ _ _).trans (by kernel_rfl)
theorem ref05_among_eq (a0 : AV) (a1 : AV) (s : St) : cw (.f F_ref05_among) [a0, a1] s =
 ref05_among_l0 (.val a0) (.val a1) (.val (.int .i64 0)) s := (callw_f _ _ _).trans (by kernel_rfl)
/- 135 camlet/camletref05.Words -/
theorem ref05_Words_eq (s : St) : cw (.f F_ref05_Words) [] s =
 bind1 (bslF (C.ti T_string).size [(.val (.str [97, 110, 100])), (.val (.str [97, 110, 100, 97, 108, 115, 111])), (.val (.str [97, 115])), (.val (.str [99, 97, 115, 101])), (.val (.str [100, 97, 116, 97, 116, 121, 112, 101])), (.val (.str [100, 105, 118])), (.val (.str [101, 108, 115, 101])), (.val (.str [101, 110, 100])), (.val (.str [101, 120, 99, 101, 112, 116, 105, 111, 110])), (.val (.str [102, 110])), (.val (.str [102, 117, 110])), (.val (.str [104, 97, 110, 100, 108, 101])), (.val (.str [105, 102])), (.val (.str [105, 110])), (.val (.str [108, 101, 116])), (.val (.str [109, 111, 100])), (.val (.str [111, 102])), (.val (.str [111, 114, 101, 108, 115, 101])), (.val (.str [112, 114, 105, 110, 116])), (.val (.str [114, 97, 105, 115, 101])), (.val (.str [114, 101, 97, 100])), (.val (.str [114, 101, 102])), (.val (.str [116, 104, 101, 110])), (.val (.str [118, 97, 108]))]) fun v1 =>
 some (.ret v1, s) := (callw_f _ _ _).trans (by kernel_rfl)
/- 136 camlet/tree.small -/
theorem tree_small_eq (a0 : AV) (s : St) : cw (.f F_tree_small) [a0] s =
 bn T_uint8 .geq (.val a0) (.val (.int .u8 97)) fun v4 =>
 bindB (Slot.isB v4 true) fun w =>
 bindB (Slot.isB v4 true) fun w_1 =>
 bind1 (gd w_1 (binS (C.ti T_uint8) .leq (gdV w (.val a0)) (.val (.int .u8 122)))) fun v7 =>
 bind1 (pickS v4 v7 (.val (.bool false))) fun v8 =>
 bindB (Slot.isB v8 false) fun w_2 =>
 bindB (Slot.isB v8 false) fun w_3 =>
 bind1 (gd w_3 (binS (C.ti T_uint8) .eql (gdV w_2 (.val a0)) (.val (.int .u8 95)))) fun v11 =>
 bind1 (pickS v8 (.val (.bool true)) v11) fun v12 =>
 some (.ret v12, s) := (callw_f _ _ _).trans (by kernel_rfl)
/- 137 camlet/tree.run -/
noncomputable def tree_run_l0 : Slot → Slot → St → Res := fun x0 x3 s => lpD F_tree_run [.seqR, .seqL, .seqR, .block] Go.Proofs.Tryz.f137 [(0, .s x0), (3, .s x3)] s
theorem tree_run_l0_eq : ∀ x0 x3 s_1, tree_run_l0 x0 x3 s_1 =
 ln T_string x0 fun v7 =>
 bn T_int .lss x3 v7 fun v8 =>
 condS v8 (
 bind1 (indexS (C.ti T_string) (C.ti T_0) x0 x3) fun v13 =>
 ca F_tree_small [v13] s_1 fun v15 s_2 =>
 bind1 (unS .not v15) fun v16 =>
 bindB (Slot.isB v16 true) fun w =>
 bindB (Slot.isB v16 true) fun w_1 =>
 cg w_1 F_tree_great [(gdV w v13)] s_2 fun v19 s_3 =>
 bindB (Slot.isB v16 true) fun w_2 =>
 bind1 (gd w_2 (unS .not v19)) fun v20 =>
 bind1 (pickS v16 v20 (.val (.bool false))) fun v21 =>
 bindB (Slot.isB v21 true) fun w_3 =>
 bindB (Slot.isB v21 true) fun w_4 =>
 bind1 (gd w_4 (binS (C.ti T_uint8) .lss (gdV w_3 v13) (.val (.int .u8 48)))) fun v24 =>
 bindB (Slot.isB v21 true) fun w_5 =>
 bindB (Slot.isB (gdV w_5 v24) false) fun w_6 =>
 bindB (Slot.isB (gdV w_5 v24) false) fun w_7 =>
 bind1 (gd w_7 (binS (C.ti T_uint8) .gtr (gdV w_6 v13) (.val (.int .u8 57)))) fun v27 =>
 bindB (Slot.isB v21 true) fun w_8 =>
 bind1 (gd w_8 (pickS (gdV w_5 v24) (.val (.bool true)) v27)) fun v28 =>
 bind1 (pickS v21 v28 (.val (.bool false))) fun v29 =>
 bindB (Slot.isB v29 true) fun w_9 =>
 bindB (Slot.isB v29 true) fun w_10 =>
 bind1 (gd w_10 (binS (C.ti T_uint8) .neq (gdV w_9 v13) (.val (.int .u8 39)))) fun v32 =>
 bind1 (pickS v29 v32 (.val (.bool false))) fun v33 =>
 condS v33 (
 some (.ret (.val (.bool false)), s_3)) (
 nx x3 fun v10 =>
 tree_run_l0 x0 v10 s_3)) (
 ln T_string x0 fun v35 =>
 bn T_int .leq v35 (.val (.int .i64 32)) fun v36 =>
 some (.ret v36, s_1)) := by intros; unfold tree_run_l0; exact (loopR_eq _ _ _ _ _ _).trans (by kernel_rfl)
theorem tree_run_eq (a0 : AV) (s : St) : cw (.f F_tree_run) [a0] s =
 tree_run_l0 (.val a0) (.val (.int .i64 1)) s := (callw_f _ _ _).trans (by kernel_rfl)
/- 139 camlet/tree.capital -/
theorem tree_capital_eq (a0 : AV) (s : St) : cw (.f F_tree_capital) [a0] s =
 bn T_string .neq (.val a0) (.val (.str [])) fun v4 =>
 bindB (Slot.isB v4 true) fun w =>
 bindB (Slot.isB v4 true) fun w_1 =>
 bind1 (gd w_1 (indexS (C.ti T_string) (C.ti T_0) (gdV w (.val a0)) (.val (.int .i64 0)))) fun v7 =>
 bindB (Slot.isB v4 true) fun w_2 =>
 cg w_2 F_tree_great [v7] s fun v8 s_1 =>
 bind1 (pickS v4 v8 (.val (.bool false))) fun v9 =>
 bindB (Slot.isB v9 true) fun w_3 =>
 bindB (Slot.isB v9 true) fun w_4 =>
 cg w_4 F_tree_run [(gdV w_3 (.val a0))] s_1 fun v12 s_2 =>
 bind1 (pickS v9 v12 (.val (.bool false))) fun v13 =>
 some (.ret v13, s_2) := (callw_f _ _ _).trans (by kernel_rfl)
/- 140 camlet/tree.fields -/
theorem tree_fields_eq (a0 : AV) (s : St) : cw (.f F_tree_fields) [a0] s =
 bind1 (binS (C.ti T_ExpKind) .eql (.val a0) (.val (.int .i64 1))) fun v6 =>
 condS v6 (
 bindL (boxCells (C.ti T_bool) (.val (.bool true))) fun c =>
 bindL (putAt (List.map .val (C.ti T_has).zero) 1 c) fun c2 =>
 bind1 (ofSlots (C.ti T_has) (List.take (C.ti T_has).size c2)) fun v58 =>
 bindL (boxCells (C.ti T_has) v58) fun c_1 =>
 bindL (putAt c2 0 c_1) fun c2_1 =>
 bind1 (tupS [(ofSlots (C.ti T_has) (List.take (C.ti T_has).size c2_1)), (some (.val (.bool true)))]) fun v => some (.ret v, s)) (
 bind1 (binS (C.ti T_ExpKind) .eql (.val a0) (.val (.int .i64 2))) fun v8 =>
 condS v8 (
 bindL (boxCells (C.ti T_bool) (.val (.bool true))) fun c_2 =>
 bindL (putAt (List.map .val (C.ti T_has).zero) 0 c_2) fun c2_2 =>
 bind1 (ofSlots (C.ti T_has) (List.take (C.ti T_has).size c2_2)) fun v58_1 =>
 bindL (boxCells (C.ti T_has) v58_1) fun c_3 =>
 bindL (putAt c2_2 0 c_3) fun c2_3 =>
 bind1 (tupS [(ofSlots (C.ti T_has) (List.take (C.ti T_has).size c2_3)), (some (.val (.bool true)))]) fun v => some (.ret v, s)) (
 bind1 (binS (C.ti T_ExpKind) .eql (.val a0) (.val (.int .i64 3))) fun v10 =>
 condS v10 (
 bindL (boxCells (C.ti T_bool) (.val (.bool true))) fun c_4 =>
 bindL (putAt (List.map .val (C.ti T_has).zero) 0 c_4) fun c2_4 =>
 bindL (boxCells (C.ti T_int) (.val (.int .i64 1))) fun c_5 =>
 bindL (putAt c2_4 5 c_5) fun c2_5 =>
 bind1 (ofSlots (C.ti T_has) (List.take (C.ti T_has).size c2_5)) fun v58_2 =>
 bindL (boxCells (C.ti T_has) v58_2) fun c_6 =>
 bindL (putAt c2_5 0 c_6) fun c2_6 =>
 bind1 (tupS [(ofSlots (C.ti T_has) (List.take (C.ti T_has).size c2_6)), (some (.val (.bool true)))]) fun v => some (.ret v, s)) (
 bind1 (binS (C.ti T_ExpKind) .eql (.val a0) (.val (.int .i64 4))) fun v12 =>
 condS v12 (
 bindL (boxCells (C.ti T_int) (.val (.int .i64 2))) fun c_7 =>
 bindL (putAt (List.map .val (C.ti T_has).zero) 4 c_7) fun c2_7 =>
 bindL (boxCells (C.ti T_int) (.val (.int .i64 8))) fun c_8 =>
 bindL (putAt c2_7 5 c_8) fun c2_8 =>
 bind1 (ofSlots (C.ti T_has) (List.take (C.ti T_has).size c2_8)) fun v58_3 =>
 bindL (boxCells (C.ti T_has) v58_3) fun c_9 =>
 bindL (putAt c2_8 0 c_9) fun c2_9 =>
 bind1 (tupS [(ofSlots (C.ti T_has) (List.take (C.ti T_has).size c2_9)), (some (.val (.bool true)))]) fun v => some (.ret v, s)) (
 bind1 (binS (C.ti T_ExpKind) .eql (.val a0) (.val (.int .i64 5))) fun v14 =>
 condS v14 (
 bindL (boxCells (C.ti T_bool) (.val (.bool true))) fun c_10 =>
 bindL (putAt (List.map .val (C.ti T_has).zero) 2 c_10) fun c2_10 =>
 bind1 (ofSlots (C.ti T_has) (List.take (C.ti T_has).size c2_10)) fun v58_4 =>
 bindL (boxCells (C.ti T_has) v58_4) fun c_11 =>
 bindL (putAt c2_10 0 c_11) fun c2_11 =>
 bind1 (tupS [(ofSlots (C.ti T_has) (List.take (C.ti T_has).size c2_11)), (some (.val (.bool true)))]) fun v => some (.ret v, s)) (
 bind1 (binS (C.ti T_ExpKind) .eql (.val a0) (.val (.int .i64 10))) fun v16 =>
 condS v16 (
 bindL (boxCells (C.ti T_int) (.val (.int .i64 2))) fun c_12 =>
 bindL (putAt (List.map .val (C.ti T_has).zero) 4 c_12) fun c2_12 =>
 bindL (boxCells (C.ti T_int) (.val (.int .i64 4611686018427387904))) fun c_13 =>
 bindL (putAt c2_12 5 c_13) fun c2_13 =>
 bind1 (ofSlots (C.ti T_has) (List.take (C.ti T_has).size c2_13)) fun v58_5 =>
 bindL (boxCells (C.ti T_has) v58_5) fun c_14 =>
 bindL (putAt c2_13 0 c_14) fun c2_14 =>
 bind1 (tupS [(ofSlots (C.ti T_has) (List.take (C.ti T_has).size c2_14)), (some (.val (.bool true)))]) fun v => some (.ret v, s)) (
 bind1 (binS (C.ti T_ExpKind) .eql (.val a0) (.val (.int .i64 8))) fun v18 =>
 condS v18 (
 bindL (boxCells (C.ti T_int) (.val (.int .i64 3))) fun c_15 =>
 bindL (putAt (List.map .val (C.ti T_has).zero) 4 c_15) fun c2_15 =>
 bindL (boxCells (C.ti T_int) (.val (.int .i64 3))) fun c_16 =>
 bindL (putAt c2_15 5 c_16) fun c2_16 =>
 bind1 (ofSlots (C.ti T_has) (List.take (C.ti T_has).size c2_16)) fun v58_6 =>
 bindL (boxCells (C.ti T_has) v58_6) fun c_17 =>
 bindL (putAt c2_16 0 c_17) fun c2_17 =>
 bind1 (tupS [(ofSlots (C.ti T_has) (List.take (C.ti T_has).size c2_17)), (some (.val (.bool true)))]) fun v => some (.ret v, s)) (
 bind1 (binS (C.ti T_ExpKind) .eql (.val a0) (.val (.int .i64 7))) fun v20 =>
 condS v20 (
 bindL (boxCells (C.ti T_bool) (.val (.bool true))) fun c_18 =>
 bindL (putAt (List.map .val (C.ti T_has).zero) 3 c_18) fun c2_18 =>
 bindL (boxCells (C.ti T_int) (.val (.int .i64 1))) fun c_19 =>
 bindL (putAt c2_18 4 c_19) fun c2_19 =>
 bindL (boxCells (C.ti T_int) (.val (.int .i64 1))) fun c_20 =>
 bindL (putAt c2_19 5 c_20) fun c2_20 =>
 bind1 (ofSlots (C.ti T_has) (List.take (C.ti T_has).size c2_20)) fun v58_7 =>
 bindL (boxCells (C.ti T_has) v58_7) fun c_21 =>
 bindL (putAt c2_20 0 c_21) fun c2_21 =>
 bind1 (tupS [(ofSlots (C.ti T_has) (List.take (C.ti T_has).size c2_21)), (some (.val (.bool true)))]) fun v => some (.ret v, s)) (
 bind1 (binS (C.ti T_ExpKind) .eql (.val a0) (.val (.int .i64 9))) fun v22 =>
 condS v22 (
 condS v22 (
 bindL (boxCells (C.ti T_bool) (.val (.bool true))) fun c_22 =>
 bindL (putAt (List.map .val (C.ti T_has).zero) 2 c_22) fun c2_22 =>
 bindL (boxCells (C.ti T_int) (.val (.int .i64 1))) fun c_23 =>
 bindL (putAt c2_22 4 c_23) fun c2_23 =>
 bindL (boxCells (C.ti T_int) (.val (.int .i64 1))) fun c_24 =>
 bindL (putAt c2_23 5 c_24) fun c2_24 =>
 bind1 (ofSlots (C.ti T_has) (List.take (C.ti T_has).size c2_24)) fun v58_8 =>
 bindL (boxCells (C.ti T_has) v58_8) fun c_25 =>
 bindL (putAt c2_24 0 c_25) fun c2_25 =>
 bind1 (tupS [(ofSlots (C.ti T_has) (List.take (C.ti T_has).size c2_25)), (some (.val (.bool true)))]) fun v => some (.ret v, s)) (
 bind1 (binS (C.ti T_ExpKind) .eql (.val a0) (.val (.int .i64 12))) fun v25 =>
 condS v25 (
 condS v25 (
 bindL (boxCells (C.ti T_int) (.val (.int .i64 1))) fun c_26 =>
 bindL (putAt (List.map .val (C.ti T_has).zero) 4 c_26) fun c2_26 =>
 bindL (boxCells (C.ti T_int) (.val (.int .i64 1))) fun c_27 =>
 bindL (putAt c2_26 5 c_27) fun c2_27 =>
 bind1 (ofSlots (C.ti T_has) (List.take (C.ti T_has).size c2_27)) fun v58_9 =>
 bindL (boxCells (C.ti T_has) v58_9) fun c_28 =>
 bindL (putAt c2_27 0 c_28) fun c2_28 =>
 bind1 (tupS [(ofSlots (C.ti T_has) (List.take (C.ti T_has).size c2_28)), (some (.val (.bool true)))]) fun v => some (.ret v, s)) (
 bind1 (binS (C.ti T_ExpKind) .eql (.val a0) (.val (.int .i64 13))) fun v30 =>
 condS v30 (
 bindL (boxCells (C.ti T_bool) (.val (.bool true))) fun c_29 =>
 bindL (putAt (List.map .val (C.ti T_has).zero) 1 c_29) fun c2_29 =>
 bindL (boxCells (C.ti T_int) (.val (.int .i64 2))) fun c_30 =>
 bindL (putAt c2_29 4 c_30) fun c2_30 =>
 bindL (boxCells (C.ti T_int) (.val (.int .i64 2))) fun c_31 =>
 bindL (putAt c2_30 5 c_31) fun c2_31 =>
 bind1 (ofSlots (C.ti T_has) (List.take (C.ti T_has).size c2_31)) fun v58_10 =>
 bindL (boxCells (C.ti T_has) v58_10) fun c_32 =>
 bindL (putAt c2_31 0 c_32) fun c2_32 =>
 bind1 (tupS [(ofSlots (C.ti T_has) (List.take (C.ti T_has).size c2_32)), (some (.val (.bool true)))]) fun v => some (.ret v, s)) (
 bind1 (binS (C.ti T_ExpKind) .eql (.val a0) (.val (.int .i64 6))) fun v32 =>
 condS v32 (
 condS v32 (
 bindL (boxCells (C.ti T_int) (.val (.int .i64 2))) fun c_33 =>
 bindL (putAt (List.map .val (C.ti T_has).zero) 4 c_33) fun c2_33 =>
 bindL (boxCells (C.ti T_int) (.val (.int .i64 2))) fun c_34 =>
 bindL (putAt c2_33 5 c_34) fun c2_34 =>
 bind1 (ofSlots (C.ti T_has) (List.take (C.ti T_has).size c2_34)) fun v58_11 =>
 bindL (boxCells (C.ti T_has) v58_11) fun c_35 =>
 bindL (putAt c2_34 0 c_35) fun c2_35 =>
 bind1 (tupS [(ofSlots (C.ti T_has) (List.take (C.ti T_has).size c2_35)), (some (.val (.bool true)))]) fun v => some (.ret v, s)) (
 bind1 (binS (C.ti T_ExpKind) .eql (.val a0) (.val (.int .i64 20))) fun v37 =>
 condS v37 (
 bind1 (ofSlots (C.ti T_has) (List.take (C.ti T_has).size (List.map .val (C.ti T_has).zero))) fun v58_12 =>
 bindL (boxCells (C.ti T_has) v58_12) fun c_36 =>
 bindL (putAt (List.map .val (C.ti T_has).zero) 0 c_36) fun c2_36 =>
 bind1 (tupS [(ofSlots (C.ti T_has) (List.take (C.ti T_has).size c2_36)), (some (.val (.bool true)))]) fun v => some (.ret v, s)) (
 bind1 (ofSlots (C.ti T_has) (List.take (C.ti T_has).size (List.map .val (C.ti T_has).zero))) fun v58_13 =>
 bindL (boxCells (C.ti T_has) v58_13) fun c_37 =>
 bindL (putAt (List.map .val (C.ti T_has).zero) 0 c_37) fun c2_37 =>
 bind1 (tupS [(ofSlots (C.ti T_has) (List.take (C.ti T_has).size c2_37)), (some (.val (.bool false)))]) fun v => some (.ret v, s)))) (
 bind1 (binS (C.ti T_ExpKind) .eql (.val a0) (.val (.int .i64 14))) fun v33 =>
 condS v33 (
 condS v33 (
 bindL (boxCells (C.ti T_int) (.val (.int .i64 2))) fun c_38 =>
 bindL (putAt (List.map .val (C.ti T_has).zero) 4 c_38) fun c2_38 =>
 bindL (boxCells (C.ti T_int) (.val (.int .i64 2))) fun c_39 =>
 bindL (putAt c2_38 5 c_39) fun c2_39 =>
 bind1 (ofSlots (C.ti T_has) (List.take (C.ti T_has).size c2_39)) fun v58_14 =>
 bindL (boxCells (C.ti T_has) v58_14) fun c_40 =>
 bindL (putAt c2_39 0 c_40) fun c2_40 =>
 bind1 (tupS [(ofSlots (C.ti T_has) (List.take (C.ti T_has).size c2_40)), (some (.val (.bool true)))]) fun v => some (.ret v, s)) (
 bind1 (binS (C.ti T_ExpKind) .eql (.val a0) (.val (.int .i64 20))) fun v37_1 =>
 condS v37_1 (
 bind1 (ofSlots (C.ti T_has) (List.take (C.ti T_has).size (List.map .val (C.ti T_has).zero))) fun v58_15 =>
 bindL (boxCells (C.ti T_has) v58_15) fun c_41 =>
 bindL (putAt (List.map .val (C.ti T_has).zero) 0 c_41) fun c2_41 =>
 bind1 (tupS [(ofSlots (C.ti T_has) (List.take (C.ti T_has).size c2_41)), (some (.val (.bool true)))]) fun v => some (.ret v, s)) (
 bind1 (ofSlots (C.ti T_has) (List.take (C.ti T_has).size (List.map .val (C.ti T_has).zero))) fun v58_16 =>
 bindL (boxCells (C.ti T_has) v58_16) fun c_42 =>
 bindL (putAt (List.map .val (C.ti T_has).zero) 0 c_42) fun c2_42 =>
 bind1 (tupS [(ofSlots (C.ti T_has) (List.take (C.ti T_has).size c2_42)), (some (.val (.bool false)))]) fun v => some (.ret v, s)))) (
 bind1 (binS (C.ti T_ExpKind) .eql (.val a0) (.val (.int .i64 15))) fun v34 =>
 condS v34 (
 condS v34 (
 bindL (boxCells (C.ti T_int) (.val (.int .i64 2))) fun c_43 =>
 bindL (putAt (List.map .val (C.ti T_has).zero) 4 c_43) fun c2_43 =>
 bindL (boxCells (C.ti T_int) (.val (.int .i64 2))) fun c_44 =>
 bindL (putAt c2_43 5 c_44) fun c2_44 =>
 bind1 (ofSlots (C.ti T_has) (List.take (C.ti T_has).size c2_44)) fun v58_17 =>
 bindL (boxCells (C.ti T_has) v58_17) fun c_45 =>
 bindL (putAt c2_44 0 c_45) fun c2_45 =>
 bind1 (tupS [(ofSlots (C.ti T_has) (List.take (C.ti T_has).size c2_45)), (some (.val (.bool true)))]) fun v => some (.ret v, s)) (
 bind1 (binS (C.ti T_ExpKind) .eql (.val a0) (.val (.int .i64 20))) fun v37_2 =>
 condS v37_2 (
 bind1 (ofSlots (C.ti T_has) (List.take (C.ti T_has).size (List.map .val (C.ti T_has).zero))) fun v58_18 =>
 bindL (boxCells (C.ti T_has) v58_18) fun c_46 =>
 bindL (putAt (List.map .val (C.ti T_has).zero) 0 c_46) fun c2_46 =>
 bind1 (tupS [(ofSlots (C.ti T_has) (List.take (C.ti T_has).size c2_46)), (some (.val (.bool true)))]) fun v => some (.ret v, s)) (
 bind1 (ofSlots (C.ti T_has) (List.take (C.ti T_has).size (List.map .val (C.ti T_has).zero))) fun v58_19 =>
 bindL (boxCells (C.ti T_has) v58_19) fun c_47 =>
 bindL (putAt (List.map .val (C.ti T_has).zero) 0 c_47) fun c2_47 =>
 bind1 (tupS [(ofSlots (C.ti T_has) (List.take (C.ti T_has).size c2_47)), (some (.val (.bool false)))]) fun v => some (.ret v, s)))) (
 bind1 (binS (C.ti T_ExpKind) .eql (.val a0) (.val (.int .i64 18))) fun v35 =>
 condS v35 (
 bindL (boxCells (C.ti T_int) (.val (.int .i64 2))) fun c_48 =>
 bindL (putAt (List.map .val (C.ti T_has).zero) 4 c_48) fun c2_48 =>
 bindL (boxCells (C.ti T_int) (.val (.int .i64 2))) fun c_49 =>
 bindL (putAt c2_48 5 c_49) fun c2_49 =>
 bind1 (ofSlots (C.ti T_has) (List.take (C.ti T_has).size c2_49)) fun v58_20 =>
 bindL (boxCells (C.ti T_has) v58_20) fun c_50 =>
 bindL (putAt c2_49 0 c_50) fun c2_50 =>
 bind1 (tupS [(ofSlots (C.ti T_has) (List.take (C.ti T_has).size c2_50)), (some (.val (.bool true)))]) fun v => some (.ret v, s)) (
 bind1 (binS (C.ti T_ExpKind) .eql (.val a0) (.val (.int .i64 20))) fun v37_3 =>
 condS v37_3 (
 bind1 (ofSlots (C.ti T_has) (List.take (C.ti T_has).size (List.map .val (C.ti T_has).zero))) fun v58_21 =>
 bindL (boxCells (C.ti T_has) v58_21) fun c_51 =>
 bindL (putAt (List.map .val (C.ti T_has).zero) 0 c_51) fun c2_51 =>
 bind1 (tupS [(ofSlots (C.ti T_has) (List.take (C.ti T_has).size c2_51)), (some (.val (.bool true)))]) fun v => some (.ret v, s)) (
 bind1 (ofSlots (C.ti T_has) (List.take (C.ti T_has).size (List.map .val (C.ti T_has).zero))) fun v58_22 =>
 bindL (boxCells (C.ti T_has) v58_22) fun c_52 =>
 bindL (putAt (List.map .val (C.ti T_has).zero) 0 c_52) fun c2_52 =>
 bind1 (tupS [(ofSlots (C.ti T_has) (List.take (C.ti T_has).size c2_52)), (some (.val (.bool false)))]) fun v => some (.ret v, s))))))))) (
 bind1 (binS (C.ti T_ExpKind) .eql (.val a0) (.val (.int .i64 16))) fun v26 =>
 condS v26 (
 condS v26 (
 bindL (boxCells (C.ti T_int) (.val (.int .i64 1))) fun c_53 =>
 bindL (putAt (List.map .val (C.ti T_has).zero) 4 c_53) fun c2_53 =>
 bindL (boxCells (C.ti T_int) (.val (.int .i64 1))) fun c_54 =>
 bindL (putAt c2_53 5 c_54) fun c2_54 =>
 bind1 (ofSlots (C.ti T_has) (List.take (C.ti T_has).size c2_54)) fun v58_23 =>
 bindL (boxCells (C.ti T_has) v58_23) fun c_55 =>
 bindL (putAt c2_54 0 c_55) fun c2_55 =>
 bind1 (tupS [(ofSlots (C.ti T_has) (List.take (C.ti T_has).size c2_55)), (some (.val (.bool true)))]) fun v => some (.ret v, s)) (
 bind1 (binS (C.ti T_ExpKind) .eql (.val a0) (.val (.int .i64 13))) fun v30_1 =>
 condS v30_1 (
 bindL (boxCells (C.ti T_bool) (.val (.bool true))) fun c_56 =>
 bindL (putAt (List.map .val (C.ti T_has).zero) 1 c_56) fun c2_56 =>
 bindL (boxCells (C.ti T_int) (.val (.int .i64 2))) fun c_57 =>
 bindL (putAt c2_56 4 c_57) fun c2_57 =>
 bindL (boxCells (C.ti T_int) (.val (.int .i64 2))) fun c_58 =>
 bindL (putAt c2_57 5 c_58) fun c2_58 =>
 bind1 (ofSlots (C.ti T_has) (List.take (C.ti T_has).size c2_58)) fun v58_24 =>
 bindL (boxCells (C.ti T_has) v58_24) fun c_59 =>
 bindL (putAt c2_58 0 c_59) fun c2_59 =>
 bind1 (tupS [(ofSlots (C.ti T_has) (List.take (C.ti T_has).size c2_59)), (some (.val (.bool true)))]) fun v => some (.ret v, s)) (
 bind1 (binS (C.ti T_ExpKind) .eql (.val a0) (.val (.int .i64 6))) fun v32_1 =>
 condS v32_1 (
 condS v32_1 (
 bindL (boxCells (C.ti T_int) (.val (.int .i64 2))) fun c_60 =>
 bindL (putAt (List.map .val (C.ti T_has).zero) 4 c_60) fun c2_60 =>
 bindL (boxCells (C.ti T_int) (.val (.int .i64 2))) fun c_61 =>
 bindL (putAt c2_60 5 c_61) fun c2_61 =>
 bind1 (ofSlots (C.ti T_has) (List.take (C.ti T_has).size c2_61)) fun v58_25 =>
 bindL (boxCells (C.ti T_has) v58_25) fun c_62 =>
 bindL (putAt c2_61 0 c_62) fun c2_62 =>
 bind1 (tupS [(ofSlots (C.ti T_has) (List.take (C.ti T_has).size c2_62)), (some (.val (.bool true)))]) fun v => some (.ret v, s)) (
 bind1 (binS (C.ti T_ExpKind) .eql (.val a0) (.val (.int .i64 20))) fun v37_4 =>
 condS v37_4 (
 bind1 (ofSlots (C.ti T_has) (List.take (C.ti T_has).size (List.map .val (C.ti T_has).zero))) fun v58_26 =>
 bindL (boxCells (C.ti T_has) v58_26) fun c_63 =>
 bindL (putAt (List.map .val (C.ti T_has).zero) 0 c_63) fun c2_63 =>
 bind1 (tupS [(ofSlots (C.ti T_has) (List.take (C.ti T_has).size c2_63)), (some (.val (.bool true)))]) fun v => some (.ret v, s)) (
 bind1 (ofSlots (C.ti T_has) (List.take (C.ti T_has).size (List.map .val (C.ti T_has).zero))) fun v58_27 =>
 bindL (boxCells (C.ti T_has) v58_27) fun c_64 =>
 bindL (putAt (List.map .val (C.ti T_has).zero) 0 c_64) fun c2_64 =>
 bind1 (tupS [(ofSlots (C.ti T_has) (List.take (C.ti T_has).size c2_64)), (some (.val (.bool false)))]) fun v => some (.ret v, s)))) (
 bind1 (binS (C.ti T_ExpKind) .eql (.val a0) (.val (.int .i64 14))) fun v33_1 =>
 condS v33_1 (
 condS v33_1 (
 bindL (boxCells (C.ti T_int) (.val (.int .i64 2))) fun c_65 =>
 bindL (putAt (List.map .val (C.ti T_has).zero) 4 c_65) fun c2_65 =>
 bindL (boxCells (C.ti T_int) (.val (.int .i64 2))) fun c_66 =>
 bindL (putAt c2_65 5 c_66) fun c2_66 =>
 bind1 (ofSlots (C.ti T_has) (List.take (C.ti T_has).size c2_66)) fun v58_28 =>
 bindL (boxCells (C.ti T_has) v58_28) fun c_67 =>
 bindL (putAt c2_66 0 c_67) fun c2_67 =>
 bind1 (tupS [(ofSlots (C.ti T_has) (List.take (C.ti T_has).size c2_67)), (some (.val (.bool true)))]) fun v => some (.ret v, s)) (
 bind1 (binS (C.ti T_ExpKind) .eql (.val a0) (.val (.int .i64 20))) fun v37_5 =>
 condS v37_5 (
 bind1 (ofSlots (C.ti T_has) (List.take (C.ti T_has).size (List.map .val (C.ti T_has).zero))) fun v58_29 =>
 bindL (boxCells (C.ti T_has) v58_29) fun c_68 =>
 bindL (putAt (List.map .val (C.ti T_has).zero) 0 c_68) fun c2_68 =>
 bind1 (tupS [(ofSlots (C.ti T_has) (List.take (C.ti T_has).size c2_68)), (some (.val (.bool true)))]) fun v => some (.ret v, s)) (
 bind1 (ofSlots (C.ti T_has) (List.take (C.ti T_has).size (List.map .val (C.ti T_has).zero))) fun v58_30 =>
 bindL (boxCells (C.ti T_has) v58_30) fun c_69 =>
 bindL (putAt (List.map .val (C.ti T_has).zero) 0 c_69) fun c2_69 =>
 bind1 (tupS [(ofSlots (C.ti T_has) (List.take (C.ti T_has).size c2_69)), (some (.val (.bool false)))]) fun v => some (.ret v, s)))) (
 bind1 (binS (C.ti T_ExpKind) .eql (.val a0) (.val (.int .i64 15))) fun v34_1 =>
 condS v34_1 (
 condS v34_1 (
 bindL (boxCells (C.ti T_int) (.val (.int .i64 2))) fun c_70 =>
 bindL (putAt (List.map .val (C.ti T_has).zero) 4 c_70) fun c2_70 =>
 bindL (boxCells (C.ti T_int) (.val (.int .i64 2))) fun c_71 =>
 bindL (putAt c2_70 5 c_71) fun c2_71 =>
 bind1 (ofSlots (C.ti T_has) (List.take (C.ti T_has).size c2_71)) fun v58_31 =>
 bindL (boxCells (C.ti T_has) v58_31) fun c_72 =>
 bindL (putAt c2_71 0 c_72) fun c2_72 =>
 bind1 (tupS [(ofSlots (C.ti T_has) (List.take (C.ti T_has).size c2_72)), (some (.val (.bool true)))]) fun v => some (.ret v, s)) (
 bind1 (binS (C.ti T_ExpKind) .eql (.val a0) (.val (.int .i64 20))) fun v37_6 =>
 condS v37_6 (
 bind1 (ofSlots (C.ti T_has) (List.take (C.ti T_has).size (List.map .val (C.ti T_has).zero))) fun v58_32 =>
 bindL (boxCells (C.ti T_has) v58_32) fun c_73 =>
 bindL (putAt (List.map .val (C.ti T_has).zero) 0 c_73) fun c2_73 =>
 bind1 (tupS [(ofSlots (C.ti T_has) (List.take (C.ti T_has).size c2_73)), (some (.val (.bool true)))]) fun v => some (.ret v, s)) (
 bind1 (ofSlots (C.ti T_has) (List.take (C.ti T_has).size (List.map .val (C.ti T_has).zero))) fun v58_33 =>
 bindL (boxCells (C.ti T_has) v58_33) fun c_74 =>
 bindL (putAt (List.map .val (C.ti T_has).zero) 0 c_74) fun c2_74 =>
 bind1 (tupS [(ofSlots (C.ti T_has) (List.take (C.ti T_has).size c2_74)), (some (.val (.bool false)))]) fun v => some (.ret v, s)))) (
 bind1 (binS (C.ti T_ExpKind) .eql (.val a0) (.val (.int .i64 18))) fun v35_1 =>
 condS v35_1 (
 bindL (boxCells (C.ti T_int) (.val (.int .i64 2))) fun c_75 =>
 bindL (putAt (List.map .val (C.ti T_has).zero) 4 c_75) fun c2_75 =>
 bindL (boxCells (C.ti T_int) (.val (.int .i64 2))) fun c_76 =>
 bindL (putAt c2_75 5 c_76) fun c2_76 =>
 bind1 (ofSlots (C.ti T_has) (List.take (C.ti T_has).size c2_76)) fun v58_34 =>
 bindL (boxCells (C.ti T_has) v58_34) fun c_77 =>
 bindL (putAt c2_76 0 c_77) fun c2_77 =>
 bind1 (tupS [(ofSlots (C.ti T_has) (List.take (C.ti T_has).size c2_77)), (some (.val (.bool true)))]) fun v => some (.ret v, s)) (
 bind1 (binS (C.ti T_ExpKind) .eql (.val a0) (.val (.int .i64 20))) fun v37_7 =>
 condS v37_7 (
 bind1 (ofSlots (C.ti T_has) (List.take (C.ti T_has).size (List.map .val (C.ti T_has).zero))) fun v58_35 =>
 bindL (boxCells (C.ti T_has) v58_35) fun c_78 =>
 bindL (putAt (List.map .val (C.ti T_has).zero) 0 c_78) fun c2_78 =>
 bind1 (tupS [(ofSlots (C.ti T_has) (List.take (C.ti T_has).size c2_78)), (some (.val (.bool true)))]) fun v => some (.ret v, s)) (
 bind1 (ofSlots (C.ti T_has) (List.take (C.ti T_has).size (List.map .val (C.ti T_has).zero))) fun v58_36 =>
 bindL (boxCells (C.ti T_has) v58_36) fun c_79 =>
 bindL (putAt (List.map .val (C.ti T_has).zero) 0 c_79) fun c2_79 =>
 bind1 (tupS [(ofSlots (C.ti T_has) (List.take (C.ti T_has).size c2_79)), (some (.val (.bool false)))]) fun v => some (.ret v, s))))))))) (
 bind1 (binS (C.ti T_ExpKind) .eql (.val a0) (.val (.int .i64 17))) fun v27 =>
 condS v27 (
 condS v27 (
 bindL (boxCells (C.ti T_int) (.val (.int .i64 1))) fun c_80 =>
 bindL (putAt (List.map .val (C.ti T_has).zero) 4 c_80) fun c2_80 =>
 bindL (boxCells (C.ti T_int) (.val (.int .i64 1))) fun c_81 =>
 bindL (putAt c2_80 5 c_81) fun c2_81 =>
 bind1 (ofSlots (C.ti T_has) (List.take (C.ti T_has).size c2_81)) fun v58_37 =>
 bindL (boxCells (C.ti T_has) v58_37) fun c_82 =>
 bindL (putAt c2_81 0 c_82) fun c2_82 =>
 bind1 (tupS [(ofSlots (C.ti T_has) (List.take (C.ti T_has).size c2_82)), (some (.val (.bool true)))]) fun v => some (.ret v, s)) (
 bind1 (binS (C.ti T_ExpKind) .eql (.val a0) (.val (.int .i64 13))) fun v30_2 =>
 condS v30_2 (
 bindL (boxCells (C.ti T_bool) (.val (.bool true))) fun c_83 =>
 bindL (putAt (List.map .val (C.ti T_has).zero) 1 c_83) fun c2_83 =>
 bindL (boxCells (C.ti T_int) (.val (.int .i64 2))) fun c_84 =>
 bindL (putAt c2_83 4 c_84) fun c2_84 =>
 bindL (boxCells (C.ti T_int) (.val (.int .i64 2))) fun c_85 =>
 bindL (putAt c2_84 5 c_85) fun c2_85 =>
 bind1 (ofSlots (C.ti T_has) (List.take (C.ti T_has).size c2_85)) fun v58_38 =>
 bindL (boxCells (C.ti T_has) v58_38) fun c_86 =>
 bindL (putAt c2_85 0 c_86) fun c2_86 =>
 bind1 (tupS [(ofSlots (C.ti T_has) (List.take (C.ti T_has).size c2_86)), (some (.val (.bool true)))]) fun v => some (.ret v, s)) (
 bind1 (binS (C.ti T_ExpKind) .eql (.val a0) (.val (.int .i64 6))) fun v32_2 =>
 condS v32_2 (
 condS v32_2 (
 bindL (boxCells (C.ti T_int) (.val (.int .i64 2))) fun c_87 =>
 bindL (putAt (List.map .val (C.ti T_has).zero) 4 c_87) fun c2_87 =>
 bindL (boxCells (C.ti T_int) (.val (.int .i64 2))) fun c_88 =>
 bindL (putAt c2_87 5 c_88) fun c2_88 =>
 bind1 (ofSlots (C.ti T_has) (List.take (C.ti T_has).size c2_88)) fun v58_39 =>
 bindL (boxCells (C.ti T_has) v58_39) fun c_89 =>
 bindL (putAt c2_88 0 c_89) fun c2_89 =>
 bind1 (tupS [(ofSlots (C.ti T_has) (List.take (C.ti T_has).size c2_89)), (some (.val (.bool true)))]) fun v => some (.ret v, s)) (
 bind1 (binS (C.ti T_ExpKind) .eql (.val a0) (.val (.int .i64 20))) fun v37_8 =>
 condS v37_8 (
 bind1 (ofSlots (C.ti T_has) (List.take (C.ti T_has).size (List.map .val (C.ti T_has).zero))) fun v58_40 =>
 bindL (boxCells (C.ti T_has) v58_40) fun c_90 =>
 bindL (putAt (List.map .val (C.ti T_has).zero) 0 c_90) fun c2_90 =>
 bind1 (tupS [(ofSlots (C.ti T_has) (List.take (C.ti T_has).size c2_90)), (some (.val (.bool true)))]) fun v => some (.ret v, s)) (
 bind1 (ofSlots (C.ti T_has) (List.take (C.ti T_has).size (List.map .val (C.ti T_has).zero))) fun v58_41 =>
 bindL (boxCells (C.ti T_has) v58_41) fun c_91 =>
 bindL (putAt (List.map .val (C.ti T_has).zero) 0 c_91) fun c2_91 =>
 bind1 (tupS [(ofSlots (C.ti T_has) (List.take (C.ti T_has).size c2_91)), (some (.val (.bool false)))]) fun v => some (.ret v, s)))) (
 bind1 (binS (C.ti T_ExpKind) .eql (.val a0) (.val (.int .i64 14))) fun v33_2 =>
 condS v33_2 (
 condS v33_2 (
 bindL (boxCells (C.ti T_int) (.val (.int .i64 2))) fun c_92 =>
 bindL (putAt (List.map .val (C.ti T_has).zero) 4 c_92) fun c2_92 =>
 bindL (boxCells (C.ti T_int) (.val (.int .i64 2))) fun c_93 =>
 bindL (putAt c2_92 5 c_93) fun c2_93 =>
 bind1 (ofSlots (C.ti T_has) (List.take (C.ti T_has).size c2_93)) fun v58_42 =>
 bindL (boxCells (C.ti T_has) v58_42) fun c_94 =>
 bindL (putAt c2_93 0 c_94) fun c2_94 =>
 bind1 (tupS [(ofSlots (C.ti T_has) (List.take (C.ti T_has).size c2_94)), (some (.val (.bool true)))]) fun v => some (.ret v, s)) (
 bind1 (binS (C.ti T_ExpKind) .eql (.val a0) (.val (.int .i64 20))) fun v37_9 =>
 condS v37_9 (
 bind1 (ofSlots (C.ti T_has) (List.take (C.ti T_has).size (List.map .val (C.ti T_has).zero))) fun v58_43 =>
 bindL (boxCells (C.ti T_has) v58_43) fun c_95 =>
 bindL (putAt (List.map .val (C.ti T_has).zero) 0 c_95) fun c2_95 =>
 bind1 (tupS [(ofSlots (C.ti T_has) (List.take (C.ti T_has).size c2_95)), (some (.val (.bool true)))]) fun v => some (.ret v, s)) (
 bind1 (ofSlots (C.ti T_has) (List.take (C.ti T_has).size (List.map .val (C.ti T_has).zero))) fun v58_44 =>
 bindL (boxCells (C.ti T_has) v58_44) fun c_96 =>
 bindL (putAt (List.map .val (C.ti T_has).zero) 0 c_96) fun c2_96 =>
 bind1 (tupS [(ofSlots (C.ti T_has) (List.take (C.ti T_has).size c2_96)), (some (.val (.bool false)))]) fun v => some (.ret v, s)))) (
 bind1 (binS (C.ti T_ExpKind) .eql (.val a0) (.val (.int .i64 15))) fun v34_2 =>
 condS v34_2 (
 condS v34_2 (
 bindL (boxCells (C.ti T_int) (.val (.int .i64 2))) fun c_97 =>
 bindL (putAt (List.map .val (C.ti T_has).zero) 4 c_97) fun c2_97 =>
 bindL (boxCells (C.ti T_int) (.val (.int .i64 2))) fun c_98 =>
 bindL (putAt c2_97 5 c_98) fun c2_98 =>
 bind1 (ofSlots (C.ti T_has) (List.take (C.ti T_has).size c2_98)) fun v58_45 =>
 bindL (boxCells (C.ti T_has) v58_45) fun c_99 =>
 bindL (putAt c2_98 0 c_99) fun c2_99 =>
 bind1 (tupS [(ofSlots (C.ti T_has) (List.take (C.ti T_has).size c2_99)), (some (.val (.bool true)))]) fun v => some (.ret v, s)) (
 bind1 (binS (C.ti T_ExpKind) .eql (.val a0) (.val (.int .i64 20))) fun v37_10 =>
 condS v37_10 (
 bind1 (ofSlots (C.ti T_has) (List.take (C.ti T_has).size (List.map .val (C.ti T_has).zero))) fun v58_46 =>
 bindL (boxCells (C.ti T_has) v58_46) fun c_100 =>
 bindL (putAt (List.map .val (C.ti T_has).zero) 0 c_100) fun c2_100 =>
 bind1 (tupS [(ofSlots (C.ti T_has) (List.take (C.ti T_has).size c2_100)), (some (.val (.bool true)))]) fun v => some (.ret v, s)) (
 bind1 (ofSlots (C.ti T_has) (List.take (C.ti T_has).size (List.map .val (C.ti T_has).zero))) fun v58_47 =>
 bindL (boxCells (C.ti T_has) v58_47) fun c_101 =>
 bindL (putAt (List.map .val (C.ti T_has).zero) 0 c_101) fun c2_101 =>
 bind1 (tupS [(ofSlots (C.ti T_has) (List.take (C.ti T_has).size c2_101)), (some (.val (.bool false)))]) fun v => some (.ret v, s)))) (
 bind1 (binS (C.ti T_ExpKind) .eql (.val a0) (.val (.int .i64 18))) fun v35_2 =>
 condS v35_2 (
 bindL (boxCells (C.ti T_int) (.val (.int .i64 2))) fun c_102 =>
 bindL (putAt (List.map .val (C.ti T_has).zero) 4 c_102) fun c2_102 =>
 bindL (boxCells (C.ti T_int) (.val (.int .i64 2))) fun c_103 =>
 bindL (putAt c2_102 5 c_103) fun c2_103 =>
 bind1 (ofSlots (C.ti T_has) (List.take (C.ti T_has).size c2_103)) fun v58_48 =>
 bindL (boxCells (C.ti T_has) v58_48) fun c_104 =>
 bindL (putAt c2_103 0 c_104) fun c2_104 =>
 bind1 (tupS [(ofSlots (C.ti T_has) (List.take (C.ti T_has).size c2_104)), (some (.val (.bool true)))]) fun v => some (.ret v, s)) (
 bind1 (binS (C.ti T_ExpKind) .eql (.val a0) (.val (.int .i64 20))) fun v37_11 =>
 condS v37_11 (
 bind1 (ofSlots (C.ti T_has) (List.take (C.ti T_has).size (List.map .val (C.ti T_has).zero))) fun v58_49 =>
 bindL (boxCells (C.ti T_has) v58_49) fun c_105 =>
 bindL (putAt (List.map .val (C.ti T_has).zero) 0 c_105) fun c2_105 =>
 bind1 (tupS [(ofSlots (C.ti T_has) (List.take (C.ti T_has).size c2_105)), (some (.val (.bool true)))]) fun v => some (.ret v, s)) (
 bind1 (ofSlots (C.ti T_has) (List.take (C.ti T_has).size (List.map .val (C.ti T_has).zero))) fun v58_50 =>
 bindL (boxCells (C.ti T_has) v58_50) fun c_106 =>
 bindL (putAt (List.map .val (C.ti T_has).zero) 0 c_106) fun c2_106 =>
 bind1 (tupS [(ofSlots (C.ti T_has) (List.take (C.ti T_has).size c2_106)), (some (.val (.bool false)))]) fun v => some (.ret v, s))))))))) (
 bind1 (binS (C.ti T_ExpKind) .eql (.val a0) (.val (.int .i64 19))) fun v28 =>
 condS v28 (
 bindL (boxCells (C.ti T_int) (.val (.int .i64 1))) fun c_107 =>
 bindL (putAt (List.map .val (C.ti T_has).zero) 4 c_107) fun c2_107 =>
 bindL (boxCells (C.ti T_int) (.val (.int .i64 1))) fun c_108 =>
 bindL (putAt c2_107 5 c_108) fun c2_108 =>
 bind1 (ofSlots (C.ti T_has) (List.take (C.ti T_has).size c2_108)) fun v58_51 =>
 bindL (boxCells (C.ti T_has) v58_51) fun c_109 =>
 bindL (putAt c2_108 0 c_109) fun c2_109 =>
 bind1 (tupS [(ofSlots (C.ti T_has) (List.take (C.ti T_has).size c2_109)), (some (.val (.bool true)))]) fun v => some (.ret v, s)) (
 bind1 (binS (C.ti T_ExpKind) .eql (.val a0) (.val (.int .i64 13))) fun v30_3 =>
 condS v30_3 (
 bindL (boxCells (C.ti T_bool) (.val (.bool true))) fun c_110 =>
 bindL (putAt (List.map .val (C.ti T_has).zero) 1 c_110) fun c2_110 =>
 bindL (boxCells (C.ti T_int) (.val (.int .i64 2))) fun c_111 =>
 bindL (putAt c2_110 4 c_111) fun c2_111 =>
 bindL (boxCells (C.ti T_int) (.val (.int .i64 2))) fun c_112 =>
 bindL (putAt c2_111 5 c_112) fun c2_112 =>
 bind1 (ofSlots (C.ti T_has) (List.take (C.ti T_has).size c2_112)) fun v58_52 =>
 bindL (boxCells (C.ti T_has) v58_52) fun c_113 =>
 bindL (putAt c2_112 0 c_113) fun c2_113 =>
 bind1 (tupS [(ofSlots (C.ti T_has) (List.take (C.ti T_has).size c2_113)), (some (.val (.bool true)))]) fun v => some (.ret v, s)) (
 bind1 (binS (C.ti T_ExpKind) .eql (.val a0) (.val (.int .i64 6))) fun v32_3 =>
 condS v32_3 (
 condS v32_3 (
 bindL (boxCells (C.ti T_int) (.val (.int .i64 2))) fun c_114 =>
 bindL (putAt (List.map .val (C.ti T_has).zero) 4 c_114) fun c2_114 =>
 bindL (boxCells (C.ti T_int) (.val (.int .i64 2))) fun c_115 =>
 bindL (putAt c2_114 5 c_115) fun c2_115 =>
 bind1 (ofSlots (C.ti T_has) (List.take (C.ti T_has).size c2_115)) fun v58_53 =>
 bindL (boxCells (C.ti T_has) v58_53) fun c_116 =>
 bindL (putAt c2_115 0 c_116) fun c2_116 =>
 bind1 (tupS [(ofSlots (C.ti T_has) (List.take (C.ti T_has).size c2_116)), (some (.val (.bool true)))]) fun v => some (.ret v, s)) (
 bind1 (binS (C.ti T_ExpKind) .eql (.val a0) (.val (.int .i64 20))) fun v37_12 =>
 condS v37_12 (
 bind1 (ofSlots (C.ti T_has) (List.take (C.ti T_has).size (List.map .val (C.ti T_has).zero))) fun v58_54 =>
 bindL (boxCells (C.ti T_has) v58_54) fun c_117 =>
 bindL (putAt (List.map .val (C.ti T_has).zero) 0 c_117) fun c2_117 =>
 bind1 (tupS [(ofSlots (C.ti T_has) (List.take (C.ti T_has).size c2_117)), (some (.val (.bool true)))]) fun v => some (.ret v, s)) (
 bind1 (ofSlots (C.ti T_has) (List.take (C.ti T_has).size (List.map .val (C.ti T_has).zero))) fun v58_55 =>
 bindL (boxCells (C.ti T_has) v58_55) fun c_118 =>
 bindL (putAt (List.map .val (C.ti T_has).zero) 0 c_118) fun c2_118 =>
 bind1 (tupS [(ofSlots (C.ti T_has) (List.take (C.ti T_has).size c2_118)), (some (.val (.bool false)))]) fun v => some (.ret v, s)))) (
 bind1 (binS (C.ti T_ExpKind) .eql (.val a0) (.val (.int .i64 14))) fun v33_3 =>
 condS v33_3 (
 condS v33_3 (
 bindL (boxCells (C.ti T_int) (.val (.int .i64 2))) fun c_119 =>
 bindL (putAt (List.map .val (C.ti T_has).zero) 4 c_119) fun c2_119 =>
 bindL (boxCells (C.ti T_int) (.val (.int .i64 2))) fun c_120 =>
 bindL (putAt c2_119 5 c_120) fun c2_120 =>
 bind1 (ofSlots (C.ti T_has) (List.take (C.ti T_has).size c2_120)) fun v58_56 =>
 bindL (boxCells (C.ti T_has) v58_56) fun c_121 =>
 bindL (putAt c2_120 0 c_121) fun c2_121 =>
 bind1 (tupS [(ofSlots (C.ti T_has) (List.take (C.ti T_has).size c2_121)), (some (.val (.bool true)))]) fun v => some (.ret v, s)) (
 bind1 (binS (C.ti T_ExpKind) .eql (.val a0) (.val (.int .i64 20))) fun v37_13 =>
 condS v37_13 (
 bind1 (ofSlots (C.ti T_has) (List.take (C.ti T_has).size (List.map .val (C.ti T_has).zero))) fun v58_57 =>
 bindL (boxCells (C.ti T_has) v58_57) fun c_122 =>
 bindL (putAt (List.map .val (C.ti T_has).zero) 0 c_122) fun c2_122 =>
 bind1 (tupS [(ofSlots (C.ti T_has) (List.take (C.ti T_has).size c2_122)), (some (.val (.bool true)))]) fun v => some (.ret v, s)) (
 bind1 (ofSlots (C.ti T_has) (List.take (C.ti T_has).size (List.map .val (C.ti T_has).zero))) fun v58_58 =>
 bindL (boxCells (C.ti T_has) v58_58) fun c_123 =>
 bindL (putAt (List.map .val (C.ti T_has).zero) 0 c_123) fun c2_123 =>
 bind1 (tupS [(ofSlots (C.ti T_has) (List.take (C.ti T_has).size c2_123)), (some (.val (.bool false)))]) fun v => some (.ret v, s)))) (
 bind1 (binS (C.ti T_ExpKind) .eql (.val a0) (.val (.int .i64 15))) fun v34_3 =>
 condS v34_3 (
 condS v34_3 (
 bindL (boxCells (C.ti T_int) (.val (.int .i64 2))) fun c_124 =>
 bindL (putAt (List.map .val (C.ti T_has).zero) 4 c_124) fun c2_124 =>
 bindL (boxCells (C.ti T_int) (.val (.int .i64 2))) fun c_125 =>
 bindL (putAt c2_124 5 c_125) fun c2_125 =>
 bind1 (ofSlots (C.ti T_has) (List.take (C.ti T_has).size c2_125)) fun v58_59 =>
 bindL (boxCells (C.ti T_has) v58_59) fun c_126 =>
 bindL (putAt c2_125 0 c_126) fun c2_126 =>
 bind1 (tupS [(ofSlots (C.ti T_has) (List.take (C.ti T_has).size c2_126)), (some (.val (.bool true)))]) fun v => some (.ret v, s)) (
 bind1 (binS (C.ti T_ExpKind) .eql (.val a0) (.val (.int .i64 20))) fun v37_14 =>
 condS v37_14 (
 bind1 (ofSlots (C.ti T_has) (List.take (C.ti T_has).size (List.map .val (C.ti T_has).zero))) fun v58_60 =>
 bindL (boxCells (C.ti T_has) v58_60) fun c_127 =>
 bindL (putAt (List.map .val (C.ti T_has).zero) 0 c_127) fun c2_127 =>
 bind1 (tupS [(ofSlots (C.ti T_has) (List.take (C.ti T_has).size c2_127)), (some (.val (.bool true)))]) fun v => some (.ret v, s)) (
 bind1 (ofSlots (C.ti T_has) (List.take (C.ti T_has).size (List.map .val (C.ti T_has).zero))) fun v58_61 =>
 bindL (boxCells (C.ti T_has) v58_61) fun c_128 =>
 bindL (putAt (List.map .val (C.ti T_has).zero) 0 c_128) fun c2_128 =>
 bind1 (tupS [(ofSlots (C.ti T_has) (List.take (C.ti T_has).size c2_128)), (some (.val (.bool false)))]) fun v => some (.ret v, s)))) (
 bind1 (binS (C.ti T_ExpKind) .eql (.val a0) (.val (.int .i64 18))) fun v35_3 =>
 condS v35_3 (
 bindL (boxCells (C.ti T_int) (.val (.int .i64 2))) fun c_129 =>
 bindL (putAt (List.map .val (C.ti T_has).zero) 4 c_129) fun c2_129 =>
 bindL (boxCells (C.ti T_int) (.val (.int .i64 2))) fun c_130 =>
 bindL (putAt c2_129 5 c_130) fun c2_130 =>
 bind1 (ofSlots (C.ti T_has) (List.take (C.ti T_has).size c2_130)) fun v58_62 =>
 bindL (boxCells (C.ti T_has) v58_62) fun c_131 =>
 bindL (putAt c2_130 0 c_131) fun c2_131 =>
 bind1 (tupS [(ofSlots (C.ti T_has) (List.take (C.ti T_has).size c2_131)), (some (.val (.bool true)))]) fun v => some (.ret v, s)) (
 bind1 (binS (C.ti T_ExpKind) .eql (.val a0) (.val (.int .i64 20))) fun v37_15 =>
 condS v37_15 (
 bind1 (ofSlots (C.ti T_has) (List.take (C.ti T_has).size (List.map .val (C.ti T_has).zero))) fun v58_63 =>
 bindL (boxCells (C.ti T_has) v58_63) fun c_132 =>
 bindL (putAt (List.map .val (C.ti T_has).zero) 0 c_132) fun c2_132 =>
 bind1 (tupS [(ofSlots (C.ti T_has) (List.take (C.ti T_has).size c2_132)), (some (.val (.bool true)))]) fun v => some (.ret v, s)) (
 bind1 (ofSlots (C.ti T_has) (List.take (C.ti T_has).size (List.map .val (C.ti T_has).zero))) fun v58_64 =>
 bindL (boxCells (C.ti T_has) v58_64) fun c_133 =>
 bindL (putAt (List.map .val (C.ti T_has).zero) 0 c_133) fun c2_133 =>
 bind1 (tupS [(ofSlots (C.ti T_has) (List.take (C.ti T_has).size c2_133)), (some (.val (.bool false)))]) fun v => some (.ret v, s))))))))))))) (
 bind1 (binS (C.ti T_ExpKind) .eql (.val a0) (.val (.int .i64 11))) fun v23 =>
 condS v23 (
 bindL (boxCells (C.ti T_bool) (.val (.bool true))) fun c_134 =>
 bindL (putAt (List.map .val (C.ti T_has).zero) 2 c_134) fun c2_134 =>
 bindL (boxCells (C.ti T_int) (.val (.int .i64 1))) fun c_135 =>
 bindL (putAt c2_134 4 c_135) fun c2_135 =>
 bindL (boxCells (C.ti T_int) (.val (.int .i64 1))) fun c_136 =>
 bindL (putAt c2_135 5 c_136) fun c2_136 =>
 bind1 (ofSlots (C.ti T_has) (List.take (C.ti T_has).size c2_136)) fun v58_65 =>
 bindL (boxCells (C.ti T_has) v58_65) fun c_137 =>
 bindL (putAt c2_136 0 c_137) fun c2_137 =>
 bind1 (tupS [(ofSlots (C.ti T_has) (List.take (C.ti T_has).size c2_137)), (some (.val (.bool true)))]) fun v => some (.ret v, s)) (
 bind1 (binS (C.ti T_ExpKind) .eql (.val a0) (.val (.int .i64 12))) fun v25_1 =>
 condS v25_1 (
 condS v25_1 (
 bindL (boxCells (C.ti T_int) (.val (.int .i64 1))) fun c_138 =>
 bindL (putAt (List.map .val (C.ti T_has).zero) 4 c_138) fun c2_138 =>
 bindL (boxCells (C.ti T_int) (.val (.int .i64 1))) fun c_139 =>
 bindL (putAt c2_138 5 c_139) fun c2_139 =>
 bind1 (ofSlots (C.ti T_has) (List.take (C.ti T_has).size c2_139)) fun v58_66 =>
 bindL (boxCells (C.ti T_has) v58_66) fun c_140 =>
 bindL (putAt c2_139 0 c_140) fun c2_140 =>
 bind1 (tupS [(ofSlots (C.ti T_has) (List.take (C.ti T_has).size c2_140)), (some (.val (.bool true)))]) fun v => some (.ret v, s)) (
 bind1 (binS (C.ti T_ExpKind) .eql (.val a0) (.val (.int .i64 13))) fun v30_4 =>
 condS v30_4 (
 bindL (boxCells (C.ti T_bool) (.val (.bool true))) fun c_141 =>
 bindL (putAt (List.map .val (C.ti T_has).zero) 1 c_141) fun c2_141 =>
 bindL (boxCells (C.ti T_int) (.val (.int .i64 2))) fun c_142 =>
 bindL (putAt c2_141 4 c_142) fun c2_142 =>
 bindL (boxCells (C.ti T_int) (.val (.int .i64 2))) fun c_143 =>
 bindL (putAt c2_142 5 c_143) fun c2_143 =>
 bind1 (ofSlots (C.ti T_has) (List.take (C.ti T_has).size c2_143)) fun v58_67 =>
 bindL (boxCells (C.ti T_has) v58_67) fun c_144 =>
 bindL (putAt c2_143 0 c_144) fun c2_144 =>
 bind1 (tupS [(ofSlots (C.ti T_has) (List.take (C.ti T_has).size c2_144)), (some (.val (.bool true)))]) fun v => some (.ret v, s)) (
 bind1 (binS (C.ti T_ExpKind) .eql (.val a0) (.val (.int .i64 6))) fun v32_4 =>
 condS v32_4 (
 condS v32_4 (
 bindL (boxCells (C.ti T_int) (.val (.int .i64 2))) fun c_145 =>
 bindL (putAt (List.map .val (C.ti T_has).zero) 4 c_145) fun c2_145 =>
 bindL (boxCells (C.ti T_int) (.val (.int .i64 2))) fun c_146 =>
 bindL (putAt c2_145 5 c_146) fun c2_146 =>
 bind1 (ofSlots (C.ti T_has) (List.take (C.ti T_has).size c2_146)) fun v58_68 =>
 bindL (boxCells (C.ti T_has) v58_68) fun c_147 =>
 bindL (putAt c2_146 0 c_147) fun c2_147 =>
 bind1 (tupS [(ofSlots (C.ti T_has) (List.take (C.ti T_has).size c2_147)), (some (.val (.bool true)))]) fun v => some (.ret v, s)) (
 bind1 (binS (C.ti T_ExpKind) .eql (.val a0) (.val (.int .i64 20))) fun v37_16 =>
 condS v37_16 (
 bind1 (ofSlots (C.ti T_has) (List.take (C.ti T_has).size (List.map .val (C.ti T_has).zero))) fun v58_69 =>
 bindL (boxCells (C.ti T_has) v58_69) fun c_148 =>
 bindL (putAt (List.map .val (C.ti T_has).zero) 0 c_148) fun c2_148 =>
 bind1 (tupS [(ofSlots (C.ti T_has) (List.take (C.ti T_has).size c2_148)), (some (.val (.bool true)))]) fun v => some (.ret v, s)) (
 bind1 (ofSlots (C.ti T_has) (List.take (C.ti T_has).size (List.map .val (C.ti T_has).zero))) fun v58_70 =>
 bindL (boxCells (C.ti T_has) v58_70) fun c_149 =>
 bindL (putAt (List.map .val (C.ti T_has).zero) 0 c_149) fun c2_149 =>
 bind1 (tupS [(ofSlots (C.ti T_has) (List.take (C.ti T_has).size c2_149)), (some (.val (.bool false)))]) fun v => some (.ret v, s)))) (
 bind1 (binS (C.ti T_ExpKind) .eql (.val a0) (.val (.int .i64 14))) fun v33_4 =>
 condS v33_4 (
 condS v33_4 (
 bindL (boxCells (C.ti T_int) (.val (.int .i64 2))) fun c_150 =>
 bindL (putAt (List.map .val (C.ti T_has).zero) 4 c_150) fun c2_150 =>
 bindL (boxCells (C.ti T_int) (.val (.int .i64 2))) fun c_151 =>
 bindL (putAt c2_150 5 c_151) fun c2_151 =>
 bind1 (ofSlots (C.ti T_has) (List.take (C.ti T_has).size c2_151)) fun v58_71 =>
 bindL (boxCells (C.ti T_has) v58_71) fun c_152 =>
 bindL (putAt c2_151 0 c_152) fun c2_152 =>
 bind1 (tupS [(ofSlots (C.ti T_has) (List.take (C.ti T_has).size c2_152)), (some (.val (.bool true)))]) fun v => some (.ret v, s)) (
 bind1 (binS (C.ti T_ExpKind) .eql (.val a0) (.val (.int .i64 20))) fun v37_17 =>
 condS v37_17 (
 bind1 (ofSlots (C.ti T_has) (List.take (C.ti T_has).size (List.map .val (C.ti T_has).zero))) fun v58_72 =>
 bindL (boxCells (C.ti T_has) v58_72) fun c_153 =>
 bindL (putAt (List.map .val (C.ti T_has).zero) 0 c_153) fun c2_153 =>
 bind1 (tupS [(ofSlots (C.ti T_has) (List.take (C.ti T_has).size c2_153)), (some (.val (.bool true)))]) fun v => some (.ret v, s)) (
 bind1 (ofSlots (C.ti T_has) (List.take (C.ti T_has).size (List.map .val (C.ti T_has).zero))) fun v58_73 =>
 bindL (boxCells (C.ti T_has) v58_73) fun c_154 =>
 bindL (putAt (List.map .val (C.ti T_has).zero) 0 c_154) fun c2_154 =>
 bind1 (tupS [(ofSlots (C.ti T_has) (List.take (C.ti T_has).size c2_154)), (some (.val (.bool false)))]) fun v => some (.ret v, s)))) (
 bind1 (binS (C.ti T_ExpKind) .eql (.val a0) (.val (.int .i64 15))) fun v34_4 =>
 condS v34_4 (
 condS v34_4 (
 bindL (boxCells (C.ti T_int) (.val (.int .i64 2))) fun c_155 =>
 bindL (putAt (List.map .val (C.ti T_has).zero) 4 c_155) fun c2_155 =>
 bindL (boxCells (C.ti T_int) (.val (.int .i64 2))) fun c_156 =>
 bindL (putAt c2_155 5 c_156) fun c2_156 =>
 bind1 (ofSlots (C.ti T_has) (List.take (C.ti T_has).size c2_156)) fun v58_74 =>
 bindL (boxCells (C.ti T_has) v58_74) fun c_157 =>
 bindL (putAt c2_156 0 c_157) fun c2_157 =>
 bind1 (tupS [(ofSlots (C.ti T_has) (List.take (C.ti T_has).size c2_157)), (some (.val (.bool true)))]) fun v => some (.ret v, s)) (
 bind1 (binS (C.ti T_ExpKind) .eql (.val a0) (.val (.int .i64 20))) fun v37_18 =>
 condS v37_18 (
 bind1 (ofSlots (C.ti T_has) (List.take (C.ti T_has).size (List.map .val (C.ti T_has).zero))) fun v58_75 =>
 bindL (boxCells (C.ti T_has) v58_75) fun c_158 =>
 bindL (putAt (List.map .val (C.ti T_has).zero) 0 c_158) fun c2_158 =>
 bind1 (tupS [(ofSlots (C.ti T_has) (List.take (C.ti T_has).size c2_158)), (some (.val (.bool true)))]) fun v => some (.ret v, s)) (
 bind1 (ofSlots (C.ti T_has) (List.take (C.ti T_has).size (List.map .val (C.ti T_has).zero))) fun v58_76 =>
 bindL (boxCells (C.ti T_has) v58_76) fun c_159 =>
 bindL (putAt (List.map .val (C.ti T_has).zero) 0 c_159) fun c2_159 =>
 bind1 (tupS [(ofSlots (C.ti T_has) (List.take (C.ti T_has).size c2_159)), (some (.val (.bool false)))]) fun v => some (.ret v, s)))) (
 bind1 (binS (C.ti T_ExpKind) .eql (.val a0) (.val (.int .i64 18))) fun v35_4 =>
 condS v35_4 (
 bindL (boxCells (C.ti T_int) (.val (.int .i64 2))) fun c_160 =>
 bindL (putAt (List.map .val (C.ti T_has).zero) 4 c_160) fun c2_160 =>
 bindL (boxCells (C.ti T_int) (.val (.int .i64 2))) fun c_161 =>
 bindL (putAt c2_160 5 c_161) fun c2_161 =>
 bind1 (ofSlots (C.ti T_has) (List.take (C.ti T_has).size c2_161)) fun v58_77 =>
 bindL (boxCells (C.ti T_has) v58_77) fun c_162 =>
 bindL (putAt c2_161 0 c_162) fun c2_162 =>
 bind1 (tupS [(ofSlots (C.ti T_has) (List.take (C.ti T_has).size c2_162)), (some (.val (.bool true)))]) fun v => some (.ret v, s)) (
 bind1 (binS (C.ti T_ExpKind) .eql (.val a0) (.val (.int .i64 20))) fun v37_19 =>
 condS v37_19 (
 bind1 (ofSlots (C.ti T_has) (List.take (C.ti T_has).size (List.map .val (C.ti T_has).zero))) fun v58_78 =>
 bindL (boxCells (C.ti T_has) v58_78) fun c_163 =>
 bindL (putAt (List.map .val (C.ti T_has).zero) 0 c_163) fun c2_163 =>
 bind1 (tupS [(ofSlots (C.ti T_has) (List.take (C.ti T_has).size c2_163)), (some (.val (.bool true)))]) fun v => some (.ret v, s)) (
 bind1 (ofSlots (C.ti T_has) (List.take (C.ti T_has).size (List.map .val (C.ti T_has).zero))) fun v58_79 =>
 bindL (boxCells (C.ti T_has) v58_79) fun c_164 =>
 bindL (putAt (List.map .val (C.ti T_has).zero) 0 c_164) fun c2_164 =>
 bind1 (tupS [(ofSlots (C.ti T_has) (List.take (C.ti T_has).size c2_164)), (some (.val (.bool false)))]) fun v => some (.ret v, s))))))))) (
 bind1 (binS (C.ti T_ExpKind) .eql (.val a0) (.val (.int .i64 16))) fun v26_1 =>
 condS v26_1 (
 condS v26_1 (
 bindL (boxCells (C.ti T_int) (.val (.int .i64 1))) fun c_165 =>
 bindL (putAt (List.map .val (C.ti T_has).zero) 4 c_165) fun c2_165 =>
 bindL (boxCells (C.ti T_int) (.val (.int .i64 1))) fun c_166 =>
 bindL (putAt c2_165 5 c_166) fun c2_166 =>
 bind1 (ofSlots (C.ti T_has) (List.take (C.ti T_has).size c2_166)) fun v58_80 =>
 bindL (boxCells (C.ti T_has) v58_80) fun c_167 =>
 bindL (putAt c2_166 0 c_167) fun c2_167 =>
 bind1 (tupS [(ofSlots (C.ti T_has) (List.take (C.ti T_has).size c2_167)), (some (.val (.bool true)))]) fun v => some (.ret v, s)) (
 bind1 (binS (C.ti T_ExpKind) .eql (.val a0) (.val (.int .i64 13))) fun v30_5 =>
 condS v30_5 (
 bindL (boxCells (C.ti T_bool) (.val (.bool true))) fun c_168 =>
 bindL (putAt (List.map .val (C.ti T_has).zero) 1 c_168) fun c2_168 =>
 bindL (boxCells (C.ti T_int) (.val (.int .i64 2))) fun c_169 =>
 bindL (putAt c2_168 4 c_169) fun c2_169 =>
 bindL (boxCells (C.ti T_int) (.val (.int .i64 2))) fun c_170 =>
 bindL (putAt c2_169 5 c_170) fun c2_170 =>
 bind1 (ofSlots (C.ti T_has) (List.take (C.ti T_has).size c2_170)) fun v58_81 =>
 bindL (boxCells (C.ti T_has) v58_81) fun c_171 =>
 bindL (putAt c2_170 0 c_171) fun c2_171 =>
 bind1 (tupS [(ofSlots (C.ti T_has) (List.take (C.ti T_has).size c2_171)), (some (.val (.bool true)))]) fun v => some (.ret v, s)) (
 bind1 (binS (C.ti T_ExpKind) .eql (.val a0) (.val (.int .i64 6))) fun v32_5 =>
 condS v32_5 (
 condS v32_5 (
 bindL (boxCells (C.ti T_int) (.val (.int .i64 2))) fun c_172 =>
 bindL (putAt (List.map .val (C.ti T_has).zero) 4 c_172) fun c2_172 =>
 bindL (boxCells (C.ti T_int) (.val (.int .i64 2))) fun c_173 =>
 bindL (putAt c2_172 5 c_173) fun c2_173 =>
 bind1 (ofSlots (C.ti T_has) (List.take (C.ti T_has).size c2_173)) fun v58_82 =>
 bindL (boxCells (C.ti T_has) v58_82) fun c_174 =>
 bindL (putAt c2_173 0 c_174) fun c2_174 =>
 bind1 (tupS [(ofSlots (C.ti T_has) (List.take (C.ti T_has).size c2_174)), (some (.val (.bool true)))]) fun v => some (.ret v, s)) (
 bind1 (binS (C.ti T_ExpKind) .eql (.val a0) (.val (.int .i64 20))) fun v37_20 =>
 condS v37_20 (
 bind1 (ofSlots (C.ti T_has) (List.take (C.ti T_has).size (List.map .val (C.ti T_has).zero))) fun v58_83 =>
 bindL (boxCells (C.ti T_has) v58_83) fun c_175 =>
 bindL (putAt (List.map .val (C.ti T_has).zero) 0 c_175) fun c2_175 =>
 bind1 (tupS [(ofSlots (C.ti T_has) (List.take (C.ti T_has).size c2_175)), (some (.val (.bool true)))]) fun v => some (.ret v, s)) (
 bind1 (ofSlots (C.ti T_has) (List.take (C.ti T_has).size (List.map .val (C.ti T_has).zero))) fun v58_84 =>
 bindL (boxCells (C.ti T_has) v58_84) fun c_176 =>
 bindL (putAt (List.map .val (C.ti T_has).zero) 0 c_176) fun c2_176 =>
 bind1 (tupS [(ofSlots (C.ti T_has) (List.take (C.ti T_has).size c2_176)), (some (.val (.bool false)))]) fun v => some (.ret v, s)))) (
 bind1 (binS (C.ti T_ExpKind) .eql (.val a0) (.val (.int .i64 14))) fun v33_5 =>
 condS v33_5 (
 condS v33_5 (
 bindL (boxCells (C.ti T_int) (.val (.int .i64 2))) fun c_177 =>
 bindL (putAt (List.map .val (C.ti T_has).zero) 4 c_177) fun c2_177 =>
 bindL (boxCells (C.ti T_int) (.val (.int .i64 2))) fun c_178 =>
 bindL (putAt c2_177 5 c_178) fun c2_178 =>
 bind1 (ofSlots (C.ti T_has) (List.take (C.ti T_has).size c2_178)) fun v58_85 =>
 bindL (boxCells (C.ti T_has) v58_85) fun c_179 =>
 bindL (putAt c2_178 0 c_179) fun c2_179 =>
 bind1 (tupS [(ofSlots (C.ti T_has) (List.take (C.ti T_has).size c2_179)), (some (.val (.bool true)))]) fun v => some (.ret v, s)) (
 bind1 (binS (C.ti T_ExpKind) .eql (.val a0) (.val (.int .i64 20))) fun v37_21 =>
 condS v37_21 (
 bind1 (ofSlots (C.ti T_has) (List.take (C.ti T_has).size (List.map .val (C.ti T_has).zero))) fun v58_86 =>
 bindL (boxCells (C.ti T_has) v58_86) fun c_180 =>
 bindL (putAt (List.map .val (C.ti T_has).zero) 0 c_180) fun c2_180 =>
 bind1 (tupS [(ofSlots (C.ti T_has) (List.take (C.ti T_has).size c2_180)), (some (.val (.bool true)))]) fun v => some (.ret v, s)) (
 bind1 (ofSlots (C.ti T_has) (List.take (C.ti T_has).size (List.map .val (C.ti T_has).zero))) fun v58_87 =>
 bindL (boxCells (C.ti T_has) v58_87) fun c_181 =>
 bindL (putAt (List.map .val (C.ti T_has).zero) 0 c_181) fun c2_181 =>
 bind1 (tupS [(ofSlots (C.ti T_has) (List.take (C.ti T_has).size c2_181)), (some (.val (.bool false)))]) fun v => some (.ret v, s)))) (
 bind1 (binS (C.ti T_ExpKind) .eql (.val a0) (.val (.int .i64 15))) fun v34_5 =>
 condS v34_5 (
 condS v34_5 (
 bindL (boxCells (C.ti T_int) (.val (.int .i64 2))) fun c_182 =>
 bindL (putAt (List.map .val (C.ti T_has).zero) 4 c_182) fun c2_182 =>
 bindL (boxCells (C.ti T_int) (.val (.int .i64 2))) fun c_183 =>
 bindL (putAt c2_182 5 c_183) fun c2_183 =>
 bind1 (ofSlots (C.ti T_has) (List.take (C.ti T_has).size c2_183)) fun v58_88 =>
 bindL (boxCells (C.ti T_has) v58_88) fun c_184 =>
 bindL (putAt c2_183 0 c_184) fun c2_184 =>
 bind1 (tupS [(ofSlots (C.ti T_has) (List.take (C.ti T_has).size c2_184)), (some (.val (.bool true)))]) fun v => some (.ret v, s)) (
 bind1 (binS (C.ti T_ExpKind) .eql (.val a0) (.val (.int .i64 20))) fun v37_22 =>
 condS v37_22 (
 bind1 (ofSlots (C.ti T_has) (List.take (C.ti T_has).size (List.map .val (C.ti T_has).zero))) fun v58_89 =>
 bindL (boxCells (C.ti T_has) v58_89) fun c_185 =>
 bindL (putAt (List.map .val (C.ti T_has).zero) 0 c_185) fun c2_185 =>
 bind1 (tupS [(ofSlots (C.ti T_has) (List.take (C.ti T_has).size c2_185)), (some (.val (.bool true)))]) fun v => some (.ret v, s)) (
 bind1 (ofSlots (C.ti T_has) (List.take (C.ti T_has).size (List.map .val (C.ti T_has).zero))) fun v58_90 =>
 bindL (boxCells (C.ti T_has) v58_90) fun c_186 =>
 bindL (putAt (List.map .val (C.ti T_has).zero) 0 c_186) fun c2_186 =>
 bind1 (tupS [(ofSlots (C.ti T_has) (List.take (C.ti T_has).size c2_186)), (some (.val (.bool false)))]) fun v => some (.ret v, s)))) (
 bind1 (binS (C.ti T_ExpKind) .eql (.val a0) (.val (.int .i64 18))) fun v35_5 =>
 condS v35_5 (
 bindL (boxCells (C.ti T_int) (.val (.int .i64 2))) fun c_187 =>
 bindL (putAt (List.map .val (C.ti T_has).zero) 4 c_187) fun c2_187 =>
 bindL (boxCells (C.ti T_int) (.val (.int .i64 2))) fun c_188 =>
 bindL (putAt c2_187 5 c_188) fun c2_188 =>
 bind1 (ofSlots (C.ti T_has) (List.take (C.ti T_has).size c2_188)) fun v58_91 =>
 bindL (boxCells (C.ti T_has) v58_91) fun c_189 =>
 bindL (putAt c2_188 0 c_189) fun c2_189 =>
 bind1 (tupS [(ofSlots (C.ti T_has) (List.take (C.ti T_has).size c2_189)), (some (.val (.bool true)))]) fun v => some (.ret v, s)) (
 bind1 (binS (C.ti T_ExpKind) .eql (.val a0) (.val (.int .i64 20))) fun v37_23 =>
 condS v37_23 (
 bind1 (ofSlots (C.ti T_has) (List.take (C.ti T_has).size (List.map .val (C.ti T_has).zero))) fun v58_92 =>
 bindL (boxCells (C.ti T_has) v58_92) fun c_190 =>
 bindL (putAt (List.map .val (C.ti T_has).zero) 0 c_190) fun c2_190 =>
 bind1 (tupS [(ofSlots (C.ti T_has) (List.take (C.ti T_has).size c2_190)), (some (.val (.bool true)))]) fun v => some (.ret v, s)) (
 bind1 (ofSlots (C.ti T_has) (List.take (C.ti T_has).size (List.map .val (C.ti T_has).zero))) fun v58_93 =>
 bindL (boxCells (C.ti T_has) v58_93) fun c_191 =>
 bindL (putAt (List.map .val (C.ti T_has).zero) 0 c_191) fun c2_191 =>
 bind1 (tupS [(ofSlots (C.ti T_has) (List.take (C.ti T_has).size c2_191)), (some (.val (.bool false)))]) fun v => some (.ret v, s))))))))) (
 bind1 (binS (C.ti T_ExpKind) .eql (.val a0) (.val (.int .i64 17))) fun v27_1 =>
 condS v27_1 (
 condS v27_1 (
 bindL (boxCells (C.ti T_int) (.val (.int .i64 1))) fun c_192 =>
 bindL (putAt (List.map .val (C.ti T_has).zero) 4 c_192) fun c2_192 =>
 bindL (boxCells (C.ti T_int) (.val (.int .i64 1))) fun c_193 =>
 bindL (putAt c2_192 5 c_193) fun c2_193 =>
 bind1 (ofSlots (C.ti T_has) (List.take (C.ti T_has).size c2_193)) fun v58_94 =>
 bindL (boxCells (C.ti T_has) v58_94) fun c_194 =>
 bindL (putAt c2_193 0 c_194) fun c2_194 =>
 bind1 (tupS [(ofSlots (C.ti T_has) (List.take (C.ti T_has).size c2_194)), (some (.val (.bool true)))]) fun v => some (.ret v, s)) (
 bind1 (binS (C.ti T_ExpKind) .eql (.val a0) (.val (.int .i64 13))) fun v30_6 =>
 condS v30_6 (
 bindL (boxCells (C.ti T_bool) (.val (.bool true))) fun c_195 =>
 bindL (putAt (List.map .val (C.ti T_has).zero) 1 c_195) fun c2_195 =>
 bindL (boxCells (C.ti T_int) (.val (.int .i64 2))) fun c_196 =>
 bindL (putAt c2_195 4 c_196) fun c2_196 =>
 bindL (boxCells (C.ti T_int) (.val (.int .i64 2))) fun c_197 =>
 bindL (putAt c2_196 5 c_197) fun c2_197 =>
 bind1 (ofSlots (C.ti T_has) (List.take (C.ti T_has).size c2_197)) fun v58_95 =>
 bindL (boxCells (C.ti T_has) v58_95) fun c_198 =>
 bindL (putAt c2_197 0 c_198) fun c2_198 =>
 bind1 (tupS [(ofSlots (C.ti T_has) (List.take (C.ti T_has).size c2_198)), (some (.val (.bool true)))]) fun v => some (.ret v, s)) (
 bind1 (binS (C.ti T_ExpKind) .eql (.val a0) (.val (.int .i64 6))) fun v32_6 =>
 condS v32_6 (
 condS v32_6 (
 bindL (boxCells (C.ti T_int) (.val (.int .i64 2))) fun c_199 =>
 bindL (putAt (List.map .val (C.ti T_has).zero) 4 c_199) fun c2_199 =>
 bindL (boxCells (C.ti T_int) (.val (.int .i64 2))) fun c_200 =>
 bindL (putAt c2_199 5 c_200) fun c2_200 =>
 bind1 (ofSlots (C.ti T_has) (List.take (C.ti T_has).size c2_200)) fun v58_96 =>
 bindL (boxCells (C.ti T_has) v58_96) fun c_201 =>
 bindL (putAt c2_200 0 c_201) fun c2_201 =>
 bind1 (tupS [(ofSlots (C.ti T_has) (List.take (C.ti T_has).size c2_201)), (some (.val (.bool true)))]) fun v => some (.ret v, s)) (
 bind1 (binS (C.ti T_ExpKind) .eql (.val a0) (.val (.int .i64 20))) fun v37_24 =>
 condS v37_24 (
 bind1 (ofSlots (C.ti T_has) (List.take (C.ti T_has).size (List.map .val (C.ti T_has).zero))) fun v58_97 =>
 bindL (boxCells (C.ti T_has) v58_97) fun c_202 =>
 bindL (putAt (List.map .val (C.ti T_has).zero) 0 c_202) fun c2_202 =>
 bind1 (tupS [(ofSlots (C.ti T_has) (List.take (C.ti T_has).size c2_202)), (some (.val (.bool true)))]) fun v => some (.ret v, s)) (
 bind1 (ofSlots (C.ti T_has) (List.take (C.ti T_has).size (List.map .val (C.ti T_has).zero))) fun v58_98 =>
 bindL (boxCells (C.ti T_has) v58_98) fun c_203 =>
 bindL (putAt (List.map .val (C.ti T_has).zero) 0 c_203) fun c2_203 =>
 bind1 (tupS [(ofSlots (C.ti T_has) (List.take (C.ti T_has).size c2_203)), (some (.val (.bool false)))]) fun v => some (.ret v, s)))) (
 bind1 (binS (C.ti T_ExpKind) .eql (.val a0) (.val (.int .i64 14))) fun v33_6 =>
 condS v33_6 (
 condS v33_6 (
 bindL (boxCells (C.ti T_int) (.val (.int .i64 2))) fun c_204 =>
 bindL (putAt (List.map .val (C.ti T_has).zero) 4 c_204) fun c2_204 =>
 bindL (boxCells (C.ti T_int) (.val (.int .i64 2))) fun c_205 =>
 bindL (putAt c2_204 5 c_205) fun c2_205 =>
 bind1 (ofSlots (C.ti T_has) (List.take (C.ti T_has).size c2_205)) fun v58_99 =>
 bindL (boxCells (C.ti T_has) v58_99) fun c_206 =>
 bindL (putAt c2_205 0 c_206) fun c2_206 =>
 bind1 (tupS [(ofSlots (C.ti T_has) (List.take (C.ti T_has).size c2_206)), (some (.val (.bool true)))]) fun v => some (.ret v, s)) (
 bind1 (binS (C.ti T_ExpKind) .eql (.val a0) (.val (.int .i64 20))) fun v37_25 =>
 condS v37_25 (
 bind1 (ofSlots (C.ti T_has) (List.take (C.ti T_has).size (List.map .val (C.ti T_has).zero))) fun v58_100 =>
 bindL (boxCells (C.ti T_has) v58_100) fun c_207 =>
 bindL (putAt (List.map .val (C.ti T_has).zero) 0 c_207) fun c2_207 =>
 bind1 (tupS [(ofSlots (C.ti T_has) (List.take (C.ti T_has).size c2_207)), (some (.val (.bool true)))]) fun v => some (.ret v, s)) (
 bind1 (ofSlots (C.ti T_has) (List.take (C.ti T_has).size (List.map .val (C.ti T_has).zero))) fun v58_101 =>
 bindL (boxCells (C.ti T_has) v58_101) fun c_208 =>
 bindL (putAt (List.map .val (C.ti T_has).zero) 0 c_208) fun c2_208 =>
 bind1 (tupS [(ofSlots (C.ti T_has) (List.take (C.ti T_has).size c2_208)), (some (.val (.bool false)))]) fun v => some (.ret v, s)))) (
 bind1 (binS (C.ti T_ExpKind) .eql (.val a0) (.val (.int .i64 15))) fun v34_6 =>
 condS v34_6 (
 condS v34_6 (
 bindL (boxCells (C.ti T_int) (.val (.int .i64 2))) fun c_209 =>
 bindL (putAt (List.map .val (C.ti T_has).zero) 4 c_209) fun c2_209 =>
 bindL (boxCells (C.ti T_int) (.val (.int .i64 2))) fun c_210 =>
 bindL (putAt c2_209 5 c_210) fun c2_210 =>
 bind1 (ofSlots (C.ti T_has) (List.take (C.ti T_has).size c2_210)) fun v58_102 =>
 bindL (boxCells (C.ti T_has) v58_102) fun c_211 =>
 bindL (putAt c2_210 0 c_211) fun c2_211 =>
 bind1 (tupS [(ofSlots (C.ti T_has) (List.take (C.ti T_has).size c2_211)), (some (.val (.bool true)))]) fun v => some (.ret v, s)) (
 bind1 (binS (C.ti T_ExpKind) .eql (.val a0) (.val (.int .i64 20))) fun v37_26 =>
 condS v37_26 (
 bind1 (ofSlots (C.ti T_has) (List.take (C.ti T_has).size (List.map .val (C.ti T_has).zero))) fun v58_103 =>
 bindL (boxCells (C.ti T_has) v58_103) fun c_212 =>
 bindL (putAt (List.map .val (C.ti T_has).zero) 0 c_212) fun c2_212 =>
 bind1 (tupS [(ofSlots (C.ti T_has) (List.take (C.ti T_has).size c2_212)), (some (.val (.bool true)))]) fun v => some (.ret v, s)) (
 bind1 (ofSlots (C.ti T_has) (List.take (C.ti T_has).size (List.map .val (C.ti T_has).zero))) fun v58_104 =>
 bindL (boxCells (C.ti T_has) v58_104) fun c_213 =>
 bindL (putAt (List.map .val (C.ti T_has).zero) 0 c_213) fun c2_213 =>
 bind1 (tupS [(ofSlots (C.ti T_has) (List.take (C.ti T_has).size c2_213)), (some (.val (.bool false)))]) fun v => some (.ret v, s)))) (
 bind1 (binS (C.ti T_ExpKind) .eql (.val a0) (.val (.int .i64 18))) fun v35_6 =>
 condS v35_6 (
 bindL (boxCells (C.ti T_int) (.val (.int .i64 2))) fun c_214 =>
 bindL (putAt (List.map .val (C.ti T_has).zero) 4 c_214) fun c2_214 =>
 bindL (boxCells (C.ti T_int) (.val (.int .i64 2))) fun c_215 =>
 bindL (putAt c2_214 5 c_215) fun c2_215 =>
 bind1 (ofSlots (C.ti T_has) (List.take (C.ti T_has).size c2_215)) fun v58_105 =>
 bindL (boxCells (C.ti T_has) v58_105) fun c_216 =>
 bindL (putAt c2_215 0 c_216) fun c2_216 =>
 bind1 (tupS [(ofSlots (C.ti T_has) (List.take (C.ti T_has).size c2_216)), (some (.val (.bool true)))]) fun v => some (.ret v, s)) (
 bind1 (binS (C.ti T_ExpKind) .eql (.val a0) (.val (.int .i64 20))) fun v37_27 =>
 condS v37_27 (
 bind1 (ofSlots (C.ti T_has) (List.take (C.ti T_has).size (List.map .val (C.ti T_has).zero))) fun v58_106 =>
 bindL (boxCells (C.ti T_has) v58_106) fun c_217 =>
 bindL (putAt (List.map .val (C.ti T_has).zero) 0 c_217) fun c2_217 =>
 bind1 (tupS [(ofSlots (C.ti T_has) (List.take (C.ti T_has).size c2_217)), (some (.val (.bool true)))]) fun v => some (.ret v, s)) (
 bind1 (ofSlots (C.ti T_has) (List.take (C.ti T_has).size (List.map .val (C.ti T_has).zero))) fun v58_107 =>
 bindL (boxCells (C.ti T_has) v58_107) fun c_218 =>
 bindL (putAt (List.map .val (C.ti T_has).zero) 0 c_218) fun c2_218 =>
 bind1 (tupS [(ofSlots (C.ti T_has) (List.take (C.ti T_has).size c2_218)), (some (.val (.bool false)))]) fun v => some (.ret v, s))))))))) (
 bind1 (binS (C.ti T_ExpKind) .eql (.val a0) (.val (.int .i64 19))) fun v28_1 =>
 condS v28_1 (
 bindL (boxCells (C.ti T_int) (.val (.int .i64 1))) fun c_219 =>
 bindL (putAt (List.map .val (C.ti T_has).zero) 4 c_219) fun c2_219 =>
 bindL (boxCells (C.ti T_int) (.val (.int .i64 1))) fun c_220 =>
 bindL (putAt c2_219 5 c_220) fun c2_220 =>
 bind1 (ofSlots (C.ti T_has) (List.take (C.ti T_has).size c2_220)) fun v58_108 =>
 bindL (boxCells (C.ti T_has) v58_108) fun c_221 =>
 bindL (putAt c2_220 0 c_221) fun c2_221 =>
 bind1 (tupS [(ofSlots (C.ti T_has) (List.take (C.ti T_has).size c2_221)), (some (.val (.bool true)))]) fun v => some (.ret v, s)) (
 bind1 (binS (C.ti T_ExpKind) .eql (.val a0) (.val (.int .i64 13))) fun v30_7 =>
 condS v30_7 (
 bindL (boxCells (C.ti T_bool) (.val (.bool true))) fun c_222 =>
 bindL (putAt (List.map .val (C.ti T_has).zero) 1 c_222) fun c2_222 =>
 bindL (boxCells (C.ti T_int) (.val (.int .i64 2))) fun c_223 =>
 bindL (putAt c2_222 4 c_223) fun c2_223 =>
 bindL (boxCells (C.ti T_int) (.val (.int .i64 2))) fun c_224 =>
 bindL (putAt c2_223 5 c_224) fun c2_224 =>
 bind1 (ofSlots (C.ti T_has) (List.take (C.ti T_has).size c2_224)) fun v58_109 =>
 bindL (boxCells (C.ti T_has) v58_109) fun c_225 =>
 bindL (putAt c2_224 0 c_225) fun c2_225 =>
 bind1 (tupS [(ofSlots (C.ti T_has) (List.take (C.ti T_has).size c2_225)), (some (.val (.bool true)))]) fun v => some (.ret v, s)) (
 bind1 (binS (C.ti T_ExpKind) .eql (.val a0) (.val (.int .i64 6))) fun v32_7 =>
 condS v32_7 (
 condS v32_7 (
 bindL (boxCells (C.ti T_int) (.val (.int .i64 2))) fun c_226 =>
 bindL (putAt (List.map .val (C.ti T_has).zero) 4 c_226) fun c2_226 =>
 bindL (boxCells (C.ti T_int) (.val (.int .i64 2))) fun c_227 =>
 bindL (putAt c2_226 5 c_227) fun c2_227 =>
 bind1 (ofSlots (C.ti T_has) (List.take (C.ti T_has).size c2_227)) fun v58_110 =>
 bindL (boxCells (C.ti T_has) v58_110) fun c_228 =>
 bindL (putAt c2_227 0 c_228) fun c2_228 =>
 bind1 (tupS [(ofSlots (C.ti T_has) (List.take (C.ti T_has).size c2_228)), (some (.val (.bool true)))]) fun v => some (.ret v, s)) (
 bind1 (binS (C.ti T_ExpKind) .eql (.val a0) (.val (.int .i64 20))) fun v37_28 =>
 condS v37_28 (
 bind1 (ofSlots (C.ti T_has) (List.take (C.ti T_has).size (List.map .val (C.ti T_has).zero))) fun v58_111 =>
 bindL (boxCells (C.ti T_has) v58_111) fun c_229 =>
 bindL (putAt (List.map .val (C.ti T_has).zero) 0 c_229) fun c2_229 =>
 bind1 (tupS [(ofSlots (C.ti T_has) (List.take (C.ti T_has).size c2_229)), (some (.val (.bool true)))]) fun v => some (.ret v, s)) (
 bind1 (ofSlots (C.ti T_has) (List.take (C.ti T_has).size (List.map .val (C.ti T_has).zero))) fun v58_112 =>
 bindL (boxCells (C.ti T_has) v58_112) fun c_230 =>
 bindL (putAt (List.map .val (C.ti T_has).zero) 0 c_230) fun c2_230 =>
 bind1 (tupS [(ofSlots (C.ti T_has) (List.take (C.ti T_has).size c2_230)), (some (.val (.bool false)))]) fun v => some (.ret v, s)))) (
 bind1 (binS (C.ti T_ExpKind) .eql (.val a0) (.val (.int .i64 14))) fun v33_7 =>
 condS v33_7 (
 condS v33_7 (
 bindL (boxCells (C.ti T_int) (.val (.int .i64 2))) fun c_231 =>
 bindL (putAt (List.map .val (C.ti T_has).zero) 4 c_231) fun c2_231 =>
 bindL (boxCells (C.ti T_int) (.val (.int .i64 2))) fun c_232 =>
 bindL (putAt c2_231 5 c_232) fun c2_232 =>
 bind1 (ofSlots (C.ti T_has) (List.take (C.ti T_has).size c2_232)) fun v58_113 =>
 bindL (boxCells (C.ti T_has) v58_113) fun c_233 =>
 bindL (putAt c2_232 0 c_233) fun c2_233 =>
 bind1 (tupS [(ofSlots (C.ti T_has) (List.take (C.ti T_has).size c2_233)), (some (.val (.bool true)))]) fun v => some (.ret v, s)) (
 bind1 (binS (C.ti T_ExpKind) .eql (.val a0) (.val (.int .i64 20))) fun v37_29 =>
 condS v37_29 (
 bind1 (ofSlots (C.ti T_has) (List.take (C.ti T_has).size (List.map .val (C.ti T_has).zero))) fun v58_114 =>
 bindL (boxCells (C.ti T_has) v58_114) fun c_234 =>
 bindL (putAt (List.map .val (C.ti T_has).zero) 0 c_234) fun c2_234 =>
 bind1 (tupS [(ofSlots (C.ti T_has) (List.take (C.ti T_has).size c2_234)), (some (.val (.bool true)))]) fun v => some (.ret v, s)) (
 bind1 (ofSlots (C.ti T_has) (List.take (C.ti T_has).size (List.map .val (C.ti T_has).zero))) fun v58_115 =>
 bindL (boxCells (C.ti T_has) v58_115) fun c_235 =>
 bindL (putAt (List.map .val (C.ti T_has).zero) 0 c_235) fun c2_235 =>
 bind1 (tupS [(ofSlots (C.ti T_has) (List.take (C.ti T_has).size c2_235)), (some (.val (.bool false)))]) fun v => some (.ret v, s)))) (
 bind1 (binS (C.ti T_ExpKind) .eql (.val a0) (.val (.int .i64 15))) fun v34_7 =>
 condS v34_7 (
 condS v34_7 (
 bindL (boxCells (C.ti T_int) (.val (.int .i64 2))) fun c_236 =>
 bindL (putAt (List.map .val (C.ti T_has).zero) 4 c_236) fun c2_236 =>
 bindL (boxCells (C.ti T_int) (.val (.int .i64 2))) fun c_237 =>
 bindL (putAt c2_236 5 c_237) fun c2_237 =>
 bind1 (ofSlots (C.ti T_has) (List.take (C.ti T_has).size c2_237)) fun v58_116 =>
 bindL (boxCells (C.ti T_has) v58_116) fun c_238 =>
 bindL (putAt c2_237 0 c_238) fun c2_238 =>
 bind1 (tupS [(ofSlots (C.ti T_has) (List.take (C.ti T_has).size c2_238)), (some (.val (.bool true)))]) fun v => some (.ret v, s)) (
 bind1 (binS (C.ti T_ExpKind) .eql (.val a0) (.val (.int .i64 20))) fun v37_30 =>
 condS v37_30 (
 bind1 (ofSlots (C.ti T_has) (List.take (C.ti T_has).size (List.map .val (C.ti T_has).zero))) fun v58_117 =>
 bindL (boxCells (C.ti T_has) v58_117) fun c_239 =>
 bindL (putAt (List.map .val (C.ti T_has).zero) 0 c_239) fun c2_239 =>
 bind1 (tupS [(ofSlots (C.ti T_has) (List.take (C.ti T_has).size c2_239)), (some (.val (.bool true)))]) fun v => some (.ret v, s)) (
 bind1 (ofSlots (C.ti T_has) (List.take (C.ti T_has).size (List.map .val (C.ti T_has).zero))) fun v58_118 =>
 bindL (boxCells (C.ti T_has) v58_118) fun c_240 =>
 bindL (putAt (List.map .val (C.ti T_has).zero) 0 c_240) fun c2_240 =>
 bind1 (tupS [(ofSlots (C.ti T_has) (List.take (C.ti T_has).size c2_240)), (some (.val (.bool false)))]) fun v => some (.ret v, s)))) (
 bind1 (binS (C.ti T_ExpKind) .eql (.val a0) (.val (.int .i64 18))) fun v35_7 =>
 condS v35_7 (
 bindL (boxCells (C.ti T_int) (.val (.int .i64 2))) fun c_241 =>
 bindL (putAt (List.map .val (C.ti T_has).zero) 4 c_241) fun c2_241 =>
 bindL (boxCells (C.ti T_int) (.val (.int .i64 2))) fun c_242 =>
 bindL (putAt c2_241 5 c_242) fun c2_242 =>
 bind1 (ofSlots (C.ti T_has) (List.take (C.ti T_has).size c2_242)) fun v58_119 =>
 bindL (boxCells (C.ti T_has) v58_119) fun c_243 =>
 bindL (putAt c2_242 0 c_243) fun c2_243 =>
 bind1 (tupS [(ofSlots (C.ti T_has) (List.take (C.ti T_has).size c2_243)), (some (.val (.bool true)))]) fun v => some (.ret v, s)) (
 bind1 (binS (C.ti T_ExpKind) .eql (.val a0) (.val (.int .i64 20))) fun v37_31 =>
 condS v37_31 (
 bind1 (ofSlots (C.ti T_has) (List.take (C.ti T_has).size (List.map .val (C.ti T_has).zero))) fun v58_120 =>
 bindL (boxCells (C.ti T_has) v58_120) fun c_244 =>
 bindL (putAt (List.map .val (C.ti T_has).zero) 0 c_244) fun c2_244 =>
 bind1 (tupS [(ofSlots (C.ti T_has) (List.take (C.ti T_has).size c2_244)), (some (.val (.bool true)))]) fun v => some (.ret v, s)) (
 bind1 (ofSlots (C.ti T_has) (List.take (C.ti T_has).size (List.map .val (C.ti T_has).zero))) fun v58_121 =>
 bindL (boxCells (C.ti T_has) v58_121) fun c_245 =>
 bindL (putAt (List.map .val (C.ti T_has).zero) 0 c_245) fun c2_245 =>
 bind1 (tupS [(ofSlots (C.ti T_has) (List.take (C.ti T_has).size c2_245)), (some (.val (.bool false)))]) fun v => some (.ret v, s))))))))))))))))))))) := (callw_f _ _ _).trans (by kernel_rfl)
/- 141 camlet/tree.constructor -/
theorem tree_constructor_eq (a0 : AV) (s : St) : cw (.f F_tree_constructor) [a0] s =
 ca F_tree_capital [(.val a0)] s fun v4 s_1 =>
 bindB (Slot.isB v4 false) fun w =>
 bindB (Slot.isB v4 false) fun w_1 =>
 bind1 (gd w_1 (binS (C.ti T_string) .eql (gdV w (.val a0)) (.val (.str [116, 114, 117, 101])))) fun v7 =>
 bind1 (pickS v4 (.val (.bool true)) v7) fun v8 =>
 bindB (Slot.isB v8 false) fun w_2 =>
 bindB (Slot.isB v8 false) fun w_3 =>
 bind1 (gd w_3 (binS (C.ti T_string) .eql (gdV w_2 (.val a0)) (.val (.str [102, 97, 108, 115, 101])))) fun v11 =>
 bind1 (pickS v8 (.val (.bool true)) v11) fun v12 =>
 bindB (Slot.isB v12 false) fun w_4 =>
 bindB (Slot.isB v12 false) fun w_5 =>
 bind1 (gd w_5 (binS (C.ti T_string) .eql (gdV w_4 (.val a0)) (.val (.str [40, 41])))) fun v15 =>
 bind1 (pickS v12 (.val (.bool true)) v15) fun v16 =>
 some (.ret v16, s_1) := (callw_f _ _ _).trans (by kernel_rfl)
/- 142 camlet/tree.isInt -/
theorem tree_isInt_eq (a0 : AV) (s : St) : cw (.f F_tree_isInt) [a0] s =
 bn T_int .geq (.val a0) (.val (.int .i64 (-1073741824))) fun v4 =>
 bindB (Slot.isB v4 true) fun w =>
 bindB (Slot.isB v4 true) fun w_1 =>
 bind1 (gd w_1 (binS (C.ti T_int) .leq (gdV w (.val a0)) (.val (.int .i64 1073741823)))) fun v7 =>
 bind1 (pickS v4 v7 (.val (.bool false))) fun v8 =>
 some (.ret v8, s) := (callw_f _ _ _).trans (by kernel_rfl)
/- 143 camlet/camletref01.Wrap -/
noncomputable def ref01_Wrap_j0 : Slot → St → Res := fun x3 s => pw (run C false F_ref01_Wrap (codeAt [.seqR, .seqR, .seqR] (body Go.Proofs.Tryz.f143)) [(3, .s x3)] s (ctxR C false F_ref01_Wrap [.seqR, .seqR, .seqR] (body Go.Proofs.Tryz.f143) (outK C (Go.Proofs.Tryz.f143).results.toList)))
theorem ref01_Wrap_j0_eq : ∀ x3 s_1, ref01_Wrap_j0 x3 s_1 =
 bn T_int .geq x3 (.val (.int .i64 1073741824)) fun v11 =>
 condS v11 (
 bn T_int .sub x3 (.val (.int .i64 2147483648)) fun v13 =>
 some (.ret v13, s_1)) (
 some (.ret x3, s_1)) := by intros; unfold ref01_Wrap_j0; exact (pw_eq _).trans (by kernel_rfl)
theorem ref01_Wrap_eq (a0 : AV) (s : St) : cw (.f F_ref01_Wrap) [a0] s =
 bn T_int .rem (.val a0) (.val (.int .i64 2147483648)) fun v5 =>
 bn T_int .lss v5 (.val (.int .i64 0)) fun v7 =>
 condS v7 (
 bn T_int .add v5 (.val (.int .i64 2147483648)) fun v9 =>
 ref01_Wrap_j0 v9 s) (
 ref01_Wrap_j0 v5 s) := (callw_f _ _ _).trans (by kernel_rfl)
/- 144 camlet/camletref05.letter -/
theorem ref05_letter_eq (a0 : AV) (a1 : AV) (s : St) : cw (.f F_ref05_letter) [a0, a1] s =
 condS (.val a1) (
 bn T_uint8 .geq (.val a0) (.val (.int .u8 65)) fun v7 =>
 bindB (Slot.isB v7 true) fun w =>
 bindB (Slot.isB v7 true) fun w_1 =>
 bind1 (gd w_1 (binS (C.ti T_uint8) .leq (gdV w (.val a0)) (.val (.int .u8 90)))) fun v10 =>
 bind1 (pickS v7 v10 (.val (.bool false))) fun v11 =>
 some (.ret v11, s)) (
 bn T_uint8 .geq (.val a0) (.val (.int .u8 97)) fun v13 =>
 bindB (Slot.isB v13 true) fun w_2 =>
 bindB (Slot.isB v13 true) fun w_3 =>
 bind1 (gd w_3 (binS (C.ti T_uint8) .leq (gdV w_2 (.val a0)) (.val (.int .u8 122)))) fun v16 =>
 bind1 (pickS v13 v16 (.val (.bool false))) fun v17 =>
 bindB (Slot.isB v17 false) fun w_4 =>
 bindB (Slot.isB v17 false) fun w_5 =>
 bind1 (gd w_5 (binS (C.ti T_uint8) .eql (gdV w_4 (.val a0)) (.val (.int .u8 95)))) fun v20 =>
 bind1 (pickS v17 (.val (.bool true)) v20) fun v21 =>
 some (.ret v21, s)) := (callw_f _ _ _).trans (by kernel_rfl)
/- 145 camlet/camletref05.rest -/
theorem ref05_rest_eq (a0 : AV) (s : St) : cw (.f F_ref05_rest) [a0] s =
 bn T_uint8 .geq (.val a0) (.val (.int .u8 97)) fun v4 =>
 bindB (Slot.isB v4 true) fun w =>
 bindB (Slot.isB v4 true) fun w_1 =>
 bind1 (gd w_1 (binS (C.ti T_uint8) .leq (gdV w (.val a0)) (.val (.int .u8 122)))) fun v7 =>
 bind1 (pickS v4 v7 (.val (.bool false))) fun v8 =>
 bindB (Slot.isB v8 false) fun w_2 =>
 bindB (Slot.isB v8 false) fun w_3 =>
 bind1 (gd w_3 (binS (C.ti T_uint8) .geq (gdV w_2 (.val a0)) (.val (.int .u8 65)))) fun v11 =>
 bindB (Slot.isB v8 false) fun w_4 =>
 bindB (Slot.isB (gdV w_4 v11) true) fun w_5 =>
 bindB (Slot.isB (gdV w_4 v11) true) fun w_6 =>
 bind1 (gd w_6 (binS (C.ti T_uint8) .leq (gdV w_5 (.val a0)) (.val (.int .u8 90)))) fun v14 =>
 bindB (Slot.isB v8 false) fun w_7 =>
 bind1 (gd w_7 (pickS (gdV w_4 v11) v14 (.val (.bool false)))) fun v15 =>
 bind1 (pickS v8 (.val (.bool true)) v15) fun v16 =>
 bindB (Slot.isB v16 false) fun w_8 =>
 bindB (Slot.isB v16 false) fun w_9 =>
 bind1 (gd w_9 (binS (C.ti T_uint8) .geq (gdV w_8 (.val a0)) (.val (.int .u8 48)))) fun v19 =>
 bindB (Slot.isB v16 false) fun w_10 =>
 bindB (Slot.isB (gdV w_10 v19) true) fun w_11 =>
 bindB (Slot.isB (gdV w_10 v19) true) fun w_12 =>
 bind1 (gd w_12 (binS (C.ti T_uint8) .leq (gdV w_11 (.val a0)) (.val (.int .u8 57)))) fun v22 =>
 bindB (Slot.isB v16 false) fun w_13 =>
 bind1 (gd w_13 (pickS (gdV w_10 v19) v22 (.val (.bool false)))) fun v23 =>
 bind1 (pickS v16 (.val (.bool true)) v23) fun v24 =>
 bindB (Slot.isB v24 false) fun w_14 =>
 bindB (Slot.isB v24 false) fun w_15 =>
 bind1 (gd w_15 (binS (C.ti T_uint8) .eql (gdV w_14 (.val a0)) (.val (.int .u8 95)))) fun v27 =>
 bind1 (pickS v24 (.val (.bool true)) v27) fun v28 =>
 bindB (Slot.isB v28 false) fun w_16 =>
 bindB (Slot.isB v28 false) fun w_17 =>
 bind1 (gd w_17 (binS (C.ti T_uint8) .eql (gdV w_16 (.val a0)) (.val (.int .u8 39)))) fun v31 =>
 bind1 (pickS v28 (.val (.bool true)) v31) fun v32 =>
 some (.ret v32, s) := (callw_f _ _ _).trans (by kernel_rfl)
/- 146 camlet/tree.great -/
theorem tree_great_eq (a0 : AV) (s : St) : cw (.f F_tree_great) [a0] s =
 bn T_uint8 .geq (.val a0) (.val (.int .u8 65)) fun v4 =>
 bindB (Slot.isB v4 true) fun w =>
 bindB (Slot.isB v4 true) fun w_1 =>
 bind1 (gd w_1 (binS (C.ti T_uint8) .leq (gdV w (.val a0)) (.val (.int .u8 90)))) fun v7 =>
 bind1 (pickS v4 v7 (.val (.bool false))) fun v8 =>
 some (.ret v8, s) := (callw_f _ _ _).trans (by kernel_rfl)
end Go.Proofs.YtinphnakebeloaaGreat

namespace Go.Am
open Go
def smallB (n : Int) : Bool := decide (n ≥ 97) && decide (n ≤ 122) || decide (n = 95)
def greatB (n : Int) : Bool := decide (n ≥ 65) && decide (n ≤ 90)
def unrestB (n : Int) : Bool := !smallB n && !greatB n && (decide (n < 48) || decide (n > 57)) && !decide (n = 39)
def restAll (l : Str) : Bool := l.all fun c => !unrestB c.toNat
def runB (l : Str) : Bool := restAll (l.drop 1) && decide (l.length ≤ 32)
def headB (l : Str) : Int := ((l.headD 0).toNat : Int)
def wordsS : Str := [32, 97, 110, 100, 32, 97, 110, 100, 97, 108, 115, 111, 32, 97, 115, 32, 99, 97, 115, 101, 32, 100, 97, 116, 97, 116, 121, 112, 101, 32, 100, 105, 118, 32, 101, 108, 115, 101, 32, 101, 110, 100, 32, 101, 120, 99, 101, 112, 116, 105, 111, 110, 32, 102, 110, 32, 102, 117, 110, 32, 104, 97, 110, 100, 108, 101, 32, 105, 102, 32, 105, 110, 32, 108, 101, 116, 32, 109, 111, 100, 32, 111, 102, 32, 111, 114, 101, 108, 115, 101, 32, 112, 114, 105, 110, 116, 32, 114, 97, 105, 115, 101, 32, 114, 101, 97, 100, 32, 114, 101, 102, 32, 116, 104, 101, 110, 32, 118, 97, 108, 32, 116, 114, 117, 101, 32, 102, 97, 108, 115, 101, 32, 95, 32]
def lowB (l : Str) : Bool := !decide (l = []) && smallB (headB l) && runB l && !Go.Lib.contains wordsS (32 :: (l ++ [32]))
def capB (l : Str) : Bool := !decide (l = []) && greatB (headB l) && runB l
def conB (l : Str) : Bool := capB l || decide (l = [116, 114, 117, 101]) || decide (l = [102, 97, 108, 115, 101]) || decide (l = [40, 41])
def isIntB (n : Int) : Bool := decide (n ≥ -1073741824) && decide (n ≤ 1073741823)
/-! ### the document's way -/
def letterR (n : Int) (cap : Bool) : Bool := bif cap then decide (n ≥ 65) && decide (n ≤ 90) else decide (n ≥ 97) && decide (n ≤ 122) || decide (n = 95)
def restR (n : Int) : Bool := decide (n ≥ 97) && decide (n ≤ 122) || decide (n ≥ 65) && decide (n ≤ 90) || decide (n ≥ 48) && decide (n ≤ 57) || decide (n = 95) || decide (n = 39)
def shapedR (l : Str) (cap : Bool) : Bool := !(decide ((l.length : Int) < 1) || decide ((l.length : Int) > 32) || !letterR (headB l) cap) && (l.drop 1).all fun c => restR c.toNat
def wordsR : List Str := [[97, 110, 100], [97, 110, 100, 97, 108, 115, 111], [97, 115], [99, 97, 115, 101], [100, 97, 116, 97, 116, 121, 112, 101], [100, 105, 118], [101, 108, 115, 101], [101, 110, 100], [101, 120, 99, 101, 112, 116, 105, 111, 110], [102, 110], [102, 117, 110], [104, 97, 110, 100, 108, 101], [105, 102], [105, 110], [108, 101, 116], [109, 111, 100], [111, 102], [111, 114, 101, 108, 115, 101], [112, 114, 105, 110, 116], [114, 97, 105, 115, 101], [114, 101, 97, 100], [114, 101, 102], [116, 104, 101, 110], [118, 97, 108]]
def amongR (x : Str) (l : List Str) : Bool := l.any fun w => decide (w = x)
def lowR (l : Str) : Bool := shapedR l false && !decide (l = [95]) && !decide (l = [116, 114, 117, 101]) && !decide (l = [102, 97, 108, 115, 101]) && !amongR l wordsR
def capR (l : Str) : Bool := shapedR l true
def conR (l : Str) : Bool := capR l || decide (l = [116, 114, 117, 101]) || decide (l = [102, 97, 108, 115, 101]) || decide (l = [40, 41])
def isR (n low high : Int) : Bool := decide (n ≥ low) && decide (n ≤ high)
/-! ### what is wrong with a node alone: the program's way -/
def tyLM (nm : Str) : Int × Int × Bool :=
  bif decide (nm = [105, 110, 116]) then (0, 0, true) else bif decide (nm = [98, 111, 111, 108]) then (0, 0, true) else bif decide (nm = [117, 110, 105, 116]) then (0, 0, true) else bif decide (nm = [101, 120, 110]) then (0, 0, true) else
  bif decide (nm = [114, 101, 102]) then (1, 1, true) else bif decide (nm = [45, 62]) then (2, 2, true) else bif decide (nm = [42]) then (2, 8, true) else bif !lowB nm then (0, 0, false) else (0, 8, true)
def wrongTyC (k n : Int) (nm : Str) (len : Int) : Int :=
  bif decide (k = 1) && (!decide (nm = []) || decide (len > 0)) || decide (k = 2) && !decide (n = 0) || !decide (k = 1) && !decide (k = 2) then 29
  else bif decide (k = 1) && decide (n < 0) then 2
  else bif decide (k = 1) then 0
  else bif !(tyLM nm).2.2 then 8
  else bif decide (len < (tyLM nm).1) || decide (len > (tyLM nm).2.1) then 19 else 0
def wrongTyB (t : Ty) : Int := wrongTyC t.kind t.n t.name t.args.length
/-- a pattern's kind: has it a name, a number; how few and many parts -/
def patLM (k : Int) : Bool × Bool × Int × Int :=
  bif decide (k = 2) then (true, false, 0, 0) else bif decide (k = 3) then (false, true, 0, 0) else bif decide (k = 4) then (true, false, 0, 1) else bif decide (k = 5) then (false, false, 2, 8) else bif decide (k = 6) then (true, false, 1, 1) else (false, false, 0, 0)
def wrongPatB (p : Pat) : Int :=
  bif decide (p.kind < 1) || decide (p.kind > 6) then 29
  else bif !(patLM p.kind).1 && !decide (p.name = []) || !(patLM p.kind).2.1 && !decide (p.n = 0) || decide ((patLM p.kind).2.2.2 = 0) && decide ((p.kids.length : Int) > 0) then 29
  else bif decide (p.kind = 4) && !conB p.name || (patLM p.kind).1 && !decide (p.kind = 4) && !lowB p.name then 8
  else bif (patLM p.kind).2.1 && !isIntB p.n then 2
  else bif decide ((p.kids.length : Int) < (patLM p.kind).2.2.1) || decide ((p.kids.length : Int) > (patLM p.kind).2.2.2) then 19 else 0
def wrongConB (c : Con) : Int :=
  bif !c.has && (!decide (c.arg.kind = 0) || !decide (c.arg.n = 0) || !decide (c.arg.name = []) || decide ((c.arg.args.length : Int) > 0)) then 29 else bif !capB c.name then 8 else 0
structure Has where
  name : Bool := false
  n : Bool := false
  cases : Bool := false
  decs : Bool := false
  least : Int := 0
  most : Int := 0
def expLM (k : Int) : Has :=
  bif decide (k = 1) then { n := true } else bif decide (k = 2) then { name := true } else bif decide (k = 3) then { name := true, most := 1 } else bif decide (k = 4) then { least := 2, most := 8 } else
  bif decide (k = 5) then { cases := true } else bif decide (k = 10) then { least := 2, most := 4611686018427387904 } else bif decide (k = 8) then { least := 3, most := 3 } else bif decide (k = 7) then { decs := true, least := 1, most := 1 } else
  bif decide (k = 9) || decide (k = 11) then { cases := true, least := 1, most := 1 } else bif decide (k = 12) || decide (k = 16) || decide (k = 17) || decide (k = 19) then { least := 1, most := 1 } else
  bif decide (k = 13) then { n := true, least := 2, most := 2 } else bif decide (k = 6) || decide (k = 14) || decide (k = 15) || decide (k = 18) then { least := 2, most := 2 } else {}
def wrongExpB (e : Exp) : Int :=
  bif decide (e.kind < 1) || decide (e.kind > 20) || !(expLM e.kind).name && !decide (e.name = []) || !(expLM e.kind).n && !decide (e.n = 0) || !(expLM e.kind).cases && decide ((e.cases.length : Int) > 0) || !(expLM e.kind).decs && decide ((e.decs.length : Int) > 0) || decide ((expLM e.kind).most = 0) && decide ((e.kids.length : Int) > 0) then 29
  else bif decide (e.kind = 2) && !lowB e.name || decide (e.kind = 3) && !conB e.name then 8
  else bif decide (e.kind = 1) && !isIntB e.n || decide (e.kind = 13) && (decide (e.n < 1) || decide (e.n > 9)) then 2
  else bif decide ((e.kids.length : Int) < (expLM e.kind).least) || decide ((e.kids.length : Int) > (expLM e.kind).most) || (expLM e.kind).cases && decide ((e.cases.length : Int) = 0) || (expLM e.kind).decs && decide ((e.decs.length : Int) = 0) then 19 else 0
def wrongDecC (k : Int) (nm : Str) (p nl nc nf : Int) (inn : Bool) : Int :=
  bif !(bif decide (k = 1) then !decide (nf > 0) && !(!decide (nm = []) || !decide (p = 0)) && !decide (nl > 0) else bif decide (k = 2) then !decide (nc > 0) && !(!decide (nm = []) || !decide (p = 0)) && !decide (nl > 0) else bif decide (k = 3) then !decide (nc > 0) && !decide (nf > 0) else bif decide (k = 4) then !decide (nc > 0) && !decide (nf > 0) && !(!decide (nm = []) || !decide (p = 0)) else false) || inn && !decide (k = 1) && !decide (k = 2) then 29
  else bif decide (k = 1) then (bif !decide (nc = 1) then 19 else 0)
  else bif decide (k = 2) then (bif !decide (nf > 0) then 19 else 0)
  else bif decide (k = 3) then (bif !lowB nm then 8 else bif !(decide (p ≥ 0) && decide (p ≤ 8) && decide (nl > 0) && decide (nl ≤ 64)) then 19 else 0)
  else bif decide (k = 4) then (bif !decide (nl = 1) then 19 else 0)
  else 0
def wrongDecB (d : Dec) (inn : Bool) : Int := wrongDecC d.kind d.name d.params d.cons.length d.case.length d.funs.length inn
/-! ### nodes -/
inductive TNode where
  | dec (inn : Bool) (d : Dec)
  | exp (e : Exp)
  | pat (p : Pat)
  | ty (t : Ty) (at_ : Int)
  | fn (f : Fun)
  | con (c : Con)
namespace TNode
def at_ : TNode → Int
  | dec _ d => d.at_
  | exp e => e.at_
  | pat p => p.at_
  | ty _ a => a
  | fn f => f.at_
  | con c => c.at_
/-- what is wrong with it alone, and its name -/
def wrong : TNode → Int × Str
  | dec inn d => (wrongDecB d inn, d.name)
  | exp e => (wrongExpB e, e.name)
  | pat p => (wrongPatB p, p.name)
  | ty t _ => (wrongTyB t, t.name)
  | fn f => (bif !lowB f.name then 8 else 0, f.name)
  | con c => (wrongConB c, c.name)
def isNode : TNode → Bool
  | fn _ | con _ => false
  | _ => true
def name : TNode → Str
  | dec _ d => d.name
  | exp e => e.name
  | pat p => p.name
  | ty t _ => t.name
  | fn f => f.name
  | con c => c.name
/-- as the program's walker tells it; 'r': what lies behind the part in memory -/
def thing (r : List AV) : TNode → AV
  | dec inn d => .agg [.cp (d.cells ++ r), .bool inn, .nilp, .nilp, .nilp, .nilp, .nilp, .int .i64 d.at_]
  | exp e => .agg [.nilp, .bool false, .nilp, .nilp, .cp (e.cells ++ r), .nilp, .nilp, .int .i64 e.at_]
  | pat p => .agg [.nilp, .bool false, .nilp, .nilp, .nilp, .cp (p.cells ++ r), .nilp, .int .i64 p.at_]
  | ty t a => .agg [.nilp, .bool false, .nilp, .nilp, .nilp, .nilp, .cp (t.cells ++ r), .int .i64 a]
  | fn f => .agg [.nilp, .bool false, .cp (f.cells ++ r), .nilp, .nilp, .nilp, .nilp, .int .i64 f.at_]
  | con c => .agg [.nilp, .bool false, .nilp, .cp (c.cells ++ r), .nilp, .nilp, .nilp, .int .i64 c.at_]
/-- as the document's list holds it -/
def cells : TNode → List AV
  | dec inn d => .int .i64 1 :: .bool inn :: .int .i64 d.at_ :: (d.cells ++ (Exp.zero.cells ++ (Pat.zero.cells ++ (Ty.zero.cells ++ (Fun.zero.cells ++ Con.zero.cells)))))
  | exp e => .int .i64 2 :: .bool false :: .int .i64 e.at_ :: (Dec.zero.cells ++ (e.cells ++ (Pat.zero.cells ++ (Ty.zero.cells ++ (Fun.zero.cells ++ Con.zero.cells)))))
  | pat p => .int .i64 3 :: .bool false :: .int .i64 p.at_ :: (Dec.zero.cells ++ (Exp.zero.cells ++ (p.cells ++ (Ty.zero.cells ++ (Fun.zero.cells ++ Con.zero.cells)))))
  | ty t a => .int .i64 4 :: .bool false :: .int .i64 a :: (Dec.zero.cells ++ (Exp.zero.cells ++ (Pat.zero.cells ++ (t.cells ++ (Fun.zero.cells ++ Con.zero.cells)))))
  | fn f => .int .i64 5 :: .bool false :: .int .i64 f.at_ :: (Dec.zero.cells ++ (Exp.zero.cells ++ (Pat.zero.cells ++ (Ty.zero.cells ++ (f.cells ++ Con.zero.cells)))))
  | con c => .int .i64 6 :: .bool false :: .int .i64 c.at_ :: (Dec.zero.cells ++ (Exp.zero.cells ++ (Pat.zero.cells ++ (Ty.zero.cells ++ (Fun.zero.cells ++ c.cells)))))
abbrev enc (n : TNode) : AV := .agg n.cells
@[go_sem] theorem cells_len (n : TNode) : n.cells.length = 47 := by
  cases n <;> simp [go_sem, cells, Con.cells, Con.zero, Fun.zero, Case.zero, Exp.zero, Pat.zero, Ty.zero, Dec.zero]
def what : TNode → Int
  | dec _ _ => 1 | exp _ => 2 | pat _ => 3 | ty _ _ => 4 | fn _ => 5 | con _ => 6
def inn : TNode → Bool
  | dec i _ => i
  | _ => false
theorem cells_3 (n : TNode) : n.cells = .int .i64 n.what :: .bool n.inn :: .int .i64 n.at_ :: n.cells.drop 3 := by cases n <;> rfl
theorem what_isNode (n : TNode) : decide (n.what ≤ 4) = n.isNode := by cases n <;> rfl
/-- numbers within their bounds -/
def ok : TNode → Prop
  | dec _ d => d.name.length < 2^40
  | exp e => e.name.length < 2^40 ∧ e.kids.length < 2^40 ∧ -9223372036854775808 ≤ e.n ∧ e.n ≤ 9223372036854775807
  | pat p => p.name.length < 2^40 ∧ -9223372036854775808 ≤ p.n ∧ p.n ≤ 9223372036854775807
  | ty t _ => t.name.length < 2^40
  | fn f => f.name.length < 2^40
  | con c => c.name.length < 2^40
end TNode
/-- what is wrong: which error, where, the name -/
structure TBad where
  kind : Int
  at_ : Int
  name : Str
  deriving DecidableEq
def TBad.cells (b : TBad) : List AV := [.int .i64 b.kind, .int .i64 b.at_, .str b.name]
abbrev TBad.enc (b : TBad) : AV := .agg b.cells
def TBad.zero : TBad := ⟨0, 0, []⟩
def mkBad (e at_ : Int) (nm : Str) : TBad := bif decide (e = 0) then .zero else ⟨e, at_, bif !decide (e = 8) then [] else nm⟩
def TNode.bad (n : TNode) : TBad := mkBad n.wrong.1 n.at_ n.wrong.2
/-! ### the nodes of a tree, in order -/
mutual
def nodesTy (a : Int) : Ty → List TNode
  | .mk k n s l b => .ty (.mk k n s l b) a :: nodesTys a l
def nodesTys (a : Int) : List Ty → List TNode
  | [] => []
  | t :: l => nodesTy a t ++ nodesTys a l
end
mutual
def nodesPat : Pat → List TNode
  | .mk k a s n l b => .pat (.mk k a s n l b) :: nodesPats l
def nodesPats : List Pat → List TNode
  | [] => []
  | t :: l => nodesPat t ++ nodesPats l
end
def nodesCon (c : Con) : List TNode := .con c :: (bif c.has then nodesTy c.at_ c.arg else [])
def nodesCons : List Con → List TNode
  | [] => []
  | c :: l => nodesCon c ++ nodesCons l
mutual
def nodesExp : Exp → List TNode
  | .mk k a s n l lb c cb d db => .exp (.mk k a s n l lb c cb d db) :: (nodesDecs true d ++ (nodesExps l ++ nodesCases c))
def nodesExps : List Exp → List TNode
  | [] => []
  | t :: l => nodesExp t ++ nodesExps l
def nodesCase : Case → List TNode
  | .mk p e => nodesPat p ++ nodesExp e
def nodesCases : List Case → List TNode
  | [] => []
  | t :: l => nodesCase t ++ nodesCases l
def nodesDec (inn : Bool) : Dec → List TNode
  | .mk k a s p l lb c cb f fb => .dec inn (.mk k a s p l lb c cb f fb) :: (nodesCases c ++ (nodesFuns f ++ nodesCons l))
def nodesDecs (inn : Bool) : List Dec → List TNode
  | [] => []
  | t :: l => nodesDec inn t ++ nodesDecs inn l
def nodesFun : Fun → List TNode
  | .mk s a c => .fn (.mk s a c) :: nodesCase c
def nodesFuns : List Fun → List TNode
  | [] => []
  | t :: l => nodesFun t ++ nodesFuns l
end
mutual
theorem nodesTy_len (a : Int) : ∀ t : Ty, (nodesTy a t).length = t.size
  | .mk k n s l b => by have := nodesTys_len a l; simp only [nodesTy, Ty.size, List.length_cons]; omega
theorem nodesTys_len (a : Int) : ∀ l : List Ty, (nodesTys a l).length = Ty.sizes l
  | [] => rfl
  | t :: l => by have h1 := nodesTy_len a t; have h2 := nodesTys_len a l; simp only [nodesTys, Ty.sizes, List.length_append]; omega
end
mutual
theorem nodesPat_len : ∀ t : Pat, (nodesPat t).length = t.size
  | .mk k a s n l b => by have := nodesPats_len l; simp only [nodesPat, Pat.size, List.length_cons]; omega
theorem nodesPats_len : ∀ l : List Pat, (nodesPats l).length = Pat.sizes l
  | [] => rfl
  | t :: l => by have h1 := nodesPat_len t; have h2 := nodesPats_len l; simp only [nodesPats, Pat.sizes, List.length_append]; omega
end
theorem nodesCon_len (c : Con) : (nodesCon c).length ≤ c.size := by
  have := nodesTy_len c.at_ c.arg
  unfold nodesCon Con.size
  cases c.has <;> simp only [cond_true, cond_false, List.length_cons, List.length_nil] <;> omega
theorem nodesCons_len : ∀ l : List Con, (nodesCons l).length ≤ Con.sizes l
  | [] => Nat.le_refl _
  | t :: l => by have h1 := nodesCon_len t; have h2 := nodesCons_len l; simp only [nodesCons, Con.sizes, List.length_append]; omega
mutual
theorem nodesExp_len : ∀ t : Exp, (nodesExp t).length ≤ t.size
  | .mk k a s n l lb c cb d db => by
    have h1 := nodesDecs_len true d; have h2 := nodesExps_len l; have h3 := nodesCases_len c
    simp only [nodesExp, Exp.size, List.length_cons, List.length_append]; omega
theorem nodesExps_len : ∀ l : List Exp, (nodesExps l).length ≤ Exp.sizes l
  | [] => by simp only [nodesExps, Exp.sizes]; exact Nat.le_refl _
  | t :: l => by have h1 := nodesExp_len t; have h2 := nodesExps_len l; simp only [nodesExps, Exp.sizes, List.length_append]; omega
theorem nodesCase_len : ∀ t : Case, (nodesCase t).length ≤ t.size
  | .mk p e => by have h1 := nodesPat_len p; have h2 := nodesExp_len e; simp only [nodesCase, Case.size, List.length_append]; omega
theorem nodesCases_len : ∀ l : List Case, (nodesCases l).length ≤ Case.sizes l
  | [] => by simp only [nodesCases, Case.sizes]; exact Nat.le_refl _
  | t :: l => by have h1 := nodesCase_len t; have h2 := nodesCases_len l; simp only [nodesCases, Case.sizes, List.length_append]; omega
theorem nodesDec_len (inn : Bool) : ∀ t : Dec, (nodesDec inn t).length ≤ t.size
  | .mk k a s p l lb c cb f fb => by
    have h1 := nodesCases_len c; have h2 := nodesFuns_len f; have h3 := nodesCons_len l
    simp only [nodesDec, Dec.size, List.length_cons, List.length_append]; omega
theorem nodesDecs_len (inn : Bool) : ∀ l : List Dec, (nodesDecs inn l).length ≤ Dec.sizes l
  | [] => by simp only [nodesDecs, Dec.sizes]; exact Nat.le_refl _
  | t :: l => by have h1 := nodesDec_len inn t; have h2 := nodesDecs_len inn l; simp only [nodesDecs, Dec.sizes, List.length_append]; omega
theorem nodesFun_len : ∀ t : Fun, (nodesFun t).length ≤ t.size
  | .mk s a c => by have h1 := nodesCase_len c; simp only [nodesFun, Fun.size, List.length_cons]; omega
theorem nodesFuns_len : ∀ l : List Fun, (nodesFuns l).length ≤ Fun.sizes l
  | [] => by simp only [nodesFuns, Fun.sizes]; exact Nat.le_refl _
  | t :: l => by have h1 := nodesFun_len t; have h2 := nodesFuns_len l; simp only [nodesFuns, Fun.sizes, List.length_append]; omega
end
/-! ### how deep -/
theorem maxI_le (a b c : Int) : a ≤ c → b ≤ c → maxI a b ≤ c := by unfold maxI; intros; split <;> omega
theorem le_maxI (a b : Int) : a ≤ maxI a b := by unfold maxI; split <;> omega
mutual
def deepTy : Ty → Int
  | .mk _ _ _ l _ => deepTys l 0 + 1
def deepTys : List Ty → Int → Int
  | [], n => n
  | t :: l, n => deepTys l (maxI n (deepTy t))
end
mutual
def deepPat : Pat → Int
  | .mk _ _ _ _ l _ => deepPats l 0 + 1
def deepPats : List Pat → Int → Int
  | [], n => n
  | t :: l, n => deepPats l (maxI n (deepPat t))
end
def deepCons : List Con → Int → Int
  | [], n => n
  | c :: l, n => deepCons l (bif c.has then maxI n (deepTy c.arg) else n)
mutual
def deepExp : Exp → Int
  | .mk _ _ _ _ l _ c _ d _ => deepExps l (maxI (deepDecs d 0) (deepCases c 0)) + 1
def deepExps : List Exp → Int → Int
  | [], n => n
  | t :: l, n => deepExps l (maxI n (deepExp t))
def deepCases : List Case → Int → Int
  | [], n => n
  | .mk p e :: l, n => deepCases l (maxI (maxI n (deepPat p)) (deepExp e))
def deepDecs : List Dec → Int → Int
  | [], n => n
  | .mk _ _ _ _ l _ c _ f _ :: r, n => deepDecs r (maxI n (deepCons l (deepFuns f (deepCases c 0)) + 1))
def deepFuns : List Fun → Int → Int
  | [], n => n
  | .mk _ _ c :: l, n => deepFuns l (maxI n (deepCase c))
def deepCase : Case → Int
  | .mk p e => maxI (maxI 0 (deepPat p)) (deepExp e)
end
mutual
theorem deepTy_le : ∀ t : Ty, 0 ≤ deepTy t ∧ deepTy t ≤ t.size
  | .mk _ _ _ l _ => by have := deepTys_le l 0; simp only [deepTy, Ty.size] at *; omega
theorem deepTys_le : ∀ (l : List Ty) (n : Int), n ≤ deepTys l n ∧ deepTys l n ≤ max n (Ty.sizes l)
  | [], n => by simp only [deepTys, Ty.sizes]; omega
  | t :: l, n => by
    have h1 := deepTy_le t
    have h2 := deepTys_le l (maxI n (deepTy t))
    simp only [deepTys, Ty.sizes, maxI] at *
    split at h2 <;> split <;> omega
end
mutual
theorem deepPat_le : ∀ t : Pat, 0 ≤ deepPat t ∧ deepPat t ≤ t.size
  | .mk _ _ _ _ l _ => by have := deepPats_le l 0; simp only [deepPat, Pat.size] at *; omega
theorem deepPats_le : ∀ (l : List Pat) (n : Int), n ≤ deepPats l n ∧ deepPats l n ≤ max n (Pat.sizes l)
  | [], n => by simp only [deepPats, Pat.sizes]; omega
  | t :: l, n => by
    have h1 := deepPat_le t
    have h2 := deepPats_le l (maxI n (deepPat t))
    simp only [deepPats, Pat.sizes, maxI] at *
    split at h2 <;> split <;> omega
end
theorem deepCons_le : ∀ (l : List Con) (n : Int), n ≤ deepCons l n ∧ deepCons l n ≤ max n (Con.sizes l)
  | [], n => by simp only [deepCons, Con.sizes]; omega
  | c :: l, n => by
    have h1 := deepTy_le c.arg
    have h2 := deepCons_le l (bif c.has then maxI n (deepTy c.arg) else n)
    simp only [deepCons, Con.sizes, Con.size, maxI] at *
    cases hc : c.has <;> simp only [hc, cond_true, cond_false] at h2 ⊢
    · omega
    · split at h2 <;> split <;> omega
mutual
theorem deepExp_le : ∀ t : Exp, 0 ≤ deepExp t ∧ deepExp t ≤ t.size
  | .mk _ _ _ _ l _ c _ d _ => by
    have h1 := deepDecs_le d 0
    have h2 := deepCases_le c 0
    have h3 := deepExps_le l (maxI (deepDecs d 0) (deepCases c 0))
    simp only [deepExp, Exp.size, maxI] at *
    split at h3 <;> split <;> omega
theorem deepExps_le : ∀ (l : List Exp) (n : Int), n ≤ deepExps l n ∧ deepExps l n ≤ max n (Exp.sizes l)
  | [], n => by simp only [deepExps, Exp.sizes]; omega
  | t :: l, n => by
    have h1 := deepExp_le t
    have h2 := deepExps_le l (maxI n (deepExp t))
    simp only [deepExps, Exp.sizes, maxI] at *
    split at h2 <;> split <;> omega
theorem deepCases_le : ∀ (l : List Case) (n : Int), n ≤ deepCases l n ∧ deepCases l n ≤ max n (Case.sizes l)
  | [], n => by simp only [deepCases, Case.sizes]; omega
  | .mk p e :: l, n => by
    have h1 := deepPat_le p
    have h3 := deepExp_le e
    have h2 := deepCases_le l (maxI (maxI n (deepPat p)) (deepExp e))
    have h4 := le_maxI n (deepPat p)
    have h5 := le_maxI (maxI n (deepPat p)) (deepExp e)
    have h6 := maxI_le n (deepPat p) (max n (p.size + e.size)) (by omega) (by omega)
    have h7 := maxI_le (maxI n (deepPat p)) (deepExp e) (max n (p.size + e.size)) (by omega) (by omega)
    simp only [deepCases, Case.sizes, Case.size] at *
    omega
theorem deepDecs_le : ∀ (l : List Dec) (n : Int), n ≤ deepDecs l n ∧ deepDecs l n ≤ max n (Dec.sizes l)
  | [], n => by simp only [deepDecs, Dec.sizes]; omega
  | .mk _ _ _ _ l _ c _ f _ :: r, n => by
    have h1 := deepCases_le c 0
    have h2 := deepFuns_le f (deepCases c 0)
    have h3 := deepCons_le l (deepFuns f (deepCases c 0))
    have h4 := deepDecs_le r (maxI n (deepCons l (deepFuns f (deepCases c 0)) + 1))
    have h5 := le_maxI n (deepCons l (deepFuns f (deepCases c 0)) + 1)
    have h6 := maxI_le n (deepCons l (deepFuns f (deepCases c 0)) + 1) (max n (Con.sizes l + Case.sizes c + Fun.sizes f + 1)) (by omega) (by omega)
    simp only [deepDecs, Dec.sizes, Dec.size] at *
    omega
theorem deepFuns_le : ∀ (l : List Fun) (n : Int), n ≤ deepFuns l n ∧ deepFuns l n ≤ max n (Fun.sizes l)
  | [], n => by simp only [deepFuns, Fun.sizes]; omega
  | .mk _ _ c :: l, n => by
    have h1 := deepCase_le c
    have h2 := deepFuns_le l (maxI n (deepCase c))
    simp only [deepFuns, Fun.sizes, Fun.size, maxI] at *
    split at h2 <;> split <;> omega
theorem deepCase_le : ∀ (c : Case), 0 ≤ deepCase c ∧ deepCase c ≤ c.size
  | .mk p e => by
    have h1 := deepPat_le p
    have h2 := deepExp_le e
    have h3 := le_maxI 0 (deepPat p)
    have h4 := le_maxI (maxI 0 (deepPat p)) (deepExp e)
    have h6 := maxI_le 0 (deepPat p) (p.size + e.size) (by omega) (by omega)
    have h7 := maxI_le (maxI 0 (deepPat p)) (deepExp e) (p.size + e.size) (by omega) (by omega)
    simp only [deepCase, Case.size]
    omega
end
theorem maxI_eq (a b : Int) : maxI a b = max a b := by unfold maxI; split <;> omega
theorem deepExps_acc : ∀ (l : List Exp) (n m : Int), deepExps l (max n m) = max n (deepExps l m)
  | [], n, m => by simp only [deepExps]
  | t :: l, n, m => by
    simp only [deepExps, maxI_eq]
    rw [← deepExps_acc l n]
    congr 1
    omega
theorem deepCases_acc : ∀ (l : List Case) (n m : Int), deepCases l (max n m) = max n (deepCases l m)
  | [], n, m => by simp only [deepCases]
  | .mk p e :: l, n, m => by
    simp only [deepCases, maxI_eq]
    rw [← deepCases_acc l n]
    congr 1
    omega
theorem deepExp_alt (l : List Exp) (c : List Case) (d : List Dec) : deepCases c (deepExps l (deepDecs d 0)) = deepExps l (maxI (deepDecs d 0) (deepCases c 0)) := by
  have h1 := deepDecs_le d 0
  have h2 := deepExps_le l (deepDecs d 0)
  rw [maxI_eq, show deepExps l (deepDecs d 0) = max (deepExps l (deepDecs d 0)) 0 by omega, deepCases_acc]
  rw [Int.max_comm (deepDecs d 0), deepExps_acc]
  omega
theorem deepCase_alt (c : Case) (n : Int) (h : 0 ≤ n) : maxI (maxI n (deepPat c.pat)) (deepExp c.exp) = maxI n (deepCase c) := by
  obtain ⟨p, e⟩ := c
  simp only [Case.pat, Case.exp, deepCase, maxI_eq]
  omega
/-! ### what is wrong first -/
def countN (l : List TNode) : Nat := (l.filter TNode.isNode).length
def firstBad : List TNode → TBad
  | [] => .zero
  | n :: l => bif decide (n.bad.kind = 0) then firstBad l else n.bad
def rightN (l : List TNode) (deep : Int) : TBad :=
  bif decide (countN l > 8192) then ⟨4, 0, []⟩ else bif decide (deep > 100) then ⟨7, 0, []⟩ else firstBad l
end Go.Am

namespace Go.Am
open Go
section
variable {H : Type} {ti : TypeId → TI}
def Fields (ti : TypeId → TI) (n : Nat) : List (Nat × TypeId) → List (DataW H) → List (List AV) → Prop
  | [], [], [] => True
  | f :: fs, d :: ds, l :: ls => conv ti n f.2 d = some l ∧ Fields ti n fs ds ls
  | _, _, _ => False
theorem fields_of (n : Nat) : ∀ (fs : List (Nat × TypeId)) (ds : List (DataW H)) (ls : List (List AV)), fs.length = ds.length → ((fs.zip ds).mapM fun p => conv ti n p.1.2 p.2) = some ls → Fields ti n fs ds ls
  | [], [], ls, _, h => by simp at h; subst h; trivial
  | f :: fs, d :: ds, ls, hl, h => by
    rw [List.zip_cons_cons, List.mapM_cons] at h
    cases h1 : conv ti n f.2 d with
    | none => simp [h1] at h
    | some l =>
      cases h2 : ((fs.zip ds).mapM fun p => conv ti n p.1.2 p.2) with
      | none => simp [h1, h2] at h
      | some ls' =>
        simp [h1, h2] at h
        subst h
        exact ⟨h1, fields_of n fs ds ls' (by simpa using hl) h2⟩
  | [], _ :: _, _, hl, _ => by simp at hl
  | _ :: _, [], _, hl, _ => by simp at hl
theorem conv_struct {n : Nat} {t : TypeId} {d : DataW H} {l : List AV} {fs : List (Nat × TypeId)} (hk : (ti t).k = .struct fs) (h : conv ti (n + 1) t d = some l) : ∃ parts ls, d = .agg parts ∧ Fields ti n fs parts ls ∧ l = ls.flatten := by
  simp only [conv, hk] at h
  split at h <;> first | (cases h; done) | skip
  all_goals try (rename_i hx; cases hx; done)
  rename_i fs' parts hx
  cases hx
  split at h
  · rename_i hl
    obtain ⟨ls, h1, rfl⟩ := Option.map_eq_some_iff.1 h
    exact ⟨parts, ls, rfl, fields_of n _ _ _ hl h1, rfl⟩
  · cases h
theorem conv_int {n : Nat} {t : TypeId} {d : DataW H} {l : List AV} {k : IntKind} (hk : (ti t).k = .int k) (h : conv ti n t d = some l) : ∃ x, d = .lit (.int k x) ∧ l = [.int k x] ∧ (Lit.int k x).wf = true := by
  cases n with
  | zero => simp [conv] at h
  | succ n =>
    simp only [conv, hk] at h
    split at h <;> first | (cases h; done) | skip
    all_goals try (rename_i hx; cases hx; done)
    rename_i k' j x hx
    cases hx
    split at h
    · rename_i hc
      obtain ⟨rfl, hc⟩ := hc
      cases h
      exact ⟨x, rfl, rfl, hc⟩
    · cases h
theorem conv_bool {n : Nat} {t : TypeId} {d : DataW H} {l : List AV} (hk : (ti t).k = .bool) (h : conv ti n t d = some l) : ∃ b, d = .lit (.bool b) ∧ l = [.bool b] := by
  cases n with
  | zero => simp [conv] at h
  | succ n =>
    simp only [conv, hk] at h
    split at h <;> first | (cases h; done) | skip
    all_goals try (rename_i hx; cases hx; done)
    rename_i b hx
    cases h
    exact ⟨b, rfl, rfl⟩
theorem conv_str {n : Nat} {t : TypeId} {d : DataW H} {l : List AV} (hk : (ti t).k = .str) (h : conv ti n t d = some l) : ∃ s, d = .lit (.string s) ∧ l = [.str s] := by
  cases n with
  | zero => simp [conv] at h
  | succ n =>
    simp only [conv, hk] at h
    split at h <;> first | (cases h; done) | skip
    all_goals try (rename_i hx; cases hx; done)
    rename_i s hx
    split at h
    · cases h
      exact ⟨s, rfl, rfl⟩
    · cases h
theorem conv_slice {n : Nat} {t e : TypeId} {d : DataW H} {l : List AV} (hk : (ti t).k = .slice e) (h : conv ti (n + 1) t d = some l) : (d = .nil ∧ l = [.nils]) ∨ ∃ elems spare xs, d = .slice elems spare ∧ (elems.mapM fun d => (conv ti n e d).bind (ofCells (ti e))) = some xs ∧ l = [.sl xs] := by
  simp only [conv, hk] at h
  split at h <;> first | (cases h; done) | skip
  all_goals try (rename_i hx; cases hx; done)
  · cases h
    exact .inl ⟨rfl, rfl⟩
  · rename_i e' elems spare hx
    cases hx
    split at h
    · obtain ⟨xs, h1, rfl⟩ := Option.map_eq_some_iff.1 h
      exact .inr ⟨elems, spare, xs, rfl, h1, rfl⟩
    · cases h
end
end Go.Am
namespace Go.Proofs.YtinphnakebeloaaGreat
open Go Go.Am
set_option linter.unusedVariables false
set_option maxRecDepth 4000
section
variable {H : Type}
theorem elems_dec {τ : Type} {cells : τ → List AV} {G : Nat → τ → Prop} {GL : Nat → List τ → Prop} {e : TypeId} {n : Nat} (ha : (C.ti e).isAgg = true) (h0 : GL 0 []) (h1 : ∀ m k t L, G m t → GL k L → GL (m + k) (t :: L))
    (he : ∀ (d : DataW H) l, conv C.ti n e d = some l → Rows.uptoBulk d < 2^30 → ∃ t, l = cells t ∧ G (Rows.uptoBulk d) t) : ∀ (ds : List (DataW H)) (xs : List AV), (ds.mapM fun d => (conv C.ti n e d).bind (ofCells (C.ti e))) = some xs → Rows.uptoBulkAll ds < 2^30 → ∃ L, xs = L.map (fun t => .agg (cells t)) ∧ GL (Rows.uptoBulkAll ds) L
  | [], xs, h, _ => by simp at h; subst h; exact ⟨[], rfl, by simpa only [Rows.uptoBulkAll] using h0⟩
  | d :: ds, xs, h, hb => by
    simp only [Rows.uptoBulkAll] at hb ⊢
    rw [List.mapM_cons] at h
    cases h2 : (conv C.ti n e d) with
    | none => simp [h2] at h
    | some l =>
      obtain ⟨t, rfl, ht⟩ := he d l h2 (by omega)
      cases h3 : ofCells (C.ti e) (cells t) with
      | none => simp [h2, h3] at h
      | some v =>
        cases h4 : (ds.mapM fun d => (conv C.ti n e d).bind (ofCells (C.ti e))) with
        | none => simp [h2, h3, h4] at h
        | some ys =>
          simp [h2, h3, h4] at h
          subst h
          obtain ⟨L, rfl, hL⟩ := elems_dec ha h0 h1 he ds ys h4 (by omega)
          have : v = .agg (cells t) := by
            unfold ofCells at h3
            rw [ha, cond_true] at h3
            split at h3 <;> cases h3
            rfl
          subst this
          exact ⟨t :: L, rfl, h1 _ _ _ _ ht hL⟩
theorem slice_dec {τ : Type} {cells : τ → List AV} {G : Nat → τ → Prop} {GL : Nat → List τ → Prop} {t e : TypeId} {n : Nat} (hk : (C.ti t).k = .slice e) (ha : (C.ti e).isAgg = true) (h0 : GL 0 []) (h1 : ∀ m k t L, G m t → GL k L → GL (m + k) (t :: L))
    (he : ∀ (d : DataW H) l, conv C.ti n e d = some l → Rows.uptoBulk d < 2^30 → ∃ t, l = cells t ∧ G (Rows.uptoBulk d) t) (d : DataW H) (l : List AV) (h : conv C.ti (n + 1) t d = some l) (hb : Rows.uptoBulk d < 2^30) : ∃ L b k, l = [encS b (L.map fun t => .agg (cells t))] ∧ GL k L ∧ k + 1 ≤ Rows.uptoBulk d := by
  rcases conv_slice hk h with ⟨rfl, rfl⟩ | ⟨elems, spare, xs, rfl, h2, rfl⟩
  · exact ⟨[], true, 0, rfl, h0, by simp only [Rows.uptoBulk]; omega⟩
  · simp only [Rows.uptoBulk] at hb ⊢
    obtain ⟨L, rfl, hL⟩ := elems_dec ha h0 h1 he elems xs h2 (by omega)
    exact ⟨L, false, _, rfl, hL, by omega⟩
def GTy (b : Nat) (t : Ty) : Prop := t.size ≤ b ∧ ∀ a, ∀ n ∈ nodesTy a t, n.ok
def GTys (b : Nat) (l : List Ty) : Prop := Ty.sizes l ≤ b ∧ ∀ a, ∀ n ∈ nodesTys a l, n.ok
theorem GTys.nil : GTys 0 [] := ⟨Nat.le_refl _, by simp [nodesTys]⟩
theorem GTys.cons (m k : Nat) (t : Ty) (L : List Ty) (h : GTy m t) (g : GTys k L) : GTys (m + k) (t :: L) := by
  refine ⟨by have := h.1; have := g.1; simp only [Ty.sizes]; omega, fun a n hn => ?_⟩
  simp only [nodesTys, List.mem_append] at hn
  rcases hn with hn | hn
  · exact h.2 a n hn
  · exact g.2 a n hn
theorem dec_ty : ∀ (n : Nat) (d : DataW H) l, conv C.ti n T_Ty d = some l → Rows.uptoBulk d < 2^30 → ∃ t : Ty, l = t.cells ∧ GTy (Rows.uptoBulk d) t
  | 0, d, l, h, _ => by simp [conv] at h
  | 1, d, l, h, _ => by
    obtain ⟨parts, ls, rfl, hf, rfl⟩ := conv_struct T_Ty_k h
    rcases parts with _ | ⟨d1, _ | ⟨d2, _ | ⟨d3, _ | ⟨d4, _ | _⟩⟩⟩⟩ <;> rcases ls with _ | ⟨l1, _ | ⟨l2, _ | ⟨l3, _ | ⟨l4, _ | _⟩⟩⟩⟩ <;> simp only [Fields, and_false] at hf
    simp [conv] at hf
  | n + 2, d, l, h, hb => by
    obtain ⟨parts, ls, rfl, hf, rfl⟩ := conv_struct T_Ty_k h
    rcases parts with _ | ⟨d1, _ | ⟨d2, _ | ⟨d3, _ | ⟨d4, _ | _⟩⟩⟩⟩ <;> rcases ls with _ | ⟨l1, _ | ⟨l2, _ | ⟨l3, _ | ⟨l4, _ | _⟩⟩⟩⟩ <;> simp only [Fields, and_false] at hf
    obtain ⟨c1, c2, c3, c4, -⟩ := hf
    simp only [Rows.uptoBulk, Rows.uptoBulkAll] at hb ⊢
    obtain ⟨k, rfl, rfl, w1⟩ := conv_int T_TyKind_k c1
    obtain ⟨m, rfl, rfl, w2⟩ := conv_int T_int_k c2
    obtain ⟨s, rfl, rfl⟩ := conv_str T_string_k c3
    simp only [Rows.uptoBulk] at hb ⊢
    obtain ⟨L, b, k', rfl, hL, hk⟩ := slice_dec T_S_Ty_k T_Ty_agg GTys.nil GTys.cons (fun d l h hb => dec_ty n d l h hb) d4 l4 c4 (by omega)
    refine ⟨.mk k m s L b, by rw [Ty.cells_mk]; rfl, by have := hL.1; simp only [Ty.size]; omega, fun a nd hn => ?_⟩
    simp only [nodesTy, List.mem_cons] at hn
    rcases hn with rfl | hn
    · simp only [TNode.ok, Ty.name]; omega
    · exact hL.2 a nd hn
theorem wf64 {x : Int} (h : (Lit.int .i64 x).wf = true) : -9223372036854775808 ≤ x ∧ x ≤ 9223372036854775807 := by
  simp only [Lit.wf, Bool.and_eq_true, decide_eq_true_eq] at h
  exact h
def GPat (b : Nat) (t : Pat) : Prop := t.size ≤ b ∧ ∀ n ∈ nodesPat t, n.ok
def GPats (b : Nat) (l : List Pat) : Prop := Pat.sizes l ≤ b ∧ ∀ n ∈ nodesPats l, n.ok
theorem GPats.nil : GPats 0 [] := ⟨Nat.le_refl _, by simp [nodesPats]⟩
theorem GPats.cons (m k : Nat) (t : Pat) (L : List Pat) (h : GPat m t) (g : GPats k L) : GPats (m + k) (t :: L) := by
  refine ⟨by have := h.1; have := g.1; simp only [Pat.sizes]; omega, fun n hn => ?_⟩
  simp only [nodesPats, List.mem_append] at hn
  rcases hn with hn | hn
  · exact h.2 n hn
  · exact g.2 n hn
theorem dec_pat : ∀ (n : Nat) (d : DataW H) l, conv C.ti n T_Pat d = some l → Rows.uptoBulk d < 2^30 → ∃ t : Pat, l = t.cells ∧ GPat (Rows.uptoBulk d) t
  | 0, d, l, h, _ => by simp [conv] at h
  | 1, d, l, h, _ => by
    obtain ⟨parts, ls, rfl, hf, rfl⟩ := conv_struct T_Pat_k h
    rcases parts with _ | ⟨d1, _ | ⟨d2, _ | ⟨d3, _ | ⟨d4, _ | ⟨d5, _ | _⟩⟩⟩⟩⟩ <;> rcases ls with _ | ⟨l1, _ | ⟨l2, _ | ⟨l3, _ | ⟨l4, _ | ⟨l5, _ | _⟩⟩⟩⟩⟩ <;> simp only [Fields, and_false] at hf
    simp [conv] at hf
  | n + 2, d, l, h, hb => by
    obtain ⟨parts, ls, rfl, hf, rfl⟩ := conv_struct T_Pat_k h
    rcases parts with _ | ⟨d1, _ | ⟨d2, _ | ⟨d3, _ | ⟨d4, _ | ⟨d5, _ | _⟩⟩⟩⟩⟩ <;> rcases ls with _ | ⟨l1, _ | ⟨l2, _ | ⟨l3, _ | ⟨l4, _ | ⟨l5, _ | _⟩⟩⟩⟩⟩ <;> simp only [Fields, and_false] at hf
    obtain ⟨c1, c2, c3, c4, c5, -⟩ := hf
    simp only [Rows.uptoBulk, Rows.uptoBulkAll] at hb ⊢
    obtain ⟨k, rfl, rfl, w1⟩ := conv_int T_PatKind_k c1
    obtain ⟨a, rfl, rfl, w2⟩ := conv_int T_int_k c2
    obtain ⟨s, rfl, rfl⟩ := conv_str T_string_k c3
    obtain ⟨m, rfl, rfl, w4⟩ := conv_int T_int_k c4
    simp only [Rows.uptoBulk] at hb ⊢
    obtain ⟨L, b, k', rfl, hL, hk⟩ := slice_dec T_S_Pat_k T_Pat_agg GPats.nil GPats.cons (fun d l h hb => dec_pat n d l h hb) d5 l5 c5 (by omega)
    refine ⟨.mk k a s m L b, by rw [Pat.cells_mk]; rfl, by have := hL.1; simp only [Pat.size]; omega, fun nd hn => ?_⟩
    simp only [nodesPat, List.mem_cons] at hn
    rcases hn with rfl | hn
    · exact ⟨by simp only [Pat.name]; omega, wf64 w4⟩
    · exact hL.2 nd hn
def GCon (b : Nat) (t : Con) : Prop := t.size ≤ b ∧ ∀ n ∈ nodesCon t, n.ok
def GCons (b : Nat) (l : List Con) : Prop := Con.sizes l ≤ b ∧ ∀ n ∈ nodesCons l, n.ok
theorem GCons.nil : GCons 0 [] := ⟨Nat.le_refl _, by simp [nodesCons]⟩
theorem GCons.cons (m k : Nat) (t : Con) (L : List Con) (h : GCon m t) (g : GCons k L) : GCons (m + k) (t :: L) := by
  refine ⟨by have := h.1; have := g.1; simp only [Con.sizes]; omega, fun n hn => ?_⟩
  simp only [nodesCons, List.mem_append] at hn
  rcases hn with hn | hn
  · exact h.2 n hn
  · exact g.2 n hn
theorem dec_con : ∀ (n : Nat) (d : DataW H) l, conv C.ti n T_Con d = some l → Rows.uptoBulk d < 2^30 → ∃ t : Con, l = t.cells ∧ GCon (Rows.uptoBulk d) t
  | 0, d, l, h, _ => by simp [conv] at h
  | n + 1, d, l, h, hb => by
    obtain ⟨parts, ls, rfl, hf, rfl⟩ := conv_struct T_Con_k h
    rcases parts with _ | ⟨d1, _ | ⟨d2, _ | ⟨d3, _ | ⟨d4, _ | _⟩⟩⟩⟩ <;> rcases ls with _ | ⟨l1, _ | ⟨l2, _ | ⟨l3, _ | ⟨l4, _ | _⟩⟩⟩⟩ <;> simp only [Fields, and_false] at hf
    obtain ⟨c1, c2, c3, c4, -⟩ := hf
    simp only [Rows.uptoBulk, Rows.uptoBulkAll] at hb ⊢
    obtain ⟨s, rfl, rfl⟩ := conv_str T_string_k c1
    obtain ⟨a, rfl, rfl, w2⟩ := conv_int T_int_k c2
    obtain ⟨hs, rfl, rfl⟩ := conv_bool T_bool_k c3
    simp only [Rows.uptoBulk] at hb ⊢
    obtain ⟨t, rfl, ht⟩ := dec_ty n d4 l4 c4 (by omega)
    refine ⟨⟨s, a, hs, t⟩, by simp [Con.cells], by have := ht.1; simp only [Con.size]; omega, fun nd hn => ?_⟩
    simp only [nodesCon, List.mem_cons] at hn
    rcases hn with rfl | hn
    · simp only [TNode.ok]; omega
    · cases hs
      · simp at hn
      · exact ht.2 _ nd hn
def GExp (b : Nat) (t : Exp) : Prop := t.size ≤ b ∧ ∀ n ∈ nodesExp t, n.ok
def GExps (b : Nat) (l : List Exp) : Prop := Exp.sizes l ≤ b ∧ ∀ n ∈ nodesExps l, n.ok
def GCase (b : Nat) (t : Case) : Prop := t.size ≤ b ∧ ∀ n ∈ nodesCase t, n.ok
def GCases (b : Nat) (l : List Case) : Prop := Case.sizes l ≤ b ∧ ∀ n ∈ nodesCases l, n.ok
def GDec (b : Nat) (t : Dec) : Prop := t.size ≤ b ∧ ∀ i, ∀ n ∈ nodesDec i t, n.ok
def GDecs (b : Nat) (l : List Dec) : Prop := Dec.sizes l ≤ b ∧ ∀ i, ∀ n ∈ nodesDecs i l, n.ok
def GFun (b : Nat) (t : Fun) : Prop := t.size ≤ b ∧ ∀ n ∈ nodesFun t, n.ok
def GFuns (b : Nat) (l : List Fun) : Prop := Fun.sizes l ≤ b ∧ ∀ n ∈ nodesFuns l, n.ok
theorem GDecs.nil : GDecs 0 [] := ⟨by simp [Dec.sizes], by simp [nodesDecs]⟩
theorem GDecs.cons (m k : Nat) (t : Dec) (L : List Dec) (h : GDec m t) (g : GDecs k L) : GDecs (m + k) (t :: L) := by
  refine ⟨by have := h.1; have := g.1; simp only [Dec.sizes]; omega, fun i n hn => ?_⟩
  simp only [nodesDecs, List.mem_append] at hn
  rcases hn with hn | hn
  · exact h.2 i n hn
  · exact g.2 i n hn
theorem GExps.nil : GExps 0 [] := ⟨by simp [Exp.sizes], by simp [nodesExps]⟩
theorem GExps.cons (m k : Nat) (t : Exp) (L : List Exp) (h : GExp m t) (g : GExps k L) : GExps (m + k) (t :: L) := by
  refine ⟨by have := h.1; have := g.1; simp only [Exp.sizes]; omega, fun n hn => ?_⟩
  simp only [nodesExps, List.mem_append] at hn
  rcases hn with hn | hn
  · exact h.2 n hn
  · exact g.2 n hn
theorem GCases.nil : GCases 0 [] := ⟨by simp [Case.sizes], by simp [nodesCases]⟩
theorem GCases.cons (m k : Nat) (t : Case) (L : List Case) (h : GCase m t) (g : GCases k L) : GCases (m + k) (t :: L) := by
  refine ⟨by have := h.1; have := g.1; simp only [Case.sizes]; omega, fun n hn => ?_⟩
  simp only [nodesCases, List.mem_append] at hn
  rcases hn with hn | hn
  · exact h.2 n hn
  · exact g.2 n hn
theorem GFuns.nil : GFuns 0 [] := ⟨by simp [Fun.sizes], by simp [nodesFuns]⟩
theorem GFuns.cons (m k : Nat) (t : Fun) (L : List Fun) (h : GFun m t) (g : GFuns k L) : GFuns (m + k) (t :: L) := by
  refine ⟨by have := h.1; have := g.1; simp only [Fun.sizes]; omega, fun n hn => ?_⟩
  simp only [nodesFuns, List.mem_append] at hn
  rcases hn with hn | hn
  · exact h.2 n hn
  · exact g.2 n hn
structure DecAll (H : Type) (n : Nat) : Prop where
  exp : ∀ (d : DataW H) l, conv C.ti n T_Exp d = some l → Rows.uptoBulk d < 2^30 → ∃ t : Exp, l = t.cells ∧ GExp (Rows.uptoBulk d) t
  case : ∀ (d : DataW H) l, conv C.ti n T_Case d = some l → Rows.uptoBulk d < 2^30 → ∃ t : Case, l = t.cells ∧ GCase (Rows.uptoBulk d) t
  dec : ∀ (d : DataW H) l, conv C.ti n T_Dec d = some l → Rows.uptoBulk d < 2^30 → ∃ t : Dec, l = t.cells ∧ GDec (Rows.uptoBulk d) t
  fn : ∀ (d : DataW H) l, conv C.ti n T_Fun d = some l → Rows.uptoBulk d < 2^30 → ∃ t : Fun, l = t.cells ∧ GFun (Rows.uptoBulk d) t
theorem dec_exp2 (n : Nat) (ih : DecAll H n) : ∀ (d : DataW H) l, conv C.ti (n + 2) T_Exp d = some l → Rows.uptoBulk d < 2^30 → ∃ t : Exp, l = t.cells ∧ GExp (Rows.uptoBulk d) t := fun d l h hb => by
    obtain ⟨parts, ls, rfl, hf, rfl⟩ := conv_struct T_Exp_k h
    rcases parts with _ | ⟨d1, _ | ⟨d2, _ | ⟨d3, _ | ⟨d4, _ | ⟨d5, _ | ⟨d6, _ | ⟨d7, _ | _⟩⟩⟩⟩⟩⟩⟩ <;> rcases ls with _ | ⟨l1, _ | ⟨l2, _ | ⟨l3, _ | ⟨l4, _ | ⟨l5, _ | ⟨l6, _ | ⟨l7, _ | _⟩⟩⟩⟩⟩⟩⟩ <;> simp only [Fields, and_false] at hf
    obtain ⟨c1, c2, c3, c4, c5, c6, c7, -⟩ := hf
    simp only [Rows.uptoBulk, Rows.uptoBulkAll] at hb ⊢
    obtain ⟨k, rfl, rfl, w1⟩ := conv_int T_ExpKind_k c1
    obtain ⟨a, rfl, rfl, w2⟩ := conv_int T_int_k c2
    obtain ⟨s, rfl, rfl⟩ := conv_str T_string_k c3
    obtain ⟨m, rfl, rfl, w4⟩ := conv_int T_int_k c4
    simp only [Rows.uptoBulk] at hb ⊢
    obtain ⟨L, b, k', rfl, hL, hk⟩ := slice_dec T_S_Exp_k T_Exp_agg GExps.nil GExps.cons ih.exp d5 l5 c5 (by omega)
    obtain ⟨L2, b2, k2', rfl, hL2, hk2⟩ := slice_dec T_S_Case_k T_Case_agg GCases.nil GCases.cons ih.case d6 l6 c6 (by omega)
    obtain ⟨L3, b3, k3', rfl, hL3, hk3⟩ := slice_dec T_S_Dec_k T_Dec_agg GDecs.nil GDecs.cons ih.dec d7 l7 c7 (by omega)
    refine ⟨.mk k a s m L b L2 b2 L3 b3, by rw [Exp.cells_mk]; rfl, by have := hL.1; have := hL2.1; have := hL3.1; simp only [Exp.size]; omega, fun nd hn => ?_⟩
    simp only [nodesExp, List.mem_cons, List.mem_append] at hn
    rcases hn with rfl | hn | hn | hn
    · have h1 := hL.1
      have h2 := Exp.len_sizes L
      exact ⟨by simp only [Exp.name]; omega, by simp only [Exp.kids]; omega, wf64 w4⟩
    · exact hL3.2 _ nd hn
    · exact hL.2 nd hn
    · exact hL2.2 nd hn
theorem dec_dec2 (n : Nat) (ih : DecAll H n) : ∀ (d : DataW H) l, conv C.ti (n + 2) T_Dec d = some l → Rows.uptoBulk d < 2^30 → ∃ t : Dec, l = t.cells ∧ GDec (Rows.uptoBulk d) t := fun d l h hb => by
    obtain ⟨parts, ls, rfl, hf, rfl⟩ := conv_struct T_Dec_k h
    rcases parts with _ | ⟨d1, _ | ⟨d2, _ | ⟨d3, _ | ⟨d4, _ | ⟨d5, _ | ⟨d6, _ | ⟨d7, _ | _⟩⟩⟩⟩⟩⟩⟩ <;> rcases ls with _ | ⟨l1, _ | ⟨l2, _ | ⟨l3, _ | ⟨l4, _ | ⟨l5, _ | ⟨l6, _ | ⟨l7, _ | _⟩⟩⟩⟩⟩⟩⟩ <;> simp only [Fields, and_false] at hf
    obtain ⟨c1, c2, c3, c4, c5, c6, c7, -⟩ := hf
    simp only [Rows.uptoBulk, Rows.uptoBulkAll] at hb ⊢
    obtain ⟨k, rfl, rfl, w1⟩ := conv_int T_DecKind_k c1
    obtain ⟨a, rfl, rfl, w2⟩ := conv_int T_int_k c2
    obtain ⟨s, rfl, rfl⟩ := conv_str T_string_k c3
    obtain ⟨m, rfl, rfl, w4⟩ := conv_int T_int_k c4
    simp only [Rows.uptoBulk] at hb ⊢
    obtain ⟨L, b, k', rfl, hL, hk⟩ := slice_dec T_S_Con_k T_Con_agg GCons.nil GCons.cons (dec_con n) d5 l5 c5 (by omega)
    obtain ⟨L2, b2, k2', rfl, hL2, hk2⟩ := slice_dec T_S_Case_k T_Case_agg GCases.nil GCases.cons ih.case d6 l6 c6 (by omega)
    obtain ⟨L3, b3, k3', rfl, hL3, hk3⟩ := slice_dec T_S_Fun_k T_Fun_agg GFuns.nil GFuns.cons ih.fn d7 l7 c7 (by omega)
    refine ⟨.mk k a s m L b L2 b2 L3 b3, by rw [Dec.cells_mk]; rfl, by have := hL.1; have := hL2.1; have := hL3.1; simp only [Dec.size]; omega, fun i nd hn => ?_⟩
    simp only [nodesDec, List.mem_cons, List.mem_append] at hn
    rcases hn with rfl | hn | hn | hn
    · simp only [TNode.ok, Dec.name]; omega
    · exact hL2.2 nd hn
    · exact hL3.2 nd hn
    · exact hL.2 nd hn
theorem dec_case1 (n : Nat) (ih : DecAll H n) : ∀ (d : DataW H) l, conv C.ti (n + 1) T_Case d = some l → Rows.uptoBulk d < 2^30 → ∃ t : Case, l = t.cells ∧ GCase (Rows.uptoBulk d) t := fun d l h hb => by
    obtain ⟨parts, ls, rfl, hf, rfl⟩ := conv_struct T_Case_k h
    rcases parts with _ | ⟨d1, _ | ⟨d2, _ | _⟩⟩ <;> rcases ls with _ | ⟨l1, _ | ⟨l2, _ | _⟩⟩ <;> simp only [Fields, and_false] at hf
    obtain ⟨c1, c2, -⟩ := hf
    simp only [Rows.uptoBulk, Rows.uptoBulkAll] at hb ⊢
    obtain ⟨p, rfl, hp⟩ := dec_pat n d1 l1 c1 (by omega)
    obtain ⟨e, rfl, he⟩ := ih.exp d2 l2 c2 (by omega)
    refine ⟨.mk p e, by rw [Case.cells_mk]; simp, by have := hp.1; have := he.1; simp only [Case.size]; omega, fun nd hn => ?_⟩
    simp only [nodesCase, List.mem_append] at hn
    rcases hn with hn | hn
    · exact hp.2 nd hn
    · exact he.2 nd hn
theorem dec_fun1 (n : Nat) (ih : DecAll H n) : ∀ (d : DataW H) l, conv C.ti (n + 1) T_Fun d = some l → Rows.uptoBulk d < 2^30 → ∃ t : Fun, l = t.cells ∧ GFun (Rows.uptoBulk d) t := fun d l h hb => by
    obtain ⟨parts, ls, rfl, hf, rfl⟩ := conv_struct T_Fun_k h
    rcases parts with _ | ⟨d1, _ | ⟨d2, _ | ⟨d3, _ | _⟩⟩⟩ <;> rcases ls with _ | ⟨l1, _ | ⟨l2, _ | ⟨l3, _ | _⟩⟩⟩ <;> simp only [Fields, and_false] at hf
    obtain ⟨c1, c2, c3, -⟩ := hf
    simp only [Rows.uptoBulk, Rows.uptoBulkAll] at hb ⊢
    obtain ⟨s, rfl, rfl⟩ := conv_str T_string_k c1
    obtain ⟨a, rfl, rfl, w2⟩ := conv_int T_int_k c2
    simp only [Rows.uptoBulk] at hb ⊢
    obtain ⟨e, rfl, he⟩ := ih.case d3 l3 c3 (by omega)
    refine ⟨.mk s a e, by rw [Fun.cells_mk]; simp, by have := he.1; simp only [Fun.size]; omega, fun nd hn => ?_⟩
    simp only [nodesFun, List.mem_cons] at hn
    rcases hn with rfl | hn
    · simp only [TNode.ok, Fun.name]; omega
    · exact he.2 nd hn
theorem dec_all : ∀ n, DecAll H n
  | 0 => ⟨fun _ _ h => by simp [conv] at h, fun _ _ h => by simp [conv] at h, fun _ _ h => by simp [conv] at h, fun _ _ h => by simp [conv] at h⟩
  | 1 => ⟨fun d l h _ => by
      obtain ⟨parts, ls, rfl, hf, rfl⟩ := conv_struct T_Exp_k h
      rcases parts with _ | ⟨d1, _ | ⟨d2, _ | ⟨d3, _ | ⟨d4, _ | ⟨d5, _ | ⟨d6, _ | ⟨d7, _ | _⟩⟩⟩⟩⟩⟩⟩ <;> rcases ls with _ | ⟨l1, _ | ⟨l2, _ | ⟨l3, _ | ⟨l4, _ | ⟨l5, _ | ⟨l6, _ | ⟨l7, _ | _⟩⟩⟩⟩⟩⟩⟩ <;> simp only [Fields, and_false] at hf
      simp [conv] at hf, dec_case1 0 (dec_all 0), fun d l h _ => by
      obtain ⟨parts, ls, rfl, hf, rfl⟩ := conv_struct T_Dec_k h
      rcases parts with _ | ⟨d1, _ | ⟨d2, _ | ⟨d3, _ | ⟨d4, _ | ⟨d5, _ | ⟨d6, _ | ⟨d7, _ | _⟩⟩⟩⟩⟩⟩⟩ <;> rcases ls with _ | ⟨l1, _ | ⟨l2, _ | ⟨l3, _ | ⟨l4, _ | ⟨l5, _ | ⟨l6, _ | ⟨l7, _ | _⟩⟩⟩⟩⟩⟩⟩ <;> simp only [Fields, and_false] at hf
      simp [conv] at hf, dec_fun1 0 (dec_all 0)⟩
  | n + 2 => ⟨dec_exp2 n (dec_all n), dec_case1 (n + 1) (dec_all (n + 1)), dec_dec2 n (dec_all n), dec_fun1 (n + 1) (dec_all (n + 1))⟩
/-- a program, as it is read -/
theorem dec_decs (n : Nat) (d : DataW H) (l : List AV) (h : conv C.ti n T_S_Dec d = some l) (hb : Rows.uptoBulk d < 2^30) : ∃ L b, l = [encS b (L.map Dec.enc)] ∧ Dec.sizes L ≤ Rows.uptoBulk d ∧ ∀ i, ∀ nd ∈ nodesDecs i L, nd.ok := by
  cases n with
  | zero => simp [conv] at h
  | succ n =>
    obtain ⟨L, b, k, e, hL, hk⟩ := slice_dec T_S_Dec_k T_Dec_agg GDecs.nil GDecs.cons (dec_all n).dec d l h hb
    exact ⟨L, b, e, by have := hL.1; omega, hL.2⟩
end
end Go.Proofs.YtinphnakebeloaaGreat

namespace Go.Am
open Go Go.RowKit
section
variable {H : Type} {enc : TypeId × Value → H} {P : Program}
theorem Left0.cell {w w' : World} (h : Left0 w w') {b off : Nat} (hb : b < w.heap.size) : w'.cell? ⟨b, off, none⟩ = w.cell? ⟨b, off, none⟩ := by
  unfold World.cell?
  rw [h.heap b hb]
theorem Left0.sameAt {w w' : World} (h : Left0 w w') {p : MemPlace} (hp : p.block < w.heap.size) : w.sameAt w' p := by
  cases p with
  | cell b off => exact h.cell hp
  | map b => exact h.heap b hp
theorem Left0.kept {w w' : World} (h : Left0 w w') (may : MemPlace → Prop) : w.keptBut w' may := by
  refine ⟨h.os, h.output, fun i hi => ?_⟩
  rw [h.heap i hi]
  cases w.heap[i]? with
  | none => rfl
  | some o => cases o with
    | cells c t fr => exact ⟨rfl, rfl, rfl, fun _ _ => rfl⟩
    | map es clock => exact .inr ⟨rfl, rfl⟩
    | _ => rfl
theorem all_carry {w w' : World} {base : Nat} {spare : Nat → Bool} {held : Bool} : ∀ {ts : List TypeId} {vs : List Value} {ds : List (DataW H)} {ps : List MemPlace}, DataW.TrodAll enc P w base spare held ts vs ds ps → (∀ p ∈ ps, w.sameAt w' p) → DataW.TrodAll enc P w' base spare held ts vs ds ps
  | [], [], [], _, h, _ => h
  | t :: ts, v :: vs, d :: ds, _, h, hs => by
    obtain ⟨p, q, ⟨n, h1⟩, h2, rfl⟩ := h
    exact ⟨p, q, ⟨n, DataW.trod_carry n _ _ _ h1 fun x hx => hs x (List.mem_append_left _ hx)⟩, all_carry h2 fun x hx => hs x (List.mem_append_right _ hx), rfl⟩
/-- a law that is true, and leaves all that was there -/
theorem post_left {f : Func} {s : ChangeSpec} {apart fresh handsOn : Bool} {W W' : World} {args : Array Value} {v : Value} {ds gs : List (DataW H)} {before pv : List MemPlace}
    (hW : DataW.Whole enc P f.params.toList s.vars apart W args.toList ds gs before)
    (hres : ∀ (b : Nat) (sp : Nat → Bool) (hd : Bool), DataW.TrodAll enc P W' b sp hd f.resultTypes.toList (v.resultList f.resultTypes.size) (s.fn H (ds ++ gs)).results [])
    (hargs : ∀ sp : Nat → Bool, (∀ p ∈ before, sp p.block = true) → ∃ pa, DataW.TrodAll enc P W' 0 sp true f.params.toList args.toList (s.fn H (ds ++ gs)).args pa)
    (hvars : ∀ sp : Nat → Bool, DataW.TrodVars enc P W' sp s.vars (s.fn H (ds ++ gs)).vars pv) (hl : Left0 W W') :
    s.post enc P f apart fresh handsOn false W args v W' := by
  have hold : ∀ p ∈ before, (fun b => decide (b < W.heap.size)) p.block = true := fun p hp => by simpa using hW.lt p hp
  obtain ⟨pa, ha⟩ := hargs (fun b => decide (b < W.heap.size)) hold
  exact ⟨ds, gs, before, [], pa, pv, hW, hres _ _ _, ha, hvars _, hl.kept _, fun h => by cases h⟩
end
end Go.Am
namespace Go.Proofs.YtinphnakebeloaaGreat
open Go Go.Am Go.RowKit
set_option linter.unusedVariables false
theorem types : ∀ t, TyOK Tryz.prog C t := types_ok types_all fun t ht => by
  show tis.getD t {} = {}
  rw [List.getD_eq_getElem?_getD, List.getElem?_eq_none ht]
  rfl
theorem arg_slice {P : Program} {W : World} {r : Reach} {base : Nat} {t e : TypeId} {v : Value} (hu : P.underlying t = some (.slice e)) (h : Value.okWide P W r base t v) : v.cells.toList = [v] := by
  unfold Value.okWide at h
  simp only [hu] at h
  unfold Cell.okWide at h
  simp only [hu] at h
  cases v <;> first | rfl | (simp [Cell.ok, hu] at h)
theorem kids : Kids Tryz.prog (· < Tryz.prog.types.size) := kids_rows (by kernel_rfl) (by kernel_rfl)
theorem full : ∀ t e, t < Tryz.prog.types.size → Tryz.prog.underlying t = some (.slice e) → 0 < Tryz.prog.cellsOf e := fun t e ht hu => slices_full_of Tryz.prog (by kernel_rfl) t e ht hu
/-- the arguments read again -/
theorem again {H : Type} {enc : TypeId × Value → H} {W W' : World} {ts : List TypeId} {vs : List Value} {ds : List (DataW H)} {ps : List MemPlace} (hts : ∀ t ∈ ts, t < Tryz.prog.types.size) (h : DataW.TrodAll enc Tryz.prog W 0 (fun _ => true) true ts vs ds ps) (hl : Left0 W W') (hlt : ∀ p ∈ ps, p.block < W.heap.size)
    (sp : Nat → Bool) (hsp : ∀ p ∈ ps, sp p.block = true) : ∃ pa, DataW.TrodAll enc Tryz.prog W' 0 sp true ts vs ds pa :=
  ⟨ps, all_carry (DataW.TrodAll.respare kids full hts h hsp) fun p hp => hl.sameAt (hlt p hp)⟩
end Go.Proofs.YtinphnakebeloaaGreat

namespace Go.Proofs.YtinphnakebeloaaGreat
open Go Go.Am Go.RowKit
theorem laid_nil (P : Program) (W : World) : laidMet P [] W := ⟨[], rfl, by simp, by simp⟩
theorem vrl_cons {κ : Kn} {a : AV} {l : List AV} {v : Value} {vs : List Value} (h : VR κ a v) (g : VRl κ l vs) : VRl κ (a :: l) (v :: vs) := ⟨v, vs, rfl, h, g⟩
end Go.Proofs.YtinphnakebeloaaGreat

namespace Go.Proofs.YtinphnakebeloaaGreat
open Go Go.Am Go.RowKit
set_option linter.unusedVariables false
theorem ext_C (f : Nat) (g : List AV → Option AV) (h : C.ext f = some g) : f = 138 ∧ g = extContains := by
  change findExt f exts = some g at h
  unfold exts findExt at h
  cases hf : Nat.beq f 138 with
  | false => rw [hf] at h; cases h
  | true =>
    rw [hf] at h
    exact ⟨Nat.eq_of_beq_eq_true hf, (Option.some.inj h).symm⟩
theorem ext_contains : ∀ (l : List AV) (v : AV), extContains l = some v → ∃ s t, l = [.str s, .str t] ∧ s.length < 4294967281 ∧ v = .bool (Go.Lib.contains s t)
  | [.str s, .str t], v, h => by
    simp only [extContains] at h
    split at h
    · cases h
      exact ⟨s, t, rfl, ‹_›, rfl⟩
    · cases h
theorem codeOK : CodeOK Tryz.prog C where
  ty := types
  code := code_ok rfl codes_all
  ext := by
    intro f g l v hf hg κ B s w vs hi hG hB hv
    obtain ⟨rfl, rfl⟩ := ext_C f g hf
    obtain ⟨x, y, rfl, hx, rfl⟩ := ext_contains l v hg
    obtain ⟨v1, r1, rfl, h1, v2, r2, rfl, h2, h3⟩ := hv
    cases r2 with
    | cons _ _ => cases h3
    | nil =>
      simp only [VR] at h1 h2
      obtain ⟨z1, rfl, rfl⟩ := h1
      obtain ⟨z2, rfl, rfl⟩ := h2
      obtain ⟨m, hm⟩ := hG.2 0 (by simp [C])
      have hc := hi.im 0 0 _ hm
      have hk := Tryz.strings_Contains z1 z2 m w (by simpa using hx) hc
      have he := enters_of Tryz.func138 (by kernel_rfl) (c := body Tryz.f138) (by kernel_rfl) #[.string z1, .string z2] w
      have hx := callsIn_wide (n := 0).2 hk
      refine .inr ⟨he, hx.mono fun e w' h => ?_⟩
      obtain ⟨h4, h5⟩ := h
      subst h4
      subst h5
      exact ⟨κ, .refl _ _, hi, by simp only [OutR, SR, VR]⟩
theorem globOK {W : World} (h : W.ShapedOpen Tryz.prog) : GlobOK C (kn0 W) := by
  refine ⟨fun g l hg => (by cases hg), fun g hg => ?_⟩
  obtain rfl : g = 0 := by simpa [C] using hg
  exact Tryz.laysM144.s1_3 W h
end Go.Proofs.YtinphnakebeloaaGreat

namespace Go.Proofs.YtinphnakebeloaaGreat
open Go Go.Am
set_option linter.unusedVariables false
theorem ref05_letter_spec (n : Int) (c : Bool) (s : St) : cw (.f F_ref05_letter) [.int .u8 n, .bool c] s = some (.ret (.val (.bool (letterR n c))), s) := by
  rw [ref05_letter_eq]; cases c <;> simp only [go_sem] <;> rfl
theorem ref05_rest_spec (n : Int) (s : St) : cw (.f F_ref05_rest) [.int .u8 n] s = some (.ret (.val (.bool (restR n))), s) := by
  rw [ref05_rest_eq]; simp only [go_sem]; rfl
theorem ref05_is_spec (n a b : Int) (s : St) : cw (.f F_ref05_is) [.int .i64 n, .int .i64 a, .int .i64 b] s = some (.ret (.val (.bool (isR n a b))), s) := by
  rw [ref05_is_eq]; simp only [go_sem]; rfl
theorem ref05_shaped_loop (l : Str) (pre : Str) : ∀ (suf : Str) (s : St), pre ++ suf = l → l.length < 2^62 → ref05_shaped_l0 (.val (.str l)) (.val (.int .i64 pre.length)) s = some (.ret (.val (.bool (suf.all fun c => restR c.toNat))), s) := by
  intro suf
  induction suf generalizing pre with
  | nil =>
    intro s h hl
    rw [List.append_nil] at h
    subst h
    rw [ref05_shaped_l0_eq]; simp only [ln_eq, bn_eq, lenS_str T_string_k, bind1_some, binS_lss, condS_bool]
    rw [ifR_neg (by simp)]
    rfl
  | cons c suf ih =>
    intro s h hl
    have hc : l[pre.length]? = some c := by rw [← h]; simp
    have hlt : pre.length < l.length := by rw [← h]; simp
    have := ih (pre ++ [c]) s (by simp [h]) hl
    rw [ref05_shaped_l0_eq]
    simp only [ln_eq, bn_eq, lenS_str T_string_k, bind1_some, binS_lss, condS_bool]
    rw [ifR_pos (by simpa using hlt), indexS_str T_string_k hc]
    simp only [go_sem, ref05_rest_spec]
    rw [wrap64 (by omega) (by omega)]
    have e : (pre.length : Int) + 1 = ((pre ++ [c]).length : Int) := by simp
    rw [e, this]
    simp only [go_sem, List.all_cons]
    cases restR c.toNat <;> rfl
theorem ref05_shaped_spec (l : Str) (c : Bool) (s : St) (hl : l.length < 2^62) : cw (.f F_ref05_shaped) [.str l, .bool c] s = some (.ret (.val (.bool (shapedR l c))), s) := by
  rw [ref05_shaped_eq]
  cases l with
  | nil => simp only [go_sem]; rfl
  | cons x l =>
    have h := ref05_shaped_loop (x :: l) [x] l s rfl hl
    simp only [go_sem, List.length_singleton] at h
    simp only [go_sem, ref05_letter_spec, indexS_zero T_string_k (List.cons_ne_nil x l)]
    have h' : ref05_shaped_l0 (.val (.str (x :: l))) (.val (.int .i64 1)) s = some (.ret (.val (.bool (l.all fun c => restR c.toNat))), s) := h
    rw [h']
    show ifR _ _ _ = some (Out.ret (.val (.bool (!(decide (((l.length + 1 : Nat) : Int) < 1) || decide (((l.length + 1 : Nat) : Int) > 32) || !letterR (((x :: l).headD 0).toNat : Int) c) && (l.all fun c => restR c.toNat)))), s)
    generalize (decide (((l.length + 1 : Nat) : Int) < 1) || decide (((l.length + 1 : Nat) : Int) > 32) || !letterR (((x :: l).headD 0).toNat : Int) c) = b
    cases b <;> rfl
theorem ref05_Words_spec (s : St) : cw (.f F_ref05_Words) [] s = some (.ret (.full (wordsR.map .str)), s) := by
  rw [ref05_Words_eq]; simp only [go_sem, Nat.reduceAdd]; rfl
theorem ref05_among_loop (x : Str) (l : List Str) (pre : List Str) : ∀ (suf : List Str) (y : Slot) (s : St), y.list? = some (l.map .str) → pre ++ suf = l → l.length < 2^62 → ref05_among_l0 (.val (.str x)) y (.val (.int .i64 pre.length)) s = some (.ret (.val (.bool (amongR x suf))), s) := by
  intro suf
  induction suf generalizing pre with
  | nil =>
    intro y s hy h hl
    rw [List.append_nil] at h
    subst h
    rw [ref05_among_l0_eq]; simp only [go_sem, hy]
    rw [ifR_neg (by simp)]
    rfl
  | cons c suf ih =>
    intro y s hy h hl
    have hc : (l.map AV.str)[pre.length]? = some (.str c) := by rw [← h]; simp
    have hlt : pre.length < l.length := by rw [← h]; simp
    have := ih (pre ++ [c]) y s hy (by simp [h]) hl
    rw [ref05_among_l0_eq]
    simp only [go_sem, hy]
    rw [ifR_pos (by simpa using hlt), ixS_get (sz := 1) hy hc rfl (by decide)]
    simp only [go_sem, Nat.reduceAdd, Nat.reduceLeDiff]
    rw [wrap64 (by omega) (by omega)]
    have e : (pre.length : Int) + 1 = ((pre ++ [c]).length : Int) := by simp
    rw [e, this]
    simp only [go_sem, amongR, List.any_cons]
    cases decide (c = x) <;> rfl
theorem ref05_among_spec (x : Str) (l : List Str) (s : St) (hl : l.length < 2^62) (nl : Bool) : cw (.f F_ref05_among) [.str x, encS nl (l.map .str)] s = some (.ret (.val (.bool (amongR x l))), s) := by
  rw [ref05_among_eq]
  exact ref05_among_loop x l [] l _ s (by simp only [go_sem]) rfl hl
theorem ref05_Low_spec (l : Str) (s : St) (hl : l.length < 2^62) : cw (.f F_ref05_Low) [.str l] s = some (.ret (.val (.bool (lowR l))), s) := by
  rw [ref05_Low_eq]
  have h := fun s => ref05_among_spec l wordsR s (by decide) false
  rw [encS_false] at h
  simp only [go_sem, ref05_shaped_spec l _ _ hl, ref05_Words_spec, h]
  rfl
theorem ref05_Capital_spec (l : Str) (s : St) (hl : l.length < 2^62) : cw (.f F_ref05_Capital) [.str l] s = some (.ret (.val (.bool (capR l))), s) := by
  rw [ref05_Capital_eq]
  simp only [go_sem, ref05_shaped_spec l _ _ hl]
  rfl
theorem ref05_Con_spec (l : Str) (s : St) (hl : l.length < 2^62) : cw (.f F_ref05_Con) [.str l] s = some (.ret (.val (.bool (conR l))), s) := by
  rw [ref05_Con_eq]
  simp only [go_sem, ref05_Capital_spec l _ hl]
  rfl
theorem ref01_Wrap_spec (n : Int) (s : St) : cw (.f F_ref01_Wrap) [.int .i64 n] s = some (.ret (.val (.int .i64 (bif decide (n.tmod 2147483648 < 0) then (bif decide (n.tmod 2147483648 + 2147483648 ≥ 1073741824) then n.tmod 2147483648 else n.tmod 2147483648 + 2147483648) else (bif decide (n.tmod 2147483648 ≥ 1073741824) then n.tmod 2147483648 - 2147483648 else n.tmod 2147483648)))), s) := by
  rw [ref01_Wrap_eq]
  have h1 : -2147483648 < n.tmod 2147483648 := Int.lt_tmod_of_pos n (by decide)
  have h2 : n.tmod 2147483648 < 2147483648 := Int.tmod_lt_of_pos n (by decide)
  simp only [go_sem, Int.reduceEq, ne_eq, not_false_eq_true, ref01_Wrap_j0_eq]
  generalize n.tmod 2147483648 = m at *
  by_cases h : m < 0
  · simp only [go_sem, decide_eq_true h]
    rw [wrap64 (n := m + 2147483648) (by omega) (by omega), wrap64 (by omega) (by omega)]
    congr; omega
  · simp only [go_sem, decide_eq_false h]
    rw [wrap64 (n := m - 2147483648) (by omega) (by omega)]
end Go.Proofs.YtinphnakebeloaaGreat
