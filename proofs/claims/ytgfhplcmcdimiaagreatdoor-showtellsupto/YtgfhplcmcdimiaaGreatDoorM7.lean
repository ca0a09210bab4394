/- A part of the proof: G3. -/
import Derived.Test.YtgfhplcmcdimiaaGreatDoorM4
set_option linter.unusedVariables false
set_option linter.unusedSimpArgs false
namespace Go.Proofs.YtgfhplcmcdimiaaGreatDoor
open Go Go.Am
set_option linter.unusedVariables false
noncomputable def Zg:List Slot→Slot→Slot→Slot→Slot→St→Res:=λx1 x3 x4 x5 x6 s=>pwD Q2I [.seqR,.seqR,.seqR] Tryz.f138 [(1,.var x1),(3,.s x3),(4,.s x4),(5,.s x5),(6,.s x6)] s
theorem Q9o:∀ x1 x3 x4 x5 x6 s_1,Zg x1 x3 x4 x5 x6 s_1 =
 nt x3 λv23=>
 iT v23 λw=>
 iT v23 λw_1=>
 gG w_1 w Q1 2 x1 λv26=>
 iT v23 λw_2=>
 gB w_2 Q1 .neq v26 (sv []) λv27=>
 pk v23 v27 (bv false) λv28=>
 iF v28 λw_3=>
 iF v28 λw_4=>
 bind1 (gd w_4 (unS .not (gdV w_3 x4))) λv31=>
 iF v28 λw_5=>
 bindB (Slot.isB (gdV w_5 v31) true) λw_6=>
 bindB (Slot.isB (gdV w_5 v31) true) λw_7=>
 gG w_7 w_6 Q2 3 x1 λv34=>
 bindB (Slot.isB (gdV w_5 v31) true) λw_8=>
 gB w_8 Q2 .neq v34 (iv 0) λv35=>
 iF v28 λw_9=>
 bind1 (gd w_9 (pickS (gdV w_5 v31) v35 (bv false))) λv36=>
 pk v28 (bv true) v36 λv37=>
 iF v37 λw_10=>
 iF v37 λw_11=>
 gB w_11 Q2 .eql (gdV w_10 x6) (iv 0) λv40=>
 iF v37 λw_12=>
 bindB (Slot.isB (gdV w_12 v40) true) λw_13=>
 bindB (Slot.isB (gdV w_12 v40) true) λw_14=>
 gG w_14 w_13 Qp 4 x1 λv43=>
 bindB (Slot.isB (gdV w_12 v40) true) λw_15=>
 gL w_15 Qp v43 λv44=>
 bindB (Slot.isB (gdV w_12 v40) true) λw_16=>
 gB w_16 Q2 .gtr v44 (iv 0) λv45=>
 iF v37 λw_17=>
 bind1 (gd w_17 (pickS (gdV w_12 v40) v45 (bv false))) λv46=>
 pk v37 (bv true) v46 λv47=>
 condS v47 (
 some (.ret (iv 29),s_1)) (
 gC Qd 0 x1 λv50=>
 bn Qd .eql v50 (iv 4) λv51=>
 iT v51 λw_18=>
 iT v51 λw_19=>
 gG w_19 w_18 Q1 2 x1 λv54=>
 iT v51 λw_20=>
 cg w_20 Q15 [v54] s_1 λv55 s_2=>
 iT v51 λw_21=>
 gN w_21 v55 λv56=>
 pk v51 v56 (bv false) λv57=>
 iF v57 λw_22=>
 iF v57 λw_23=>
 bindB (Slot.isB (gdV w_23 (gdV w_22 x3)) true) λw_24=>
 bindB (Slot.isB (gdV w_23 (gdV w_22 x3)) true) λw_25=>
 gG w_25 w_24 Qd 0 x1 λv62=>
 bindB (Slot.isB (gdV w_23 (gdV w_22 x3)) true) λw_26=>
 gB w_26 Qd .neq v62 (iv 4) λv63=>
 iF v57 λw_27=>
 bind1 (gd w_27 (pickS (gdV w_23 (gdV w_22 x3)) v63 (bv false))) λv64=>
 iF v57 λw_28=>
 bindB (Slot.isB (gdV w_28 v64) true) λw_29=>
 bindB (Slot.isB (gdV w_28 v64) true) λw_30=>
 gG w_30 w_29 Q1 2 x1 λv67=>
 bindB (Slot.isB (gdV w_28 v64) true) λw_31=>
 cg w_31 Q2a [v67] s_2 λv68 s_3=>
 bindB (Slot.isB (gdV w_28 v64) true) λw_32=>
 gN w_32 v68 λv69=>
 iF v57 λw_33=>
 bind1 (gd w_33 (pickS (gdV w_28 v64) v69 (bv false))) λv70=>
 pk v57 (bv true) v70 λv71=>
 condS v71 (
 some (.ret (iv 8),s_3)) (
 iT x4 λw_34=>
 iT x4 λw_35=>
 gG w_35 w_34 Q2 3 x1 λv76=>
 iT x4 λw_36=>
 cg w_36 Q4y [v76] s_3 λv77 s_4=>
 iT x4 λw_37=>
 gN w_37 v77 λv78=>
 pk x4 v78 (bv false) λv79=>
 condS v79 (
 some (.ret (iv 2),s_4)) (
 gC Qp 4 x1 λv82=>
 ln Qp v82 λv83=>
 bn Q2 .lss v83 x5 λv85=>
 iF v85 λw_38=>
 iF v85 λw_39=>
 gG w_39 w_38 Qp 4 x1 λv88=>
 iF v85 λw_40=>
 gL w_40 Qp v88 λv89=>
 iF v85 λw_41=>
 iF v85 λw_42=>
 gB w_42 Q2 .gtr v89 (gdV w_41 x6) λv91=>
 pk v85 (bv true) v91 λv92=>
 condS v92 (
 some (.ret (iv 19),s_4)) (
 some (.ret (iv 0),s_4))))):=by intros;unfold Zg;exact (QX _).trans (by kernel_rfl)
theorem QbI(a0:AV)(s:St):cw (.f Q2I) [a0] s =
 bx Qq (.val a0) λc1=>
 gC Qd 0 c1 λv8=>
 bn Qd .eql v8 (iv 1) λv10=>
 condS v10 (
 Zg c1 (bv false) (bv false) (iv 0) (iv 0) s) (
 bn Qd .eql v8 (iv 2) λv12=>
 condS v12 (
 Zg c1 (bv true) (bv false) (iv 0) (iv 0) s) (
 bn Qd .eql v8 (iv 3) λv14=>
 condS v14 (
 Zg c1 (bv false) (bv true) (iv 0) (iv 0) s) (
 bn Qd .eql v8 (iv 4) λv16=>
 condS v16 (
 Zg c1 (bv true) (bv false) (iv 0) (iv 1) s) (
 bn Qd .eql v8 (iv 5) λv18=>
 condS v18 (
 Zg c1 (bv false) (bv false) (iv 2) (iv 8) s) (
 bn Qd .eql v8 (iv 6) λv20=>
 condS v20 (
 Zg c1 (bv true) (bv false) (iv 1) (iv 1) s) (
 some (.ret (iv 29),s))))))):=(Q5 _ _ _).trans (by kernel_rfl)
noncomputable def ZP:Slot→Slot→Slot→St→Res:=λx3_1 x4_1 x5_1 s=>pwD Q1G [.seqR,.seqR,.seqR,.seqR,.seqR] Tryz.f139 [(3,.s x3_1),(4,.s x4_1),(5,.s x5_1)] s
noncomputable def Q0l:List Slot→Slot→Slot→Slot→Slot→Slot→St→Res:=λx1 x3 x4 x5 x56 x61 s=>pwD Q1G [.seqR,.seqR,.seqR,.seqR,.seqL,.seqR,.block,.seqR] Tryz.f139 [(1,.var x1),(3,.s x3),(4,.s x4),(5,.s x5),(56,.s x56),(61,.s x61)] s
theorem Qab:∀ x3_1 x4_1 x5_1 s_2,ZP x3_1 x4_1 x5_1 s_2 =
 bn Q2 .lss x3_1 x4_1 λv74=>
 iF v74 λw_26=>
 iF v74 λw_27=>
 iF v74 λw_28=>
 gB w_28 Q2 .gtr (gdV w_26 x3_1) (gdV w_27 x5_1) λv78=>
 pk v74 (bv true) v78 λv79=>
 condS v79 (
 some (.ret (iv 19),s_2)) (
 some (.ret (iv 0),s_2)):=by intros;unfold ZP;exact (QX _).trans (by kernel_rfl)
theorem Qaa:∀ x1 x3 x4 x5 x56 x61 s_1,Q0l x1 x3 x4 x5 x56 x61 s_1 =
 condS x61 (
 ZP x3 x4 x5 s_1) (
 bn Q1 .eql x56 (sv [114,101,102]) λv67=>
 condS v67 (
 ZP x3 (iv 1) (iv 1) s_1) (
 bn Q1 .eql x56 (sv [45,62]) λv69=>
 condS v69 (
 ZP x3 (iv 2) (iv 2) s_1) (
 bn Q1 .eql x56 (sv [42]) λv71=>
 condS v71 (
 ZP x3 (iv 2) (iv 8) s_1) (
 gC Q1 2 x1 λv58=>
 ca Q2a [v58] s_1 λv59 s_3=>
 nt v59 λv60=>
 condS v60 (
 some (.ret (iv 8),s_3)) (
 ZP x3 x4 (iv 8) s_3))))):=by intros;unfold Q0l;exact (QX _).trans (by kernel_rfl)
theorem QcI(a0:AV)(s:St):cw (.f Q1G) [a0] s =
 bx Qu (.val a0) λc1=>
 gC Ql 3 c1 λv7=>
 ln Ql v7 λv8=>
 gC Qs 0 c1 λv11=>
 bn Qs .eql v11 (iv 1) λv12=>
 iT v12 λw=>
 iT v12 λw_1=>
 gG w_1 w Q1 2 c1 λv15=>
 iT v12 λw_2=>
 gB w_2 Q1 .neq v15 (sv []) λv16=>
 iT v12 λw_3=>
 bindB (Slot.isB (gdV w_3 v16) false) λw_4=>
 bindB (Slot.isB (gdV w_3 v16) false) λw_5=>
 gB w_5 Q2 .gtr (gdV w_4 v8) (iv 0) λv19=>
 iT v12 λw_6=>
 bind1 (gd w_6 (pickS (gdV w_3 v16) (bv true) v19)) λv20=>
 pk v12 v20 (bv false) λv21=>
 iF v21 λw_7=>
 iF v21 λw_8=>
 gG w_8 w_7 Qs 0 c1 λv24=>
 iF v21 λw_9=>
 gB w_9 Qs .eql v24 (iv 2) λv25=>
 iF v21 λw_10=>
 bindB (Slot.isB (gdV w_10 v25) true) λw_11=>
 bindB (Slot.isB (gdV w_10 v25) true) λw_12=>
 gG w_12 w_11 Q2 1 c1 λv28=>
 bindB (Slot.isB (gdV w_10 v25) true) λw_13=>
 gB w_13 Q2 .neq v28 (iv 0) λv29=>
 iF v21 λw_14=>
 bind1 (gd w_14 (pickS (gdV w_10 v25) v29 (bv false))) λv30=>
 pk v21 (bv true) v30 λv31=>
 iF v31 λw_15=>
 iF v31 λw_16=>
 gG w_16 w_15 Qs 0 c1 λv34=>
 iF v31 λw_17=>
 gB w_17 Qs .neq v34 (iv 1) λv35=>
 iF v31 λw_18=>
 bindB (Slot.isB (gdV w_18 v35) true) λw_19=>
 bindB (Slot.isB (gdV w_18 v35) true) λw_20=>
 gG w_20 w_19 Qs 0 c1 λv38=>
 bindB (Slot.isB (gdV w_18 v35) true) λw_21=>
 gB w_21 Qs .neq v38 (iv 2) λv39=>
 iF v31 λw_22=>
 bind1 (gd w_22 (pickS (gdV w_18 v35) v39 (bv false))) λv40=>
 pk v31 (bv true) v40 λv41=>
 condS v41 (
 some (.ret (iv 29),s)) (
 gC Qs 0 c1 λv44=>
 bn Qs .eql v44 (iv 1) λv45=>
 iT v45 λw_23=>
 iT v45 λw_24=>
 gG w_24 w_23 Q2 1 c1 λv48=>
 iT v45 λw_25=>
 gB w_25 Q2 .lss v48 (iv 0) λv49=>
 pk v45 v49 (bv false) λv50=>
 condS v50 (
 some (.ret (iv 2),s)) (
 gC Qs 0 c1 λv53=>
 bn Qs .eql v53 (iv 1) λv54=>
 condS v54 (
 some (.ret (iv 0),s)) (
 gC Q1 2 c1 λv56=>
 bn Q1 .eql v56 (sv [105,110,116]) λv62=>
 condS v62 (
 Q0l c1 v8 (iv 0) (iv 0) v56 v62 s) (
 bn Q1 .eql v56 (sv [98,111,111,108]) λv63=>
 condS v63 (
 Q0l c1 v8 (iv 0) (iv 0) v56 v63 s) (
 bn Q1 .eql v56 (sv [117,110,105,116]) λv64=>
 condS v64 (
 Q0l c1 v8 (iv 0) (iv 0) v56 v64 s) (
 bn Q1 .eql v56 (sv [101,120,110]) λv65=>
 Q0l c1 v8 (iv 0) (iv 0) v56 v65 s)))))):=(Q5 _ _ _).trans (by kernel_rfl)
noncomputable def ZN:Slot→List Slot→Slot→Slot→St→Res:=λx1 x2 x7 x8 s=>lpD Zs [.seqR,.seqL,.seqR,.block] Tryz.f140 [(1,.s x1),(2,.var x2),(7,.s x7),(8,.s x8)] s
theorem Q3k:∀ x1 x2 x7 x8 s_1,ZN x1 x2 x7 x8 s_1 =
 bn Q2 .lss x8 x7 λv9=>
 condS v9 (
 gA QC x2 λv11=>
 ix QA x1 x8 λv14=>
 fa 0 v14 λv15=>
 cn Zd [v11,v15] s_1 λv16 s_2=>
 nt v16 λv17=>
 iF v17 λw=>
 bind1 (gd w (ofSlots (C.ti QC) (List.take (C.ti QC).size x2))) λv19=>
 iF v17 λw_1=>
 iF v17 λw_2=>
 iF v17 λw_3=>
 bind1 (gd w_3 (ixS (C.ti QA).size (gdV w_1 x1) (gdV w_2 x8))) λv22=>
 iF v17 λw_4=>
 bind1 (gd w_4 (faV 5 v22)) λv23=>
 iF v17 λw_5=>
 back (noPan (cal cw w_5 (tgtV (.val (.fn ZF [])) [v19,v23]) s_2)) λv24 s_3=>
 iF v17 λw_6=>
 gN w_6 v24 λv25=>
 pk v17 (bv true) v25 λv26=>
 condS v26 (
 some (.ret (bv false),s_3)) (
 nx x8 λv27=>
 ZN x1 x2 x7 v27 s_3)) (
 some (.ret (bv true),s_1)):=by intros;unfold ZN;exact (Qb _ _ _ _ _ _).trans (by kernel_rfl)
theorem Q4V(a0:AV)(a1:AV)(s:St):cw (.f Zs) [a0,a1] s =
 bx QC (.val a0) λc2=>
 ln Q8 (.val a1) λv7=>
 ZN (.val a1) c2 v7 (iv 0) s:=(Q5 _ _ _).trans (by kernel_rfl)
theorem Qgp(a0:AV)(a1:AV)(s:St):cw (.f Q7N) [a0,a1] s =
 bx QB (.val a0) λc2=>
 gC Qr 0 c2 λv10=>
 bn Qr .eql v10 (iv 1) λv11=>
 gC Qr 0 c2 λv13=>
 bn Qr .eql v13 (iv 2) λv14=>
 gC Qr 0 c2 λv16=>
 bn Qr .eql v16 (iv 3) λv17=>
 gC Qr 0 c2 λv19=>
 bn Qr .eql v19 (iv 4) λv20=>
 nt v11 λv22=>
 iT v22 λw=>
 iT v22 λw_1=>
 bind1 (gd w_1 (unS .not (gdV w v14))) λv25=>
 pk v22 v25 (bv false) λv26=>
 iT v26 λw_2=>
 iT v26 λw_3=>
 bind1 (gd w_3 (unS .not (gdV w_2 v17))) λv29=>
 pk v26 v29 (bv false) λv30=>
 iT v30 λw_4=>
 iT v30 λw_5=>
 bind1 (gd w_5 (unS .not (gdV w_4 v20))) λv33=>
 pk v30 v33 (bv false) λv34=>
 iF v34 λw_6=>
 iF v34 λw_7=>
 bindB (Slot.isB (gdV w_7 (gdV w_6 (.val a1))) true) λw_8=>
 bindB (Slot.isB (gdV w_7 (gdV w_6 (.val a1))) true) λw_9=>
 bind1 (gd w_9 (unS .not (gdV w_8 v11))) λv39=>
 iF v34 λw_10=>
 bind1 (gd w_10 (pickS (gdV w_7 (gdV w_6 (.val a1))) v39 (bv false))) λv40=>
 iF v34 λw_11=>
 bindB (Slot.isB (gdV w_11 v40) true) λw_12=>
 bindB (Slot.isB (gdV w_11 v40) true) λw_13=>
 bind1 (gd w_13 (unS .not (gdV w_12 v14))) λv43=>
 iF v34 λw_14=>
 bind1 (gd w_14 (pickS (gdV w_11 v40) v43 (bv false))) λv44=>
 pk v34 (bv true) v44 λv45=>
 condS v45 (
 some (.ret (iv 29),s)) (
 nt v11 λv47=>
 iT v47 λw_15=>
 iT v47 λw_16=>
 gG w_16 w_15 Q8 5 c2 λv50=>
 iT v47 λw_17=>
 gL w_17 Q8 v50 λv51=>
 iT v47 λw_18=>
 gB w_18 Q2 .gtr v51 (iv 0) λv52=>
 pk v47 v52 (bv false) λv53=>
 iF v53 λw_19=>
 iF v53 λw_20=>
 bind1 (gd w_20 (unS .not (gdV w_19 v14))) λv56=>
 iF v53 λw_21=>
 bindB (Slot.isB (gdV w_21 v56) true) λw_22=>
 bindB (Slot.isB (gdV w_21 v56) true) λw_23=>
 gG w_23 w_22 Qz 6 c2 λv59=>
 bindB (Slot.isB (gdV w_21 v56) true) λw_24=>
 gL w_24 Qz v59 λv60=>
 bindB (Slot.isB (gdV w_21 v56) true) λw_25=>
 gB w_25 Q2 .gtr v60 (iv 0) λv61=>
 iF v53 λw_26=>
 bind1 (gd w_26 (pickS (gdV w_21 v56) v61 (bv false))) λv62=>
 pk v53 (bv true) v62 λv63=>
 iF v63 λw_27=>
 iF v63 λw_28=>
 bind1 (gd w_28 (unS .not (gdV w_27 v17))) λv66=>
 iF v63 λw_29=>
 bindB (Slot.isB (gdV w_29 v66) true) λw_30=>
 bindB (Slot.isB (gdV w_29 v66) true) λw_31=>
 gG w_31 w_30 Q1 2 c2 λv69=>
 bindB (Slot.isB (gdV w_29 v66) true) λw_32=>
 gB w_32 Q1 .neq v69 (sv []) λv70=>
 bindB (Slot.isB (gdV w_29 v66) true) λw_33=>
 bindB (Slot.isB (gdV w_33 v70) false) λw_34=>
 bindB (Slot.isB (gdV w_33 v70) false) λw_35=>
 gG w_35 w_34 Q2 3 c2 λv73=>
 bindB (Slot.isB (gdV w_33 v70) false) λw_36=>
 gB w_36 Q2 .neq v73 (iv 0) λv74=>
 bindB (Slot.isB (gdV w_29 v66) true) λw_37=>
 bind1 (gd w_37 (pickS (gdV w_33 v70) (bv true) v74)) λv75=>
 iF v63 λw_38=>
 bind1 (gd w_38 (pickS (gdV w_29 v66) v75 (bv false))) λv76=>
 pk v63 (bv true) v76 λv77=>
 iF v77 λw_39=>
 iF v77 λw_40=>
 bind1 (gd w_40 (unS .not (gdV w_39 v17))) λv80=>
 iF v77 λw_41=>
 bindB (Slot.isB (gdV w_41 v80) true) λw_42=>
 bindB (Slot.isB (gdV w_41 v80) true) λw_43=>
 bind1 (gd w_43 (unS .not (gdV w_42 v20))) λv83=>
 iF v77 λw_44=>
 bind1 (gd w_44 (pickS (gdV w_41 v80) v83 (bv false))) λv84=>
 iF v77 λw_45=>
 bindB (Slot.isB (gdV w_45 v84) true) λw_46=>
 bindB (Slot.isB (gdV w_45 v84) true) λw_47=>
 gG w_47 w_46 Qx 4 c2 λv87=>
 bindB (Slot.isB (gdV w_45 v84) true) λw_48=>
 gL w_48 Qx v87 λv88=>
 bindB (Slot.isB (gdV w_45 v84) true) λw_49=>
 gB w_49 Q2 .gtr v88 (iv 0) λv89=>
 iF v77 λw_50=>
 bind1 (gd w_50 (pickS (gdV w_45 v84) v89 (bv false))) λv90=>
 pk v77 (bv true) v90 λv91=>
 condS v91 (
 some (.ret (iv 29),s)) (
 iT v17 λw_51=>
 iT v17 λw_52=>
 gG w_52 w_51 Q1 2 c2 λv95=>
 iT v17 λw_53=>
 cg w_53 Q1m [v95] s λv96 s_1=>
 iT v17 λw_54=>
 gN w_54 v96 λv97=>
 pk v17 v97 (bv false) λv98=>
 condS v98 (
 some (.ret (iv 8),s_1)) (
 iT v11 λw_55=>
 iT v11 λw_56=>
 gG w_56 w_55 Q8 5 c2 λv102=>
 iT v11 λw_57=>
 gL w_57 Q8 v102 λv103=>
 iT v11 λw_58=>
 gB w_58 Q2 .neq v103 (iv 1) λv104=>
 pk v11 v104 (bv false) λv105=>
 iF v105 λw_59=>
 iF v105 λw_60=>
 bindB (Slot.isB (gdV w_60 (gdV w_59 v14)) true) λw_61=>
 bindB (Slot.isB (gdV w_60 (gdV w_59 v14)) true) λw_62=>
 gG w_62 w_61 Qz 6 c2 λv110=>
 bindB (Slot.isB (gdV w_60 (gdV w_59 v14)) true) λw_63=>
 gL w_63 Qz v110 λv111=>
 bindB (Slot.isB (gdV w_60 (gdV w_59 v14)) true) λw_64=>
 gB w_64 Q2 .lss v111 (iv 1) λv112=>
 iF v105 λw_65=>
 bind1 (gd w_65 (pickS (gdV w_60 (gdV w_59 v14)) v112 (bv false))) λv113=>
 pk v105 (bv true) v113 λv114=>
 iF v114 λw_66=>
 iF v114 λw_67=>
 bindB (Slot.isB (gdV w_67 (gdV w_66 v17)) true) λw_68=>
 bindB (Slot.isB (gdV w_67 (gdV w_66 v17)) true) λw_69=>
 gG w_69 w_68 Q2 3 c2 λv119=>
 bindB (Slot.isB (gdV w_67 (gdV w_66 v17)) true) λw_70=>
 cg w_70 Q13 [v119,(iv 0),(iv 8)] s_1 λv120 s_2=>
 bindB (Slot.isB (gdV w_67 (gdV w_66 v17)) true) λw_71=>
 gN w_71 v120 λv121=>
 bindB (Slot.isB (gdV w_67 (gdV w_66 v17)) true) λw_72=>
 bindB (Slot.isB (gdV w_72 v121) false) λw_73=>
 bindB (Slot.isB (gdV w_72 v121) false) λw_74=>
 gG w_74 w_73 Qx 4 c2 λv124=>
 bindB (Slot.isB (gdV w_72 v121) false) λw_75=>
 gL w_75 Qx v124 λv125=>
 bindB (Slot.isB (gdV w_72 v121) false) λw_76=>
 cg w_76 Q13 [v125,(iv 1),(iv 64)] s_2 λv126 s_3=>
 bindB (Slot.isB (gdV w_72 v121) false) λw_77=>
 gN w_77 v126 λv127=>
 bindB (Slot.isB (gdV w_67 (gdV w_66 v17)) true) λw_78=>
 bind1 (gd w_78 (pickS (gdV w_72 v121) (bv true) v127)) λv128=>
 iF v114 λw_79=>
 bind1 (gd w_79 (pickS (gdV w_67 (gdV w_66 v17)) v128 (bv false))) λv129=>
 pk v114 (bv true) v129 λv130=>
 iF v130 λw_80=>
 iF v130 λw_81=>
 bindB (Slot.isB (gdV w_81 (gdV w_80 v20)) true) λw_82=>
 bindB (Slot.isB (gdV w_81 (gdV w_80 v20)) true) λw_83=>
 gG w_83 w_82 Qx 4 c2 λv135=>
 bindB (Slot.isB (gdV w_81 (gdV w_80 v20)) true) λw_84=>
 gL w_84 Qx v135 λv136=>
 bindB (Slot.isB (gdV w_81 (gdV w_80 v20)) true) λw_85=>
 gB w_85 Q2 .neq v136 (iv 1) λv137=>
 iF v130 λw_86=>
 bind1 (gd w_86 (pickS (gdV w_81 (gdV w_80 v20)) v137 (bv false))) λv138=>
 pk v130 (bv true) v138 λv139=>
 condS v139 (
 some (.ret (iv 19),s_3)) (
 some (.ret (iv 0),s_3))))):=(Q5 _ _ _).trans (by kernel_rfl)
theorem Qgq(a0:AV)(s:St):cw (.f Q7O) [a0] s =
 bindL (boxCells (C.ti Q6) (.val a0)) λc1=>
 bind1 (ofSlots (C.ti Q3) (List.take (C.ti Q3).size (List.drop 0 c1))) λv10=>
 bind1 (binS (C.ti Q3) .lss v10 (.val (.int .i64 1))) λv12=>
 bindB (Slot.isB v12 false) λw=>
 bindB (Slot.isB v12 false) λw_1=>
 bind1 (gd w_1 (binS (C.ti Q3) .gtr (gdV w v10) (.val (.int .i64 20)))) λv15=>
 bind1 (pickS v12 (.val (.bool true)) v15) λv16=>
 condS v16 (
 some (.ret (.val (.int .i64 29)),s)) (
 back (cal cw true (tgtV (.val (.fn Q1x [])) [v10]) s) λv19 s_1=>
 bind1 (extractS v19 0) λv20=>
 bind1 (extractS v19 1) λv21=>
 bind1 (extractS v19 2) λv22=>
 bind1 (binS (C.ti Q3) .eql v10 (.val (.int .i64 5))) λv24=>
 bindB (Slot.isB v24 false) λw_2=>
 bindB (Slot.isB v24 false) λw_3=>
 bind1 (gd w_3 (binS (C.ti Q3) .eql (gdV w_2 v10) (.val (.int .i64 9)))) λv27=>
 bind1 (pickS v24 (.val (.bool true)) v27) λv28=>
 bindB (Slot.isB v28 false) λw_4=>
 bindB (Slot.isB v28 false) λw_5=>
 bind1 (gd w_5 (binS (C.ti Q3) .eql (gdV w_4 v10) (.val (.int .i64 11)))) λv31=>
 bind1 (pickS v28 (.val (.bool true)) v31) λv32=>
 bind1 (binS (C.ti Q3) .eql v10 (.val (.int .i64 2))) λv34=>
 bindB (Slot.isB v34 false) λw_6=>
 bindB (Slot.isB v34 false) λw_7=>
 bind1 (gd w_7 (binS (C.ti Q3) .eql (gdV w_6 v10) (.val (.int .i64 3)))) λv37=>
 bind1 (pickS v34 (.val (.bool true)) v37) λv38=>
 bind1 (unS .not v38) λv40=>
 bindB (Slot.isB v40 true) λw_8=>
 bindB (Slot.isB v40 true) λw_9=>
 bind1 (gd w_9 (bif w_8 then (ofSlots (C.ti Q1) (List.take (C.ti Q1).size (List.drop 2 c1))) else none)) λv43=>
 bindB (Slot.isB v40 true) λw_10=>
 bind1 (gd w_10 (binS (C.ti Q1) .neq v43 (.val (.str [])))) λv44=>
 bind1 (pickS v40 v44 (.val (.bool false))) λv45=>
 bindB (Slot.isB v45 false) λw_11=>
 bindB (Slot.isB v45 false) λw_12=>
 bind1 (gd w_12 (binS (C.ti Q3) .neq (gdV w_11 v10) (.val (.int .i64 1)))) λv48=>
 bindB (Slot.isB v45 false) λw_13=>
 bindB (Slot.isB (gdV w_13 v48) true) λw_14=>
 bindB (Slot.isB (gdV w_13 v48) true) λw_15=>
 bind1 (gd w_15 (binS (C.ti Q3) .neq (gdV w_14 v10) (.val (.int .i64 13)))) λv51=>
 bindB (Slot.isB v45 false) λw_16=>
 bind1 (gd w_16 (pickS (gdV w_13 v48) v51 (.val (.bool false)))) λv52=>
 bindB (Slot.isB v45 false) λw_17=>
 bindB (Slot.isB (gdV w_17 v52) true) λw_18=>
 bindB (Slot.isB (gdV w_17 v52) true) λw_19=>
 bind1 (gd w_19 (bif w_18 then (ofSlots (C.ti Q2) (List.take (C.ti Q2).size (List.drop 3 c1))) else none)) λv55=>
 bindB (Slot.isB (gdV w_17 v52) true) λw_20=>
 bind1 (gd w_20 (binS (C.ti Q2) .neq v55 (.val (.int .i64 0)))) λv56=>
 bindB (Slot.isB v45 false) λw_21=>
 bind1 (gd w_21 (pickS (gdV w_17 v52) v56 (.val (.bool false)))) λv57=>
 bind1 (pickS v45 (.val (.bool true)) v57) λv58=>
 bindB (Slot.isB v58 false) λw_22=>
 bindB (Slot.isB v58 false) λw_23=>
 bind1 (gd w_23 (unS .not (gdV w_22 v22))) λv61=>
 bindB (Slot.isB v58 false) λw_24=>
 bindB (Slot.isB (gdV w_24 v61) true) λw_25=>
 bindB (Slot.isB (gdV w_24 v61) true) λw_26=>
 bind1 (gd w_26 (bif w_25 then (ofSlots (C.ti Q7) (List.take (C.ti Q7).size (List.drop 4 c1))) else none)) λv64=>
 bindB (Slot.isB (gdV w_24 v61) true) λw_27=>
 bind1 (gd w_27 (lenS (C.ti Q7) v64)) λv65=>
 bindB (Slot.isB (gdV w_24 v61) true) λw_28=>
 bind1 (gd w_28 (binS (C.ti Q2) .gtr v65 (.val (.int .i64 0)))) λv66=>
 bindB (Slot.isB v58 false) λw_29=>
 bind1 (gd w_29 (pickS (gdV w_24 v61) v66 (.val (.bool false)))) λv67=>
 bind1 (pickS v58 (.val (.bool true)) v67) λv68=>
 bindB (Slot.isB v68 false) λw_30=>
 bindB (Slot.isB v68 false) λw_31=>
 bind1 (gd w_31 (unS .not (gdV w_30 v32))) λv71=>
 bindB (Slot.isB v68 false) λw_32=>
 bindB (Slot.isB (gdV w_32 v71) true) λw_33=>
 bindB (Slot.isB (gdV w_32 v71) true) λw_34=>
 bind1 (gd w_34 (bif w_33 then (ofSlots (C.ti Q8) (List.take (C.ti Q8).size (List.drop 5 c1))) else none)) λv74=>
 bindB (Slot.isB (gdV w_32 v71) true) λw_35=>
 bind1 (gd w_35 (lenS (C.ti Q8) v74)) λv75=>
 bindB (Slot.isB (gdV w_32 v71) true) λw_36=>
 bind1 (gd w_36 (binS (C.ti Q2) .gtr v75 (.val (.int .i64 0)))) λv76=>
 bindB (Slot.isB v68 false) λw_37=>
 bind1 (gd w_37 (pickS (gdV w_32 v71) v76 (.val (.bool false)))) λv77=>
 bind1 (pickS v68 (.val (.bool true)) v77) λv78=>
 bindB (Slot.isB v78 false) λw_38=>
 bindB (Slot.isB v78 false) λw_39=>
 bind1 (gd w_39 (binS (C.ti Q3) .neq (gdV w_38 v10) (.val (.int .i64 7)))) λv81=>
 bindB (Slot.isB v78 false) λw_40=>
 bindB (Slot.isB (gdV w_40 v81) true) λw_41=>
 bindB (Slot.isB (gdV w_40 v81) true) λw_42=>
 bind1 (gd w_42 (bif w_41 then (ofSlots (C.ti Qw) (List.take (C.ti Qw).size (List.drop 6 c1))) else none)) λv84=>
 bindB (Slot.isB (gdV w_40 v81) true) λw_43=>
 bind1 (gd w_43 (lenS (C.ti Qw) v84)) λv85=>
 bindB (Slot.isB (gdV w_40 v81) true) λw_44=>
 bind1 (gd w_44 (binS (C.ti Q2) .gtr v85 (.val (.int .i64 0)))) λv86=>
 bindB (Slot.isB v78 false) λw_45=>
 bind1 (gd w_45 (pickS (gdV w_40 v81) v86 (.val (.bool false)))) λv87=>
 bind1 (pickS v78 (.val (.bool true)) v87) λv88=>
 condS v88 (
 some (.ret (.val (.int .i64 29)),s_1)) (
 bind1 (binS (C.ti Q3) .eql v10 (.val (.int .i64 2))) λv90=>
 bindB (Slot.isB v90 true) λw_46=>
 bindB (Slot.isB v90 true) λw_47=>
 bind1 (gd w_47 (bif w_46 then (ofSlots (C.ti Q1) (List.take (C.ti Q1).size (List.drop 2 c1))) else none)) λv93=>
 bindB (Slot.isB v90 true) λw_48=>
 back (cal cw w_48 (tgtV (.val (.fn Q1m [])) [v93]) s_1) λv94 s_2=>
 bindB (Slot.isB v90 true) λw_49=>
 bind1 (gd w_49 (unS .not v94)) λv95=>
 bind1 (pickS v90 v95 (.val (.bool false))) λv96=>
 bindB (Slot.isB v96 false) λw_50=>
 bindB (Slot.isB v96 false) λw_51=>
 bind1 (gd w_51 (binS (C.ti Q3) .eql (gdV w_50 v10) (.val (.int .i64 3)))) λv99=>
 bindB (Slot.isB v96 false) λw_52=>
 bindB (Slot.isB (gdV w_52 v99) true) λw_53=>
 bindB (Slot.isB (gdV w_52 v99) true) λw_54=>
 bind1 (gd w_54 (bif w_53 then (ofSlots (C.ti Q1) (List.take (C.ti Q1).size (List.drop 2 c1))) else none)) λv102=>
 bindB (Slot.isB (gdV w_52 v99) true) λw_55=>
 back (cal cw w_55 (tgtV (.val (.fn Q5z [])) [v102]) s_2) λv103 s_3=>
 bindB (Slot.isB (gdV w_52 v99) true) λw_56=>
 bind1 (gd w_56 (unS .not v103)) λv104=>
 bindB (Slot.isB v96 false) λw_57=>
 bind1 (gd w_57 (pickS (gdV w_52 v99) v104 (.val (.bool false)))) λv105=>
 bind1 (pickS v96 (.val (.bool true)) v105) λv106=>
 condS v106 (
 some (.ret (.val (.int .i64 8)),s_3)) (
 bind1 (binS (C.ti Q3) .eql v10 (.val (.int .i64 1))) λv108=>
 bindB (Slot.isB v108 true) λw_58=>
 bindB (Slot.isB v108 true) λw_59=>
 bind1 (gd w_59 (bif w_58 then (ofSlots (C.ti Q2) (List.take (C.ti Q2).size (List.drop 3 c1))) else none)) λv111=>
 bindB (Slot.isB v108 true) λw_60=>
 back (cal cw w_60 (tgtV (.val (.fn Q3Q [])) [v111]) s_3) λv112 s_4=>
 bindB (Slot.isB v108 true) λw_61=>
 bind1 (gd w_61 (unS .not v112)) λv113=>
 bind1 (pickS v108 v113 (.val (.bool false))) λv114=>
 bindB (Slot.isB v114 false) λw_62=>
 bindB (Slot.isB v114 false) λw_63=>
 bind1 (gd w_63 (binS (C.ti Q3) .eql (gdV w_62 v10) (.val (.int .i64 13)))) λv117=>
 bindB (Slot.isB v114 false) λw_64=>
 bindB (Slot.isB (gdV w_64 v117) true) λw_65=>
 bindB (Slot.isB (gdV w_64 v117) true) λw_66=>
 bind1 (gd w_66 (bif w_65 then (ofSlots (C.ti Q2) (List.take (C.ti Q2).size (List.drop 3 c1))) else none)) λv120=>
 bindB (Slot.isB (gdV w_64 v117) true) λw_67=>
 back (cal cw w_67 (tgtV (.val (.fn Q13 [])) [v120,(.val (.int .i64 1)),(.val (.int .i64 9))]) s_4) λv121 s_5=>
 bindB (Slot.isB (gdV w_64 v117) true) λw_68=>
 bind1 (gd w_68 (unS .not v121)) λv122=>
 bindB (Slot.isB v114 false) λw_69=>
 bind1 (gd w_69 (pickS (gdV w_64 v117) v122 (.val (.bool false)))) λv123=>
 bind1 (pickS v114 (.val (.bool true)) v123) λv124=>
 condS v124 (
 some (.ret (.val (.int .i64 2)),s_5)) (
 bindB (Slot.isB v22 true) λw_70=>
 bindB (Slot.isB v22 true) λw_71=>
 bind1 (gd w_71 (bif w_70 then (ofSlots (C.ti Q7) (List.take (C.ti Q7).size (List.drop 4 c1))) else none)) λv128=>
 bindB (Slot.isB v22 true) λw_72=>
 bind1 (gd w_72 (lenS (C.ti Q7) v128)) λv129=>
 bindB (Slot.isB v22 true) λw_73=>
 bindB (Slot.isB v22 true) λw_74=>
 bindB (Slot.isB v22 true) λw_75=>
 back (cal cw w_75 (tgtV (.val (.fn Q13 [])) [v129,(gdV w_73 v20),(gdV w_74 v21)]) s_5) λv132 s_6=>
 bindB (Slot.isB v22 true) λw_76=>
 bind1 (gd w_76 (unS .not v132)) λv133=>
 bind1 (pickS v22 v133 (.val (.bool false))) λv134=>
 bindB (Slot.isB v134 false) λw_77=>
 bindB (Slot.isB v134 false) λw_78=>
 bindB (Slot.isB (gdV w_78 (gdV w_77 v32)) true) λw_79=>
 bindB (Slot.isB (gdV w_78 (gdV w_77 v32)) true) λw_80=>
 bind1 (gd w_80 (bif w_79 then (ofSlots (C.ti Q8) (List.take (C.ti Q8).size (List.drop 5 c1))) else none)) λv139=>
 bindB (Slot.isB (gdV w_78 (gdV w_77 v32)) true) λw_81=>
 bind1 (gd w_81 (lenS (C.ti Q8) v139)) λv140=>
 bindB (Slot.isB (gdV w_78 (gdV w_77 v32)) true) λw_82=>
 bind1 (gd w_82 (binS (C.ti Q2) .lss v140 (.val (.int .i64 1)))) λv141=>
 bindB (Slot.isB v134 false) λw_83=>
 bind1 (gd w_83 (pickS (gdV w_78 (gdV w_77 v32)) v141 (.val (.bool false)))) λv142=>
 bind1 (pickS v134 (.val (.bool true)) v142) λv143=>
 bindB (Slot.isB v143 false) λw_84=>
 bindB (Slot.isB v143 false) λw_85=>
 bind1 (gd w_85 (binS (C.ti Q3) .eql (gdV w_84 v10) (.val (.int .i64 7)))) λv146=>
 bindB (Slot.isB v143 false) λw_86=>
 bindB (Slot.isB (gdV w_86 v146) true) λw_87=>
 bindB (Slot.isB (gdV w_86 v146) true) λw_88=>
 bind1 (gd w_88 (bif w_87 then (ofSlots (C.ti Qw) (List.take (C.ti Qw).size (List.drop 6 c1))) else none)) λv149=>
 bindB (Slot.isB (gdV w_86 v146) true) λw_89=>
 bind1 (gd w_89 (lenS (C.ti Qw) v149)) λv150=>
 bindB (Slot.isB (gdV w_86 v146) true) λw_90=>
 bind1 (gd w_90 (binS (C.ti Q2) .lss v150 (.val (.int .i64 1)))) λv151=>
 bindB (Slot.isB v143 false) λw_91=>
 bind1 (gd w_91 (pickS (gdV w_86 v146) v151 (.val (.bool false)))) λv152=>
 bind1 (pickS v143 (.val (.bool true)) v152) λv153=>
 condS v153 (
 some (.ret (.val (.int .i64 19)),s_6)) (
 some (.ret (.val (.int .i64 0)),s_6)))))):=(Q5 _ _ _).trans (by kernel_rfl)
theorem Qgs(a0:AV)(s:St):cw (.f Q7P) [a0] s =
 bx Qq (.val a0) λc1=>
 gC Qd 0 c1 λv7=>
 bn Qd .lss v7 (iv 1) λv9=>
 iF v9 λw=>
 iF v9 λw_1=>
 gB w_1 Qd .gtr (gdV w v7) (iv 6) λv12=>
 pk v9 (bv true) v12 λv13=>
 condS v13 (
 some (.ret (iv 29),s)) (
 bn Qd .eql v7 (iv 2) λv15=>
 iF v15 λw_2=>
 iF v15 λw_3=>
 gB w_3 Qd .eql (gdV w_2 v7) (iv 4) λv18=>
 pk v15 (bv true) v18 λv19=>
 iF v19 λw_4=>
 iF v19 λw_5=>
 gB w_5 Qd .eql (gdV w_4 v7) (iv 6) λv22=>
 pk v19 (bv true) v22 λv23=>
 bn Qd .eql v7 (iv 4) λv25=>
 iF v25 λw_6=>
 iF v25 λw_7=>
 gB w_7 Qd .eql (gdV w_6 v7) (iv 5) λv28=>
 pk v25 (bv true) v28 λv29=>
 iF v29 λw_8=>
 iF v29 λw_9=>
 gB w_9 Qd .eql (gdV w_8 v7) (iv 6) λv32=>
 pk v29 (bv true) v32 λv33=>
 nt v23 λv35=>
 iT v35 λw_10=>
 iT v35 λw_11=>
 gG w_11 w_10 Q1 2 c1 λv38=>
 iT v35 λw_12=>
 gB w_12 Q1 .neq v38 (sv []) λv39=>
 pk v35 v39 (bv false) λv40=>
 iF v40 λw_13=>
 iF v40 λw_14=>
 gB w_14 Qd .neq (gdV w_13 v7) (iv 3) λv43=>
 iF v40 λw_15=>
 bindB (Slot.isB (gdV w_15 v43) true) λw_16=>
 bindB (Slot.isB (gdV w_15 v43) true) λw_17=>
 gG w_17 w_16 Q2 3 c1 λv46=>
 bindB (Slot.isB (gdV w_15 v43) true) λw_18=>
 gB w_18 Q2 .neq v46 (iv 0) λv47=>
 iF v40 λw_19=>
 bind1 (gd w_19 (pickS (gdV w_15 v43) v47 (bv false))) λv48=>
 pk v40 (bv true) v48 λv49=>
 iF v49 λw_20=>
 iF v49 λw_21=>
 bind1 (gd w_21 (unS .not (gdV w_20 v33))) λv52=>
 iF v49 λw_22=>
 bindB (Slot.isB (gdV w_22 v52) true) λw_23=>
 bindB (Slot.isB (gdV w_22 v52) true) λw_24=>
 gG w_24 w_23 Qp 4 c1 λv55=>
 bindB (Slot.isB (gdV w_22 v52) true) λw_25=>
 gL w_25 Qp v55 λv56=>
 bindB (Slot.isB (gdV w_22 v52) true) λw_26=>
 gB w_26 Q2 .gtr v56 (iv 0) λv57=>
 iF v49 λw_27=>
 bind1 (gd w_27 (pickS (gdV w_22 v52) v57 (bv false))) λv58=>
 pk v49 (bv true) v58 λv59=>
 condS v59 (
 some (.ret (iv 29),s)) (
 bn Qd .eql v7 (iv 4) λv61=>
 iT v61 λw_28=>
 iT v61 λw_29=>
 gG w_29 w_28 Q1 2 c1 λv64=>
 iT v61 λw_30=>
 cg w_30 Q5z [v64] s λv65 s_1=>
 iT v61 λw_31=>
 gN w_31 v65 λv66=>
 pk v61 v66 (bv false) λv67=>
 iF v67 λw_32=>
 iF v67 λw_33=>
 bindB (Slot.isB (gdV w_33 (gdV w_32 v23)) true) λw_34=>
 bindB (Slot.isB (gdV w_33 (gdV w_32 v23)) true) λw_35=>
 gB w_35 Qd .neq (gdV w_34 v7) (iv 4) λv72=>
 iF v67 λw_36=>
 bind1 (gd w_36 (pickS (gdV w_33 (gdV w_32 v23)) v72 (bv false))) λv73=>
 iF v67 λw_37=>
 bindB (Slot.isB (gdV w_37 v73) true) λw_38=>
 bindB (Slot.isB (gdV w_37 v73) true) λw_39=>
 gG w_39 w_38 Q1 2 c1 λv76=>
 bindB (Slot.isB (gdV w_37 v73) true) λw_40=>
 cg w_40 Q1m [v76] s_1 λv77 s_2=>
 bindB (Slot.isB (gdV w_37 v73) true) λw_41=>
 gN w_41 v77 λv78=>
 iF v67 λw_42=>
 bind1 (gd w_42 (pickS (gdV w_37 v73) v78 (bv false))) λv79=>
 pk v67 (bv true) v79 λv80=>
 condS v80 (
 some (.ret (iv 8),s_2)) (
 bn Qd .eql v7 (iv 3) λv82=>
 iT v82 λw_43=>
 iT v82 λw_44=>
 gG w_44 w_43 Q2 3 c1 λv85=>
 iT v82 λw_45=>
 cg w_45 Q3Q [v85] s_2 λv86 s_3=>
 iT v82 λw_46=>
 gN w_46 v86 λv87=>
 pk v82 v87 (bv false) λv88=>
 condS v88 (
 some (.ret (iv 2),s_3)) (
 bn Qd .eql v7 (iv 4) λv90=>
 iT v90 λw_47=>
 iT v90 λw_48=>
 gG w_48 w_47 Qp 4 c1 λv93=>
 iT v90 λw_49=>
 gL w_49 Qp v93 λv94=>
 iT v90 λw_50=>
 gB w_50 Q2 .gtr v94 (iv 1) λv95=>
 pk v90 v95 (bv false) λv96=>
 iF v96 λw_51=>
 iF v96 λw_52=>
 gB w_52 Qd .eql (gdV w_51 v7) (iv 5) λv99=>
 iF v96 λw_53=>
 bindB (Slot.isB (gdV w_53 v99) true) λw_54=>
 bindB (Slot.isB (gdV w_53 v99) true) λw_55=>
 gG w_55 w_54 Qp 4 c1 λv102=>
 bindB (Slot.isB (gdV w_53 v99) true) λw_56=>
 gL w_56 Qp v102 λv103=>
 bindB (Slot.isB (gdV w_53 v99) true) λw_57=>
 cg w_57 Q13 [v103,(iv 2),(iv 8)] s_3 λv104 s_4=>
 bindB (Slot.isB (gdV w_53 v99) true) λw_58=>
 gN w_58 v104 λv105=>
 iF v96 λw_59=>
 bind1 (gd w_59 (pickS (gdV w_53 v99) v105 (bv false))) λv106=>
 pk v96 (bv true) v106 λv107=>
 iF v107 λw_60=>
 iF v107 λw_61=>
 gB w_61 Qd .eql (gdV w_60 v7) (iv 6) λv110=>
 iF v107 λw_62=>
 bindB (Slot.isB (gdV w_62 v110) true) λw_63=>
 bindB (Slot.isB (gdV w_62 v110) true) λw_64=>
 gG w_64 w_63 Qp 4 c1 λv113=>
 bindB (Slot.isB (gdV w_62 v110) true) λw_65=>
 gL w_65 Qp v113 λv114=>
 bindB (Slot.isB (gdV w_62 v110) true) λw_66=>
 gB w_66 Q2 .neq v114 (iv 1) λv115=>
 iF v107 λw_67=>
 bind1 (gd w_67 (pickS (gdV w_62 v110) v115 (bv false))) λv116=>
 pk v107 (bv true) v116 λv117=>
 condS v117 (
 some (.ret (iv 19),s_4)) (
 some (.ret (iv 0),s_4)))))):=(Q5 _ _ _).trans (by kernel_rfl)
theorem Qhj(a0:AV)(s:St):cw (.f Q8s) [a0] s =
 bx Qu (.val a0) λc1=>
 gC Qs 0 c1 λv6=>
 bn Qs .eql v6 (iv 1) λv7=>
 condS v7 (
 gC Q1 2 c1 λv9=>
 bn Q1 .neq v9 (sv []) λv10=>
 iF v10 λw=>
 iF v10 λw_1=>
 gG w_1 w Ql 3 c1 λv13=>
 iF v10 λw_2=>
 gL w_2 Ql v13 λv14=>
 iF v10 λw_3=>
 gB w_3 Q2 .gtr v14 (iv 0) λv15=>
 pk v10 (bv true) v15 λv16=>
 condS v16 (
 some (.ret (iv 29),s)) (
 gC Q2 1 c1 λv18=>
 bn Q2 .lss v18 (iv 0) λv19=>
 condS v19 (
 some (.ret (iv 2),s)) (
 some (.ret (iv 0),s)))) (
 gC Qs 0 c1 λv21=>
 bn Qs .neq v21 (iv 2) λv22=>
 iF v22 λw_4=>
 iF v22 λw_5=>
 gG w_5 w_4 Q2 1 c1 λv25=>
 iF v22 λw_6=>
 gB w_6 Q2 .neq v25 (iv 0) λv26=>
 pk v22 (bv true) v26 λv27=>
 condS v27 (
 some (.ret (iv 29),s)) (
 gC Q1 2 c1 λv29=>
 bn Q1 .neq v29 (sv [114,101,102]) λv30=>
 iT v30 λw_7=>
 iT v30 λw_8=>
 gG w_8 w_7 Q1 2 c1 λv33=>
 iT v30 λw_9=>
 gB w_9 Q1 .neq v33 (sv [45,62]) λv34=>
 pk v30 v34 (bv false) λv35=>
 iT v35 λw_10=>
 iT v35 λw_11=>
 gG w_11 w_10 Q1 2 c1 λv38=>
 iT v35 λw_12=>
 gB w_12 Q1 .neq v38 (sv [42]) λv39=>
 pk v35 v39 (bv false) λv40=>
 iT v40 λw_13=>
 iT v40 λw_14=>
 gG w_14 w_13 Q1 2 c1 λv43=>
 iT v40 λw_15=>
 cg w_15 Q1m [v43] s λv44 s_1=>
 iT v40 λw_16=>
 gN w_16 v44 λv45=>
 pk v40 v45 (bv false) λv46=>
 condS v46 (
 some (.ret (iv 8),s_1)) (
 gC Q1 2 c1 λv49=>
 ca Q4o [v49] s_1 λv50 s_2=>
 ex v50 0 λv51=>
 ex v50 1 λv52=>
 gC Ql 3 c1 λv54=>
 ln Ql v54 λv55=>
 ca Q13 [v55,v51,v52] s_2 λv58 s_3=>
 nt v58 λv59=>
 condS v59 (
 some (.ret (iv 19),s_3)) (
 some (.ret (iv 0),s_3))))):=(Q5 _ _ _).trans (by kernel_rfl)
theorem Qgo(a0:AV)(s:St):cw (.f Q1m) [a0] s =
 ca Q1y [(.val a0),(bv false)] s λv4 s_1=>
 iT v4 λw=>
 iT v4 λw_1=>
 gB w_1 Q1 .neq (gdV w (.val a0)) (sv [95]) λv7=>
 pk v4 v7 (bv false) λv8=>
 iT v8 λw_2=>
 iT v8 λw_3=>
 gB w_3 Q1 .neq (gdV w_2 (.val a0)) (sv [116,114,117,101]) λv11=>
 pk v8 v11 (bv false) λv12=>
 iT v12 λw_4=>
 iT v12 λw_5=>
 gB w_5 Q1 .neq (gdV w_4 (.val a0)) (sv [102,97,108,115,101]) λv15=>
 pk v12 v15 (bv false) λv16=>
 iT v16 λw_6=>
 iT v16 λw_7=>
 cg w_7 Q69 [] s_1 λv19 s_2=>
 iT v16 λw_8=>
 cg w_8 Q3O [(gdV w_6 (.val a0)),v19] s_2 λv20 s_3=>
 iT v16 λw_9=>
 gN w_9 v20 λv21=>
 pk v16 v21 (bv false) λv22=>
 some (.ret v22,s_3):=(Q5 _ _ _).trans (by kernel_rfl)
theorem Qcg(a0:AV)(s:St):cw (.f Q5g) [a0] s =
 bx Qu (.val a0) λc1=>
 gC Qs 0 c1 λv4=>
 bn Qs .eql v4 (iv 0) λv5=>
 iT v5 λw=>
 iT v5 λw_1=>
 gG w_1 w Q2 1 c1 λv8=>
 iT v5 λw_2=>
 gB w_2 Q2 .eql v8 (iv 0) λv9=>
 pk v5 v9 (bv false) λv10=>
 iT v10 λw_3=>
 iT v10 λw_4=>
 gG w_4 w_3 Q1 2 c1 λv13=>
 iT v10 λw_5=>
 gB w_5 Q1 .eql v13 (sv []) λv14=>
 pk v10 v14 (bv false) λv15=>
 iT v15 λw_6=>
 iT v15 λw_7=>
 gG w_7 w_6 Ql 3 c1 λv18=>
 iT v15 λw_8=>
 gL w_8 Ql v18 λv19=>
 iT v15 λw_9=>
 gB w_9 Q2 .eql v19 (iv 0) λv20=>
 pk v15 v20 (bv false) λv21=>
 some (.ret v21,s):=(Q5 _ _ _).trans (by kernel_rfl)
theorem Qbi(a0:AV)(s:St):cw (.f Q2G) [a0] s =
 ca Q1y [(.val a0),(bv true)] s λv4 s_1=>
 some (.ret v4,s_1):=(Q5 _ _ _).trans (by kernel_rfl)
noncomputable def Q2p:Slot→List Slot→Slot→Slot→St→Res:=λx1 x2 x5 x6 s=>lpD Q1w [.seqR,.seqR,.seqL,.seqR,.block] Tryz.f150 [(1,.s x1),(2,.var x2),(5,.s x5),(6,.s x6)] s
theorem Q7b:∀ x1 x2 x5 x6 s_1,Q2p x1 x2 x5 x6 s_1 =
 gC Ql 3 x2 λv13=>
 ln Ql v13 λv14=>
 bn Q2 .lss x6 v14 λv15=>
 condS v15 (
 gC Ql 3 x2 λv20=>
 ix Qu v20 x6 λv22=>
 ld Qu s_1 v22 λv23=>
 ca Q1w [v23,x1] s_1 λv25 s_2=>
 ap Qc s_2 x5 v25 λv26 s_3=>
 nx x6 λv17=>
 Q2p x1 x2 v26 v17 s_3) (
 some (.ret x5,s_1)):=by intros;unfold Q2p;exact (Qb _ _ _ _ _ _).trans (by kernel_rfl)
theorem QeQ(a0:AV)(a1:AV)(s:St):cw (.f Q1w) [a0,a1] s =
 bx Qu (.val a0) λc2=>
 gA Qu c2 λv7=>
 bd Qc [(0,Q2,(iv 4)),(22,Qu,v7),(2,Q2,(.val a1))] λv9=>
 bs Qc [v9] λv10=>
 Q2p (.val a1) c2 v10 (iv 0) s:=(Q5 _ _ _).trans (by kernel_rfl)
noncomputable def ZO:Slot→Slot→List Slot→Slot→Slot→St→Res:=λx1 x2 x3 x19 x20 s=>lpD Zt [.seqR,.seqR,.seqL,.seqR,.block] Tryz.f161 [(1,.s x1),(2,.s x2),(3,.var x3),(19,.s x19),(20,.s x20)] s
theorem Q3l:∀ x1 x2 x3 x19 x20 s_2,ZO x1 x2 x3 x19 x20 s_2 =
 bn Q2 .lss x20 x19 λv21=>
 condS v21 (
 gA QC x3 λv23=>
 bind1 (nilCheckV x1) λv25=>
 fa 3 v25 λv26=>
 ld Ql s_2 v26 λv27=>
 ix Qu v27 x20 λv29=>
 cn Zt [v23,v29,x2] s_2 λv31 s_3=>
 nt v31 λv32=>
 condS v32 (
 some (.ret (bv false),s_3)) (
 nx x20 λv33=>
 ZO x1 x2 x3 x19 v33 s_3)) (
 some (.ret (bv true),s_2)):=by intros;unfold ZO;exact (Qb _ _ _ _ _ _).trans (by kernel_rfl)
theorem Q8X(a0:AV)(a1:AV)(a2:AV)(s:St):cw (.f Zt) [a0,a1,a2] s =
 bx QC (.val a0) λc3=>
 gC Qn 0 c3 λv9=>
 bd Z2 [(6,Q5G,(.val a1)),(7,Q2,(.val a2))] λv12=>
 back (cal cw true (tgtV v9 [v12]) s) λv13 s_1=>
 nt v13 λv14=>
 condS v14 (
 some (.ret (bv false),s_1)) (
 bind1 (nilCheckV (.val a1)) λv16=>
 fa 3 v16 λv17=>
 ld Ql s_1 v17 λv18=>
 ln Ql v18 λv19=>
 ZO (.val a1) (.val a2) c3 v19 (iv 0) s_1):=(Q5 _ _ _).trans (by kernel_rfl)
theorem Qfg(a0:AV)(s:St):cw (.f Q4A) [a0] s =
 bn Qg .geq (.val a0) (.val (.int .u8 97)) λv4=>
 iT v4 λw=>
 iT v4 λw_1=>
 gB w_1 Qg .leq (gdV w (.val a0)) (.val (.int .u8 122)) λv7=>
 pk v4 v7 (bv false) λv8=>
 iF v8 λw_2=>
 iF v8 λw_3=>
 gB w_3 Qg .eql (gdV w_2 (.val a0)) (.val (.int .u8 95)) λv11=>
 pk v8 (bv true) v11 λv12=>
 some (.ret v12,s):=(Q5 _ _ _).trans (by kernel_rfl)
noncomputable def Q3H:Slot→Slot→St→Res:=λx0 x3 s=>lpD Q4z [.seqR,.seqL,.seqR,.block] Tryz.f163 [(0,.s x0),(3,.s x3)] s
theorem Q8o:∀ x0 x3 s_1,Q3H x0 x3 s_1 =
 ln Q1 x0 λv7=>
 bn Q2 .lss x3 v7 λv8=>
 condS v8 (
 bind1 (indexS (C.ti Q1) (C.ti T_0) x0 x3) λv13=>
 ca Q4A [v13] s_1 λv15 s_2=>
 nt v15 λv16=>
 iT v16 λw=>
 iT v16 λw_1=>
 cg w_1 Q4x [(gdV w v13)] s_2 λv19 s_3=>
 iT v16 λw_2=>
 gN w_2 v19 λv20=>
 pk v16 v20 (bv false) λv21=>
 iT v21 λw_3=>
 iT v21 λw_4=>
 gB w_4 Qg .lss (gdV w_3 v13) (.val (.int .u8 48)) λv24=>
 iT v21 λw_5=>
 bindB (Slot.isB (gdV w_5 v24) false) λw_6=>
 bindB (Slot.isB (gdV w_5 v24) false) λw_7=>
 gB w_7 Qg .gtr (gdV w_6 v13) (.val (.int .u8 57)) λv27=>
 iT v21 λw_8=>
 bind1 (gd w_8 (pickS (gdV w_5 v24) (bv true) v27)) λv28=>
 pk v21 v28 (bv false) λv29=>
 iT v29 λw_9=>
 iT v29 λw_10=>
 gB w_10 Qg .neq (gdV w_9 v13) (.val (.int .u8 39)) λv32=>
 pk v29 v32 (bv false) λv33=>
 condS v33 (
 some (.ret (bv false),s_3)) (
 nx x3 λv10=>
 Q3H x0 v10 s_3)) (
 ln Q1 x0 λv35=>
 bn Q2 .leq v35 (iv 32) λv36=>
 some (.ret v36,s_1)):=by intros;unfold Q3H;exact (Qb _ _ _ _ _ _).trans (by kernel_rfl)
theorem Qht(a0:AV)(s:St):cw (.f Q4z) [a0] s =
 Q3H (.val a0) (iv 1) s:=(Q5 _ _ _).trans (by kernel_rfl)
theorem QcC(a0:AV)(s:St):cw (.f Q3d) [a0] s =
 bn Q1 .neq (.val a0) (sv []) λv4=>
 iT v4 λw=>
 iT v4 λw_1=>
 bind1 (gd w_1 (indexS (C.ti Q1) (C.ti T_0) (gdV w (.val a0)) (iv 0))) λv7=>
 iT v4 λw_2=>
 cg w_2 Q4x [v7] s λv8 s_1=>
 pk v4 v8 (bv false) λv9=>
 iT v9 λw_3=>
 iT v9 λw_4=>
 cg w_4 Q4z [(gdV w_3 (.val a0))] s_1 λv12 s_2=>
 pk v9 v12 (bv false) λv13=>
 some (.ret v13,s_2):=(Q5 _ _ _).trans (by kernel_rfl)
theorem Q8n(a0:AV)(s:St):cw (.f Q93) [a0] s =
 bind1 (binS (C.ti Q3) .eql (.val a0) (.val (.int .i64 1))) λv6=>
 condS v6 (
 bindL (boxCells (C.ti Qy) (.val (.bool true))) λc=>
 bindL (putAt (List.map .val (C.ti Q0).zero) 1 c) λc2=>
 bind1 (ofSlots (C.ti Q0) (List.take (C.ti Q0).size c2)) λv58=>
 bindL (boxCells (C.ti Q0) v58) λc_1=>
 bindL (putAt c2 0 c_1) λc2_1=>
 bind1 (tupS [(ofSlots (C.ti Q0) (List.take (C.ti Q0).size c2_1)),(some (.val (.bool true)))]) λv=>some (.ret v,s)) (
 bind1 (binS (C.ti Q3) .eql (.val a0) (.val (.int .i64 2))) λv8=>
 condS v8 (
 bindL (boxCells (C.ti Qy) (.val (.bool true))) λc_2=>
 bindL (putAt (List.map .val (C.ti Q0).zero) 0 c_2) λc2_2=>
 bind1 (ofSlots (C.ti Q0) (List.take (C.ti Q0).size c2_2)) λv58_1=>
 bindL (boxCells (C.ti Q0) v58_1) λc_3=>
 bindL (putAt c2_2 0 c_3) λc2_3=>
 bind1 (tupS [(ofSlots (C.ti Q0) (List.take (C.ti Q0).size c2_3)),(some (.val (.bool true)))]) λv=>some (.ret v,s)) (
 bind1 (binS (C.ti Q3) .eql (.val a0) (.val (.int .i64 3))) λv10=>
 condS v10 (
 bindL (boxCells (C.ti Qy) (.val (.bool true))) λc_4=>
 bindL (putAt (List.map .val (C.ti Q0).zero) 0 c_4) λc2_4=>
 bindL (boxCells (C.ti Q2) (.val (.int .i64 1))) λc_5=>
 bindL (putAt c2_4 5 c_5) λc2_5=>
 bind1 (ofSlots (C.ti Q0) (List.take (C.ti Q0).size c2_5)) λv58_2=>
 bindL (boxCells (C.ti Q0) v58_2) λc_6=>
 bindL (putAt c2_5 0 c_6) λc2_6=>
 bind1 (tupS [(ofSlots (C.ti Q0) (List.take (C.ti Q0).size c2_6)),(some (.val (.bool true)))]) λv=>some (.ret v,s)) (
 bind1 (binS (C.ti Q3) .eql (.val a0) (.val (.int .i64 4))) λv12=>
 condS v12 (
 bindL (boxCells (C.ti Q2) (.val (.int .i64 2))) λc_7=>
 bindL (putAt (List.map .val (C.ti Q0).zero) 4 c_7) λc2_7=>
 bindL (boxCells (C.ti Q2) (.val (.int .i64 8))) λc_8=>
 bindL (putAt c2_7 5 c_8) λc2_8=>
 bind1 (ofSlots (C.ti Q0) (List.take (C.ti Q0).size c2_8)) λv58_3=>
 bindL (boxCells (C.ti Q0) v58_3) λc_9=>
 bindL (putAt c2_8 0 c_9) λc2_9=>
 bind1 (tupS [(ofSlots (C.ti Q0) (List.take (C.ti Q0).size c2_9)),(some (.val (.bool true)))]) λv=>some (.ret v,s)) (
 bind1 (binS (C.ti Q3) .eql (.val a0) (.val (.int .i64 5))) λv14=>
 condS v14 (
 bindL (boxCells (C.ti Qy) (.val (.bool true))) λc_10=>
 bindL (putAt (List.map .val (C.ti Q0).zero) 2 c_10) λc2_10=>
 bind1 (ofSlots (C.ti Q0) (List.take (C.ti Q0).size c2_10)) λv58_4=>
 bindL (boxCells (C.ti Q0) v58_4) λc_11=>
 bindL (putAt c2_10 0 c_11) λc2_11=>
 bind1 (tupS [(ofSlots (C.ti Q0) (List.take (C.ti Q0).size c2_11)),(some (.val (.bool true)))]) λv=>some (.ret v,s)) (
 bind1 (binS (C.ti Q3) .eql (.val a0) (.val (.int .i64 10))) λv16=>
 condS v16 (
 bindL (boxCells (C.ti Q2) (.val (.int .i64 2))) λc_12=>
 bindL (putAt (List.map .val (C.ti Q0).zero) 4 c_12) λc2_12=>
 bindL (boxCells (C.ti Q2) (.val (.int .i64 4611686018427387904))) λc_13=>
 bindL (putAt c2_12 5 c_13) λc2_13=>
 bind1 (ofSlots (C.ti Q0) (List.take (C.ti Q0).size c2_13)) λv58_5=>
 bindL (boxCells (C.ti Q0) v58_5) λc_14=>
 bindL (putAt c2_13 0 c_14) λc2_14=>
 bind1 (tupS [(ofSlots (C.ti Q0) (List.take (C.ti Q0).size c2_14)),(some (.val (.bool true)))]) λv=>some (.ret v,s)) (
 bind1 (binS (C.ti Q3) .eql (.val a0) (.val (.int .i64 8))) λv18=>
 condS v18 (
 bindL (boxCells (C.ti Q2) (.val (.int .i64 3))) λc_15=>
 bindL (putAt (List.map .val (C.ti Q0).zero) 4 c_15) λc2_15=>
 bindL (boxCells (C.ti Q2) (.val (.int .i64 3))) λc_16=>
 bindL (putAt c2_15 5 c_16) λc2_16=>
 bind1 (ofSlots (C.ti Q0) (List.take (C.ti Q0).size c2_16)) λv58_6=>
 bindL (boxCells (C.ti Q0) v58_6) λc_17=>
 bindL (putAt c2_16 0 c_17) λc2_17=>
 bind1 (tupS [(ofSlots (C.ti Q0) (List.take (C.ti Q0).size c2_17)),(some (.val (.bool true)))]) λv=>some (.ret v,s)) (
 bind1 (binS (C.ti Q3) .eql (.val a0) (.val (.int .i64 7))) λv20=>
 condS v20 (
 bindL (boxCells (C.ti Qy) (.val (.bool true))) λc_18=>
 bindL (putAt (List.map .val (C.ti Q0).zero) 3 c_18) λc2_18=>
 bindL (boxCells (C.ti Q2) (.val (.int .i64 1))) λc_19=>
 bindL (putAt c2_18 4 c_19) λc2_19=>
 bindL (boxCells (C.ti Q2) (.val (.int .i64 1))) λc_20=>
 bindL (putAt c2_19 5 c_20) λc2_20=>
 bind1 (ofSlots (C.ti Q0) (List.take (C.ti Q0).size c2_20)) λv58_7=>
 bindL (boxCells (C.ti Q0) v58_7) λc_21=>
 bindL (putAt c2_20 0 c_21) λc2_21=>
 bind1 (tupS [(ofSlots (C.ti Q0) (List.take (C.ti Q0).size c2_21)),(some (.val (.bool true)))]) λv=>some (.ret v,s)) (
 bind1 (binS (C.ti Q3) .eql (.val a0) (.val (.int .i64 9))) λv22=>
 condS v22 (
 condS v22 (
 bindL (boxCells (C.ti Qy) (.val (.bool true))) λc_22=>
 bindL (putAt (List.map .val (C.ti Q0).zero) 2 c_22) λc2_22=>
 bindL (boxCells (C.ti Q2) (.val (.int .i64 1))) λc_23=>
 bindL (putAt c2_22 4 c_23) λc2_23=>
 bindL (boxCells (C.ti Q2) (.val (.int .i64 1))) λc_24=>
 bindL (putAt c2_23 5 c_24) λc2_24=>
 bind1 (ofSlots (C.ti Q0) (List.take (C.ti Q0).size c2_24)) λv58_8=>
 bindL (boxCells (C.ti Q0) v58_8) λc_25=>
 bindL (putAt c2_24 0 c_25) λc2_25=>
 bind1 (tupS [(ofSlots (C.ti Q0) (List.take (C.ti Q0).size c2_25)),(some (.val (.bool true)))]) λv=>some (.ret v,s)) (
 bind1 (binS (C.ti Q3) .eql (.val a0) (.val (.int .i64 12))) λv25=>
 condS v25 (
 condS v25 (
 bindL (boxCells (C.ti Q2) (.val (.int .i64 1))) λc_26=>
 bindL (putAt (List.map .val (C.ti Q0).zero) 4 c_26) λc2_26=>
 bindL (boxCells (C.ti Q2) (.val (.int .i64 1))) λc_27=>
 bindL (putAt c2_26 5 c_27) λc2_27=>
 bind1 (ofSlots (C.ti Q0) (List.take (C.ti Q0).size c2_27)) λv58_9=>
 bindL (boxCells (C.ti Q0) v58_9) λc_28=>
 bindL (putAt c2_27 0 c_28) λc2_28=>
 bind1 (tupS [(ofSlots (C.ti Q0) (List.take (C.ti Q0).size c2_28)),(some (.val (.bool true)))]) λv=>some (.ret v,s)) (
 bind1 (binS (C.ti Q3) .eql (.val a0) (.val (.int .i64 13))) λv30=>
 condS v30 (
 bindL (boxCells (C.ti Qy) (.val (.bool true))) λc_29=>
 bindL (putAt (List.map .val (C.ti Q0).zero) 1 c_29) λc2_29=>
 bindL (boxCells (C.ti Q2) (.val (.int .i64 2))) λc_30=>
 bindL (putAt c2_29 4 c_30) λc2_30=>
 bindL (boxCells (C.ti Q2) (.val (.int .i64 2))) λc_31=>
 bindL (putAt c2_30 5 c_31) λc2_31=>
 bind1 (ofSlots (C.ti Q0) (List.take (C.ti Q0).size c2_31)) λv58_10=>
 bindL (boxCells (C.ti Q0) v58_10) λc_32=>
 bindL (putAt c2_31 0 c_32) λc2_32=>
 bind1 (tupS [(ofSlots (C.ti Q0) (List.take (C.ti Q0).size c2_32)),(some (.val (.bool true)))]) λv=>some (.ret v,s)) (
 bind1 (binS (C.ti Q3) .eql (.val a0) (.val (.int .i64 6))) λv32=>
 condS v32 (
 condS v32 (
 bindL (boxCells (C.ti Q2) (.val (.int .i64 2))) λc_33=>
 bindL (putAt (List.map .val (C.ti Q0).zero) 4 c_33) λc2_33=>
 bindL (boxCells (C.ti Q2) (.val (.int .i64 2))) λc_34=>
 bindL (putAt c2_33 5 c_34) λc2_34=>
 bind1 (ofSlots (C.ti Q0) (List.take (C.ti Q0).size c2_34)) λv58_11=>
 bindL (boxCells (C.ti Q0) v58_11) λc_35=>
 bindL (putAt c2_34 0 c_35) λc2_35=>
 bind1 (tupS [(ofSlots (C.ti Q0) (List.take (C.ti Q0).size c2_35)),(some (.val (.bool true)))]) λv=>some (.ret v,s)) (
 bind1 (binS (C.ti Q3) .eql (.val a0) (.val (.int .i64 20))) λv37=>
 condS v37 (
 bind1 (ofSlots (C.ti Q0) (List.take (C.ti Q0).size (List.map .val (C.ti Q0).zero))) λv58_12=>
 bindL (boxCells (C.ti Q0) v58_12) λc_36=>
 bindL (putAt (List.map .val (C.ti Q0).zero) 0 c_36) λc2_36=>
 bind1 (tupS [(ofSlots (C.ti Q0) (List.take (C.ti Q0).size c2_36)),(some (.val (.bool true)))]) λv=>some (.ret v,s)) (
 bind1 (ofSlots (C.ti Q0) (List.take (C.ti Q0).size (List.map .val (C.ti Q0).zero))) λv58_13=>
 bindL (boxCells (C.ti Q0) v58_13) λc_37=>
 bindL (putAt (List.map .val (C.ti Q0).zero) 0 c_37) λc2_37=>
 bind1 (tupS [(ofSlots (C.ti Q0) (List.take (C.ti Q0).size c2_37)),(some (.val (.bool false)))]) λv=>some (.ret v,s)))) (
 bind1 (binS (C.ti Q3) .eql (.val a0) (.val (.int .i64 14))) λv33=>
 condS v33 (
 condS v33 (
 bindL (boxCells (C.ti Q2) (.val (.int .i64 2))) λc_38=>
 bindL (putAt (List.map .val (C.ti Q0).zero) 4 c_38) λc2_38=>
 bindL (boxCells (C.ti Q2) (.val (.int .i64 2))) λc_39=>
 bindL (putAt c2_38 5 c_39) λc2_39=>
 bind1 (ofSlots (C.ti Q0) (List.take (C.ti Q0).size c2_39)) λv58_14=>
 bindL (boxCells (C.ti Q0) v58_14) λc_40=>
 bindL (putAt c2_39 0 c_40) λc2_40=>
 bind1 (tupS [(ofSlots (C.ti Q0) (List.take (C.ti Q0).size c2_40)),(some (.val (.bool true)))]) λv=>some (.ret v,s)) (
 bind1 (binS (C.ti Q3) .eql (.val a0) (.val (.int .i64 20))) λv37_1=>
 condS v37_1 (
 bind1 (ofSlots (C.ti Q0) (List.take (C.ti Q0).size (List.map .val (C.ti Q0).zero))) λv58_15=>
 bindL (boxCells (C.ti Q0) v58_15) λc_41=>
 bindL (putAt (List.map .val (C.ti Q0).zero) 0 c_41) λc2_41=>
 bind1 (tupS [(ofSlots (C.ti Q0) (List.take (C.ti Q0).size c2_41)),(some (.val (.bool true)))]) λv=>some (.ret v,s)) (
 bind1 (ofSlots (C.ti Q0) (List.take (C.ti Q0).size (List.map .val (C.ti Q0).zero))) λv58_16=>
 bindL (boxCells (C.ti Q0) v58_16) λc_42=>
 bindL (putAt (List.map .val (C.ti Q0).zero) 0 c_42) λc2_42=>
 bind1 (tupS [(ofSlots (C.ti Q0) (List.take (C.ti Q0).size c2_42)),(some (.val (.bool false)))]) λv=>some (.ret v,s)))) (
 bind1 (binS (C.ti Q3) .eql (.val a0) (.val (.int .i64 15))) λv34=>
 condS v34 (
 condS v34 (
 bindL (boxCells (C.ti Q2) (.val (.int .i64 2))) λc_43=>
 bindL (putAt (List.map .val (C.ti Q0).zero) 4 c_43) λc2_43=>
 bindL (boxCells (C.ti Q2) (.val (.int .i64 2))) λc_44=>
 bindL (putAt c2_43 5 c_44) λc2_44=>
 bind1 (ofSlots (C.ti Q0) (List.take (C.ti Q0).size c2_44)) λv58_17=>
 bindL (boxCells (C.ti Q0) v58_17) λc_45=>
 bindL (putAt c2_44 0 c_45) λc2_45=>
 bind1 (tupS [(ofSlots (C.ti Q0) (List.take (C.ti Q0).size c2_45)),(some (.val (.bool true)))]) λv=>some (.ret v,s)) (
 bind1 (binS (C.ti Q3) .eql (.val a0) (.val (.int .i64 20))) λv37_2=>
 condS v37_2 (
 bind1 (ofSlots (C.ti Q0) (List.take (C.ti Q0).size (List.map .val (C.ti Q0).zero))) λv58_18=>
 bindL (boxCells (C.ti Q0) v58_18) λc_46=>
 bindL (putAt (List.map .val (C.ti Q0).zero) 0 c_46) λc2_46=>
 bind1 (tupS [(ofSlots (C.ti Q0) (List.take (C.ti Q0).size c2_46)),(some (.val (.bool true)))]) λv=>some (.ret v,s)) (
 bind1 (ofSlots (C.ti Q0) (List.take (C.ti Q0).size (List.map .val (C.ti Q0).zero))) λv58_19=>
 bindL (boxCells (C.ti Q0) v58_19) λc_47=>
 bindL (putAt (List.map .val (C.ti Q0).zero) 0 c_47) λc2_47=>
 bind1 (tupS [(ofSlots (C.ti Q0) (List.take (C.ti Q0).size c2_47)),(some (.val (.bool false)))]) λv=>some (.ret v,s)))) (
 bind1 (binS (C.ti Q3) .eql (.val a0) (.val (.int .i64 18))) λv35=>
 condS v35 (
 bindL (boxCells (C.ti Q2) (.val (.int .i64 2))) λc_48=>
 bindL (putAt (List.map .val (C.ti Q0).zero) 4 c_48) λc2_48=>
 bindL (boxCells (C.ti Q2) (.val (.int .i64 2))) λc_49=>
 bindL (putAt c2_48 5 c_49) λc2_49=>
 bind1 (ofSlots (C.ti Q0) (List.take (C.ti Q0).size c2_49)) λv58_20=>
 bindL (boxCells (C.ti Q0) v58_20) λc_50=>
 bindL (putAt c2_49 0 c_50) λc2_50=>
 bind1 (tupS [(ofSlots (C.ti Q0) (List.take (C.ti Q0).size c2_50)),(some (.val (.bool true)))]) λv=>some (.ret v,s)) (
 bind1 (binS (C.ti Q3) .eql (.val a0) (.val (.int .i64 20))) λv37_3=>
 condS v37_3 (
 bind1 (ofSlots (C.ti Q0) (List.take (C.ti Q0).size (List.map .val (C.ti Q0).zero))) λv58_21=>
 bindL (boxCells (C.ti Q0) v58_21) λc_51=>
 bindL (putAt (List.map .val (C.ti Q0).zero) 0 c_51) λc2_51=>
 bind1 (tupS [(ofSlots (C.ti Q0) (List.take (C.ti Q0).size c2_51)),(some (.val (.bool true)))]) λv=>some (.ret v,s)) (
 bind1 (ofSlots (C.ti Q0) (List.take (C.ti Q0).size (List.map .val (C.ti Q0).zero))) λv58_22=>
 bindL (boxCells (C.ti Q0) v58_22) λc_52=>
 bindL (putAt (List.map .val (C.ti Q0).zero) 0 c_52) λc2_52=>
 bind1 (tupS [(ofSlots (C.ti Q0) (List.take (C.ti Q0).size c2_52)),(some (.val (.bool false)))]) λv=>some (.ret v,s))))))))) (
 bind1 (binS (C.ti Q3) .eql (.val a0) (.val (.int .i64 16))) λv26=>
 condS v26 (
 condS v26 (
 bindL (boxCells (C.ti Q2) (.val (.int .i64 1))) λc_53=>
 bindL (putAt (List.map .val (C.ti Q0).zero) 4 c_53) λc2_53=>
 bindL (boxCells (C.ti Q2) (.val (.int .i64 1))) λc_54=>
 bindL (putAt c2_53 5 c_54) λc2_54=>
 bind1 (ofSlots (C.ti Q0) (List.take (C.ti Q0).size c2_54)) λv58_23=>
 bindL (boxCells (C.ti Q0) v58_23) λc_55=>
 bindL (putAt c2_54 0 c_55) λc2_55=>
 bind1 (tupS [(ofSlots (C.ti Q0) (List.take (C.ti Q0).size c2_55)),(some (.val (.bool true)))]) λv=>some (.ret v,s)) (
 bind1 (binS (C.ti Q3) .eql (.val a0) (.val (.int .i64 13))) λv30_1=>
 condS v30_1 (
 bindL (boxCells (C.ti Qy) (.val (.bool true))) λc_56=>
 bindL (putAt (List.map .val (C.ti Q0).zero) 1 c_56) λc2_56=>
 bindL (boxCells (C.ti Q2) (.val (.int .i64 2))) λc_57=>
 bindL (putAt c2_56 4 c_57) λc2_57=>
 bindL (boxCells (C.ti Q2) (.val (.int .i64 2))) λc_58=>
 bindL (putAt c2_57 5 c_58) λc2_58=>
 bind1 (ofSlots (C.ti Q0) (List.take (C.ti Q0).size c2_58)) λv58_24=>
 bindL (boxCells (C.ti Q0) v58_24) λc_59=>
 bindL (putAt c2_58 0 c_59) λc2_59=>
 bind1 (tupS [(ofSlots (C.ti Q0) (List.take (C.ti Q0).size c2_59)),(some (.val (.bool true)))]) λv=>some (.ret v,s)) (
 bind1 (binS (C.ti Q3) .eql (.val a0) (.val (.int .i64 6))) λv32_1=>
 condS v32_1 (
 condS v32_1 (
 bindL (boxCells (C.ti Q2) (.val (.int .i64 2))) λc_60=>
 bindL (putAt (List.map .val (C.ti Q0).zero) 4 c_60) λc2_60=>
 bindL (boxCells (C.ti Q2) (.val (.int .i64 2))) λc_61=>
 bindL (putAt c2_60 5 c_61) λc2_61=>
 bind1 (ofSlots (C.ti Q0) (List.take (C.ti Q0).size c2_61)) λv58_25=>
 bindL (boxCells (C.ti Q0) v58_25) λc_62=>
 bindL (putAt c2_61 0 c_62) λc2_62=>
 bind1 (tupS [(ofSlots (C.ti Q0) (List.take (C.ti Q0).size c2_62)),(some (.val (.bool true)))]) λv=>some (.ret v,s)) (
 bind1 (binS (C.ti Q3) .eql (.val a0) (.val (.int .i64 20))) λv37_4=>
 condS v37_4 (
 bind1 (ofSlots (C.ti Q0) (List.take (C.ti Q0).size (List.map .val (C.ti Q0).zero))) λv58_26=>
 bindL (boxCells (C.ti Q0) v58_26) λc_63=>
 bindL (putAt (List.map .val (C.ti Q0).zero) 0 c_63) λc2_63=>
 bind1 (tupS [(ofSlots (C.ti Q0) (List.take (C.ti Q0).size c2_63)),(some (.val (.bool true)))]) λv=>some (.ret v,s)) (
 bind1 (ofSlots (C.ti Q0) (List.take (C.ti Q0).size (List.map .val (C.ti Q0).zero))) λv58_27=>
 bindL (boxCells (C.ti Q0) v58_27) λc_64=>
 bindL (putAt (List.map .val (C.ti Q0).zero) 0 c_64) λc2_64=>
 bind1 (tupS [(ofSlots (C.ti Q0) (List.take (C.ti Q0).size c2_64)),(some (.val (.bool false)))]) λv=>some (.ret v,s)))) (
 bind1 (binS (C.ti Q3) .eql (.val a0) (.val (.int .i64 14))) λv33_1=>
 condS v33_1 (
 condS v33_1 (
 bindL (boxCells (C.ti Q2) (.val (.int .i64 2))) λc_65=>
 bindL (putAt (List.map .val (C.ti Q0).zero) 4 c_65) λc2_65=>
 bindL (boxCells (C.ti Q2) (.val (.int .i64 2))) λc_66=>
 bindL (putAt c2_65 5 c_66) λc2_66=>
 bind1 (ofSlots (C.ti Q0) (List.take (C.ti Q0).size c2_66)) λv58_28=>
 bindL (boxCells (C.ti Q0) v58_28) λc_67=>
 bindL (putAt c2_66 0 c_67) λc2_67=>
 bind1 (tupS [(ofSlots (C.ti Q0) (List.take (C.ti Q0).size c2_67)),(some (.val (.bool true)))]) λv=>some (.ret v,s)) (
 bind1 (binS (C.ti Q3) .eql (.val a0) (.val (.int .i64 20))) λv37_5=>
 condS v37_5 (
 bind1 (ofSlots (C.ti Q0) (List.take (C.ti Q0).size (List.map .val (C.ti Q0).zero))) λv58_29=>
 bindL (boxCells (C.ti Q0) v58_29) λc_68=>
 bindL (putAt (List.map .val (C.ti Q0).zero) 0 c_68) λc2_68=>
 bind1 (tupS [(ofSlots (C.ti Q0) (List.take (C.ti Q0).size c2_68)),(some (.val (.bool true)))]) λv=>some (.ret v,s)) (
 bind1 (ofSlots (C.ti Q0) (List.take (C.ti Q0).size (List.map .val (C.ti Q0).zero))) λv58_30=>
 bindL (boxCells (C.ti Q0) v58_30) λc_69=>
 bindL (putAt (List.map .val (C.ti Q0).zero) 0 c_69) λc2_69=>
 bind1 (tupS [(ofSlots (C.ti Q0) (List.take (C.ti Q0).size c2_69)),(some (.val (.bool false)))]) λv=>some (.ret v,s)))) (
 bind1 (binS (C.ti Q3) .eql (.val a0) (.val (.int .i64 15))) λv34_1=>
 condS v34_1 (
 condS v34_1 (
 bindL (boxCells (C.ti Q2) (.val (.int .i64 2))) λc_70=>
 bindL (putAt (List.map .val (C.ti Q0).zero) 4 c_70) λc2_70=>
 bindL (boxCells (C.ti Q2) (.val (.int .i64 2))) λc_71=>
 bindL (putAt c2_70 5 c_71) λc2_71=>
 bind1 (ofSlots (C.ti Q0) (List.take (C.ti Q0).size c2_71)) λv58_31=>
 bindL (boxCells (C.ti Q0) v58_31) λc_72=>
 bindL (putAt c2_71 0 c_72) λc2_72=>
 bind1 (tupS [(ofSlots (C.ti Q0) (List.take (C.ti Q0).size c2_72)),(some (.val (.bool true)))]) λv=>some (.ret v,s)) (
 bind1 (binS (C.ti Q3) .eql (.val a0) (.val (.int .i64 20))) λv37_6=>
 condS v37_6 (
 bind1 (ofSlots (C.ti Q0) (List.take (C.ti Q0).size (List.map .val (C.ti Q0).zero))) λv58_32=>
 bindL (boxCells (C.ti Q0) v58_32) λc_73=>
 bindL (putAt (List.map .val (C.ti Q0).zero) 0 c_73) λc2_73=>
 bind1 (tupS [(ofSlots (C.ti Q0) (List.take (C.ti Q0).size c2_73)),(some (.val (.bool true)))]) λv=>some (.ret v,s)) (
 bind1 (ofSlots (C.ti Q0) (List.take (C.ti Q0).size (List.map .val (C.ti Q0).zero))) λv58_33=>
 bindL (boxCells (C.ti Q0) v58_33) λc_74=>
 bindL (putAt (List.map .val (C.ti Q0).zero) 0 c_74) λc2_74=>
 bind1 (tupS [(ofSlots (C.ti Q0) (List.take (C.ti Q0).size c2_74)),(some (.val (.bool false)))]) λv=>some (.ret v,s)))) (
 bind1 (binS (C.ti Q3) .eql (.val a0) (.val (.int .i64 18))) λv35_1=>
 condS v35_1 (
 bindL (boxCells (C.ti Q2) (.val (.int .i64 2))) λc_75=>
 bindL (putAt (List.map .val (C.ti Q0).zero) 4 c_75) λc2_75=>
 bindL (boxCells (C.ti Q2) (.val (.int .i64 2))) λc_76=>
 bindL (putAt c2_75 5 c_76) λc2_76=>
 bind1 (ofSlots (C.ti Q0) (List.take (C.ti Q0).size c2_76)) λv58_34=>
 bindL (boxCells (C.ti Q0) v58_34) λc_77=>
 bindL (putAt c2_76 0 c_77) λc2_77=>
 bind1 (tupS [(ofSlots (C.ti Q0) (List.take (C.ti Q0).size c2_77)),(some (.val (.bool true)))]) λv=>some (.ret v,s)) (
 bind1 (binS (C.ti Q3) .eql (.val a0) (.val (.int .i64 20))) λv37_7=>
 condS v37_7 (
 bind1 (ofSlots (C.ti Q0) (List.take (C.ti Q0).size (List.map .val (C.ti Q0).zero))) λv58_35=>
 bindL (boxCells (C.ti Q0) v58_35) λc_78=>
 bindL (putAt (List.map .val (C.ti Q0).zero) 0 c_78) λc2_78=>
 bind1 (tupS [(ofSlots (C.ti Q0) (List.take (C.ti Q0).size c2_78)),(some (.val (.bool true)))]) λv=>some (.ret v,s)) (
 bind1 (ofSlots (C.ti Q0) (List.take (C.ti Q0).size (List.map .val (C.ti Q0).zero))) λv58_36=>
 bindL (boxCells (C.ti Q0) v58_36) λc_79=>
 bindL (putAt (List.map .val (C.ti Q0).zero) 0 c_79) λc2_79=>
 bind1 (tupS [(ofSlots (C.ti Q0) (List.take (C.ti Q0).size c2_79)),(some (.val (.bool false)))]) λv=>some (.ret v,s))))))))) (
 bind1 (binS (C.ti Q3) .eql (.val a0) (.val (.int .i64 17))) λv27=>
 condS v27 (
 condS v27 (
 bindL (boxCells (C.ti Q2) (.val (.int .i64 1))) λc_80=>
 bindL (putAt (List.map .val (C.ti Q0).zero) 4 c_80) λc2_80=>
 bindL (boxCells (C.ti Q2) (.val (.int .i64 1))) λc_81=>
 bindL (putAt c2_80 5 c_81) λc2_81=>
 bind1 (ofSlots (C.ti Q0) (List.take (C.ti Q0).size c2_81)) λv58_37=>
 bindL (boxCells (C.ti Q0) v58_37) λc_82=>
 bindL (putAt c2_81 0 c_82) λc2_82=>
 bind1 (tupS [(ofSlots (C.ti Q0) (List.take (C.ti Q0).size c2_82)),(some (.val (.bool true)))]) λv=>some (.ret v,s)) (
 bind1 (binS (C.ti Q3) .eql (.val a0) (.val (.int .i64 13))) λv30_2=>
 condS v30_2 (
 bindL (boxCells (C.ti Qy) (.val (.bool true))) λc_83=>
 bindL (putAt (List.map .val (C.ti Q0).zero) 1 c_83) λc2_83=>
 bindL (boxCells (C.ti Q2) (.val (.int .i64 2))) λc_84=>
 bindL (putAt c2_83 4 c_84) λc2_84=>
 bindL (boxCells (C.ti Q2) (.val (.int .i64 2))) λc_85=>
 bindL (putAt c2_84 5 c_85) λc2_85=>
 bind1 (ofSlots (C.ti Q0) (List.take (C.ti Q0).size c2_85)) λv58_38=>
 bindL (boxCells (C.ti Q0) v58_38) λc_86=>
 bindL (putAt c2_85 0 c_86) λc2_86=>
 bind1 (tupS [(ofSlots (C.ti Q0) (List.take (C.ti Q0).size c2_86)),(some (.val (.bool true)))]) λv=>some (.ret v,s)) (
 bind1 (binS (C.ti Q3) .eql (.val a0) (.val (.int .i64 6))) λv32_2=>
 condS v32_2 (
 condS v32_2 (
 bindL (boxCells (C.ti Q2) (.val (.int .i64 2))) λc_87=>
 bindL (putAt (List.map .val (C.ti Q0).zero) 4 c_87) λc2_87=>
 bindL (boxCells (C.ti Q2) (.val (.int .i64 2))) λc_88=>
 bindL (putAt c2_87 5 c_88) λc2_88=>
 bind1 (ofSlots (C.ti Q0) (List.take (C.ti Q0).size c2_88)) λv58_39=>
 bindL (boxCells (C.ti Q0) v58_39) λc_89=>
 bindL (putAt c2_88 0 c_89) λc2_89=>
 bind1 (tupS [(ofSlots (C.ti Q0) (List.take (C.ti Q0).size c2_89)),(some (.val (.bool true)))]) λv=>some (.ret v,s)) (
 bind1 (binS (C.ti Q3) .eql (.val a0) (.val (.int .i64 20))) λv37_8=>
 condS v37_8 (
 bind1 (ofSlots (C.ti Q0) (List.take (C.ti Q0).size (List.map .val (C.ti Q0).zero))) λv58_40=>
 bindL (boxCells (C.ti Q0) v58_40) λc_90=>
 bindL (putAt (List.map .val (C.ti Q0).zero) 0 c_90) λc2_90=>
 bind1 (tupS [(ofSlots (C.ti Q0) (List.take (C.ti Q0).size c2_90)),(some (.val (.bool true)))]) λv=>some (.ret v,s)) (
 bind1 (ofSlots (C.ti Q0) (List.take (C.ti Q0).size (List.map .val (C.ti Q0).zero))) λv58_41=>
 bindL (boxCells (C.ti Q0) v58_41) λc_91=>
 bindL (putAt (List.map .val (C.ti Q0).zero) 0 c_91) λc2_91=>
 bind1 (tupS [(ofSlots (C.ti Q0) (List.take (C.ti Q0).size c2_91)),(some (.val (.bool false)))]) λv=>some (.ret v,s)))) (
 bind1 (binS (C.ti Q3) .eql (.val a0) (.val (.int .i64 14))) λv33_2=>
 condS v33_2 (
 condS v33_2 (
 bindL (boxCells (C.ti Q2) (.val (.int .i64 2))) λc_92=>
 bindL (putAt (List.map .val (C.ti Q0).zero) 4 c_92) λc2_92=>
 bindL (boxCells (C.ti Q2) (.val (.int .i64 2))) λc_93=>
 bindL (putAt c2_92 5 c_93) λc2_93=>
 bind1 (ofSlots (C.ti Q0) (List.take (C.ti Q0).size c2_93)) λv58_42=>
 bindL (boxCells (C.ti Q0) v58_42) λc_94=>
 bindL (putAt c2_93 0 c_94) λc2_94=>
 bind1 (tupS [(ofSlots (C.ti Q0) (List.take (C.ti Q0).size c2_94)),(some (.val (.bool true)))]) λv=>some (.ret v,s)) (
 bind1 (binS (C.ti Q3) .eql (.val a0) (.val (.int .i64 20))) λv37_9=>
 condS v37_9 (
 bind1 (ofSlots (C.ti Q0) (List.take (C.ti Q0).size (List.map .val (C.ti Q0).zero))) λv58_43=>
 bindL (boxCells (C.ti Q0) v58_43) λc_95=>
 bindL (putAt (List.map .val (C.ti Q0).zero) 0 c_95) λc2_95=>
 bind1 (tupS [(ofSlots (C.ti Q0) (List.take (C.ti Q0).size c2_95)),(some (.val (.bool true)))]) λv=>some (.ret v,s)) (
 bind1 (ofSlots (C.ti Q0) (List.take (C.ti Q0).size (List.map .val (C.ti Q0).zero))) λv58_44=>
 bindL (boxCells (C.ti Q0) v58_44) λc_96=>
 bindL (putAt (List.map .val (C.ti Q0).zero) 0 c_96) λc2_96=>
 bind1 (tupS [(ofSlots (C.ti Q0) (List.take (C.ti Q0).size c2_96)),(some (.val (.bool false)))]) λv=>some (.ret v,s)))) (
 bind1 (binS (C.ti Q3) .eql (.val a0) (.val (.int .i64 15))) λv34_2=>
 condS v34_2 (
 condS v34_2 (
 bindL (boxCells (C.ti Q2) (.val (.int .i64 2))) λc_97=>
 bindL (putAt (List.map .val (C.ti Q0).zero) 4 c_97) λc2_97=>
 bindL (boxCells (C.ti Q2) (.val (.int .i64 2))) λc_98=>
 bindL (putAt c2_97 5 c_98) λc2_98=>
 bind1 (ofSlots (C.ti Q0) (List.take (C.ti Q0).size c2_98)) λv58_45=>
 bindL (boxCells (C.ti Q0) v58_45) λc_99=>
 bindL (putAt c2_98 0 c_99) λc2_99=>
 bind1 (tupS [(ofSlots (C.ti Q0) (List.take (C.ti Q0).size c2_99)),(some (.val (.bool true)))]) λv=>some (.ret v,s)) (
 bind1 (binS (C.ti Q3) .eql (.val a0) (.val (.int .i64 20))) λv37_10=>
 condS v37_10 (
 bind1 (ofSlots (C.ti Q0) (List.take (C.ti Q0).size (List.map .val (C.ti Q0).zero))) λv58_46=>
 bindL (boxCells (C.ti Q0) v58_46) λc_100=>
 bindL (putAt (List.map .val (C.ti Q0).zero) 0 c_100) λc2_100=>
 bind1 (tupS [(ofSlots (C.ti Q0) (List.take (C.ti Q0).size c2_100)),(some (.val (.bool true)))]) λv=>some (.ret v,s)) (
 bind1 (ofSlots (C.ti Q0) (List.take (C.ti Q0).size (List.map .val (C.ti Q0).zero))) λv58_47=>
 bindL (boxCells (C.ti Q0) v58_47) λc_101=>
 bindL (putAt (List.map .val (C.ti Q0).zero) 0 c_101) λc2_101=>
 bind1 (tupS [(ofSlots (C.ti Q0) (List.take (C.ti Q0).size c2_101)),(some (.val (.bool false)))]) λv=>some (.ret v,s)))) (
 bind1 (binS (C.ti Q3) .eql (.val a0) (.val (.int .i64 18))) λv35_2=>
 condS v35_2 (
 bindL (boxCells (C.ti Q2) (.val (.int .i64 2))) λc_102=>
 bindL (putAt (List.map .val (C.ti Q0).zero) 4 c_102) λc2_102=>
 bindL (boxCells (C.ti Q2) (.val (.int .i64 2))) λc_103=>
 bindL (putAt c2_102 5 c_103) λc2_103=>
 bind1 (ofSlots (C.ti Q0) (List.take (C.ti Q0).size c2_103)) λv58_48=>
 bindL (boxCells (C.ti Q0) v58_48) λc_104=>
 bindL (putAt c2_103 0 c_104) λc2_104=>
 bind1 (tupS [(ofSlots (C.ti Q0) (List.take (C.ti Q0).size c2_104)),(some (.val (.bool true)))]) λv=>some (.ret v,s)) (
 bind1 (binS (C.ti Q3) .eql (.val a0) (.val (.int .i64 20))) λv37_11=>
 condS v37_11 (
 bind1 (ofSlots (C.ti Q0) (List.take (C.ti Q0).size (List.map .val (C.ti Q0).zero))) λv58_49=>
 bindL (boxCells (C.ti Q0) v58_49) λc_105=>
 bindL (putAt (List.map .val (C.ti Q0).zero) 0 c_105) λc2_105=>
 bind1 (tupS [(ofSlots (C.ti Q0) (List.take (C.ti Q0).size c2_105)),(some (.val (.bool true)))]) λv=>some (.ret v,s)) (
 bind1 (ofSlots (C.ti Q0) (List.take (C.ti Q0).size (List.map .val (C.ti Q0).zero))) λv58_50=>
 bindL (boxCells (C.ti Q0) v58_50) λc_106=>
 bindL (putAt (List.map .val (C.ti Q0).zero) 0 c_106) λc2_106=>
 bind1 (tupS [(ofSlots (C.ti Q0) (List.take (C.ti Q0).size c2_106)),(some (.val (.bool false)))]) λv=>some (.ret v,s))))))))) (
 bind1 (binS (C.ti Q3) .eql (.val a0) (.val (.int .i64 19))) λv28=>
 condS v28 (
 bindL (boxCells (C.ti Q2) (.val (.int .i64 1))) λc_107=>
 bindL (putAt (List.map .val (C.ti Q0).zero) 4 c_107) λc2_107=>
 bindL (boxCells (C.ti Q2) (.val (.int .i64 1))) λc_108=>
 bindL (putAt c2_107 5 c_108) λc2_108=>
 bind1 (ofSlots (C.ti Q0) (List.take (C.ti Q0).size c2_108)) λv58_51=>
 bindL (boxCells (C.ti Q0) v58_51) λc_109=>
 bindL (putAt c2_108 0 c_109) λc2_109=>
 bind1 (tupS [(ofSlots (C.ti Q0) (List.take (C.ti Q0).size c2_109)),(some (.val (.bool true)))]) λv=>some (.ret v,s)) (
 bind1 (binS (C.ti Q3) .eql (.val a0) (.val (.int .i64 13))) λv30_3=>
 condS v30_3 (
 bindL (boxCells (C.ti Qy) (.val (.bool true))) λc_110=>
 bindL (putAt (List.map .val (C.ti Q0).zero) 1 c_110) λc2_110=>
 bindL (boxCells (C.ti Q2) (.val (.int .i64 2))) λc_111=>
 bindL (putAt c2_110 4 c_111) λc2_111=>
 bindL (boxCells (C.ti Q2) (.val (.int .i64 2))) λc_112=>
 bindL (putAt c2_111 5 c_112) λc2_112=>
 bind1 (ofSlots (C.ti Q0) (List.take (C.ti Q0).size c2_112)) λv58_52=>
 bindL (boxCells (C.ti Q0) v58_52) λc_113=>
 bindL (putAt c2_112 0 c_113) λc2_113=>
 bind1 (tupS [(ofSlots (C.ti Q0) (List.take (C.ti Q0).size c2_113)),(some (.val (.bool true)))]) λv=>some (.ret v,s)) (
 bind1 (binS (C.ti Q3) .eql (.val a0) (.val (.int .i64 6))) λv32_3=>
 condS v32_3 (
 condS v32_3 (
 bindL (boxCells (C.ti Q2) (.val (.int .i64 2))) λc_114=>
 bindL (putAt (List.map .val (C.ti Q0).zero) 4 c_114) λc2_114=>
 bindL (boxCells (C.ti Q2) (.val (.int .i64 2))) λc_115=>
 bindL (putAt c2_114 5 c_115) λc2_115=>
 bind1 (ofSlots (C.ti Q0) (List.take (C.ti Q0).size c2_115)) λv58_53=>
 bindL (boxCells (C.ti Q0) v58_53) λc_116=>
 bindL (putAt c2_115 0 c_116) λc2_116=>
 bind1 (tupS [(ofSlots (C.ti Q0) (List.take (C.ti Q0).size c2_116)),(some (.val (.bool true)))]) λv=>some (.ret v,s)) (
 bind1 (binS (C.ti Q3) .eql (.val a0) (.val (.int .i64 20))) λv37_12=>
 condS v37_12 (
 bind1 (ofSlots (C.ti Q0) (List.take (C.ti Q0).size (List.map .val (C.ti Q0).zero))) λv58_54=>
 bindL (boxCells (C.ti Q0) v58_54) λc_117=>
 bindL (putAt (List.map .val (C.ti Q0).zero) 0 c_117) λc2_117=>
 bind1 (tupS [(ofSlots (C.ti Q0) (List.take (C.ti Q0).size c2_117)),(some (.val (.bool true)))]) λv=>some (.ret v,s)) (
 bind1 (ofSlots (C.ti Q0) (List.take (C.ti Q0).size (List.map .val (C.ti Q0).zero))) λv58_55=>
 bindL (boxCells (C.ti Q0) v58_55) λc_118=>
 bindL (putAt (List.map .val (C.ti Q0).zero) 0 c_118) λc2_118=>
 bind1 (tupS [(ofSlots (C.ti Q0) (List.take (C.ti Q0).size c2_118)),(some (.val (.bool false)))]) λv=>some (.ret v,s)))) (
 bind1 (binS (C.ti Q3) .eql (.val a0) (.val (.int .i64 14))) λv33_3=>
 condS v33_3 (
 condS v33_3 (
 bindL (boxCells (C.ti Q2) (.val (.int .i64 2))) λc_119=>
 bindL (putAt (List.map .val (C.ti Q0).zero) 4 c_119) λc2_119=>
 bindL (boxCells (C.ti Q2) (.val (.int .i64 2))) λc_120=>
 bindL (putAt c2_119 5 c_120) λc2_120=>
 bind1 (ofSlots (C.ti Q0) (List.take (C.ti Q0).size c2_120)) λv58_56=>
 bindL (boxCells (C.ti Q0) v58_56) λc_121=>
 bindL (putAt c2_120 0 c_121) λc2_121=>
 bind1 (tupS [(ofSlots (C.ti Q0) (List.take (C.ti Q0).size c2_121)),(some (.val (.bool true)))]) λv=>some (.ret v,s)) (
 bind1 (binS (C.ti Q3) .eql (.val a0) (.val (.int .i64 20))) λv37_13=>
 condS v37_13 (
 bind1 (ofSlots (C.ti Q0) (List.take (C.ti Q0).size (List.map .val (C.ti Q0).zero))) λv58_57=>
 bindL (boxCells (C.ti Q0) v58_57) λc_122=>
 bindL (putAt (List.map .val (C.ti Q0).zero) 0 c_122) λc2_122=>
 bind1 (tupS [(ofSlots (C.ti Q0) (List.take (C.ti Q0).size c2_122)),(some (.val (.bool true)))]) λv=>some (.ret v,s)) (
 bind1 (ofSlots (C.ti Q0) (List.take (C.ti Q0).size (List.map .val (C.ti Q0).zero))) λv58_58=>
 bindL (boxCells (C.ti Q0) v58_58) λc_123=>
 bindL (putAt (List.map .val (C.ti Q0).zero) 0 c_123) λc2_123=>
 bind1 (tupS [(ofSlots (C.ti Q0) (List.take (C.ti Q0).size c2_123)),(some (.val (.bool false)))]) λv=>some (.ret v,s)))) (
 bind1 (binS (C.ti Q3) .eql (.val a0) (.val (.int .i64 15))) λv34_3=>
 condS v34_3 (
 condS v34_3 (
 bindL (boxCells (C.ti Q2) (.val (.int .i64 2))) λc_124=>
 bindL (putAt (List.map .val (C.ti Q0).zero) 4 c_124) λc2_124=>
 bindL (boxCells (C.ti Q2) (.val (.int .i64 2))) λc_125=>
 bindL (putAt c2_124 5 c_125) λc2_125=>
 bind1 (ofSlots (C.ti Q0) (List.take (C.ti Q0).size c2_125)) λv58_59=>
 bindL (boxCells (C.ti Q0) v58_59) λc_126=>
 bindL (putAt c2_125 0 c_126) λc2_126=>
 bind1 (tupS [(ofSlots (C.ti Q0) (List.take (C.ti Q0).size c2_126)),(some (.val (.bool true)))]) λv=>some (.ret v,s)) (
 bind1 (binS (C.ti Q3) .eql (.val a0) (.val (.int .i64 20))) λv37_14=>
 condS v37_14 (
 bind1 (ofSlots (C.ti Q0) (List.take (C.ti Q0).size (List.map .val (C.ti Q0).zero))) λv58_60=>
 bindL (boxCells (C.ti Q0) v58_60) λc_127=>
 bindL (putAt (List.map .val (C.ti Q0).zero) 0 c_127) λc2_127=>
 bind1 (tupS [(ofSlots (C.ti Q0) (List.take (C.ti Q0).size c2_127)),(some (.val (.bool true)))]) λv=>some (.ret v,s)) (
 bind1 (ofSlots (C.ti Q0) (List.take (C.ti Q0).size (List.map .val (C.ti Q0).zero))) λv58_61=>
 bindL (boxCells (C.ti Q0) v58_61) λc_128=>
 bindL (putAt (List.map .val (C.ti Q0).zero) 0 c_128) λc2_128=>
 bind1 (tupS [(ofSlots (C.ti Q0) (List.take (C.ti Q0).size c2_128)),(some (.val (.bool false)))]) λv=>some (.ret v,s)))) (
 bind1 (binS (C.ti Q3) .eql (.val a0) (.val (.int .i64 18))) λv35_3=>
 condS v35_3 (
 bindL (boxCells (C.ti Q2) (.val (.int .i64 2))) λc_129=>
 bindL (putAt (List.map .val (C.ti Q0).zero) 4 c_129) λc2_129=>
 bindL (boxCells (C.ti Q2) (.val (.int .i64 2))) λc_130=>
 bindL (putAt c2_129 5 c_130) λc2_130=>
 bind1 (ofSlots (C.ti Q0) (List.take (C.ti Q0).size c2_130)) λv58_62=>
 bindL (boxCells (C.ti Q0) v58_62) λc_131=>
 bindL (putAt c2_130 0 c_131) λc2_131=>
 bind1 (tupS [(ofSlots (C.ti Q0) (List.take (C.ti Q0).size c2_131)),(some (.val (.bool true)))]) λv=>some (.ret v,s)) (
 bind1 (binS (C.ti Q3) .eql (.val a0) (.val (.int .i64 20))) λv37_15=>
 condS v37_15 (
 bind1 (ofSlots (C.ti Q0) (List.take (C.ti Q0).size (List.map .val (C.ti Q0).zero))) λv58_63=>
 bindL (boxCells (C.ti Q0) v58_63) λc_132=>
 bindL (putAt (List.map .val (C.ti Q0).zero) 0 c_132) λc2_132=>
 bind1 (tupS [(ofSlots (C.ti Q0) (List.take (C.ti Q0).size c2_132)),(some (.val (.bool true)))]) λv=>some (.ret v,s)) (
 bind1 (ofSlots (C.ti Q0) (List.take (C.ti Q0).size (List.map .val (C.ti Q0).zero))) λv58_64=>
 bindL (boxCells (C.ti Q0) v58_64) λc_133=>
 bindL (putAt (List.map .val (C.ti Q0).zero) 0 c_133) λc2_133=>
 bind1 (tupS [(ofSlots (C.ti Q0) (List.take (C.ti Q0).size c2_133)),(some (.val (.bool false)))]) λv=>some (.ret v,s))))))))))))) (
 bind1 (binS (C.ti Q3) .eql (.val a0) (.val (.int .i64 11))) λv23=>
 condS v23 (
 bindL (boxCells (C.ti Qy) (.val (.bool true))) λc_134=>
 bindL (putAt (List.map .val (C.ti Q0).zero) 2 c_134) λc2_134=>
 bindL (boxCells (C.ti Q2) (.val (.int .i64 1))) λc_135=>
 bindL (putAt c2_134 4 c_135) λc2_135=>
 bindL (boxCells (C.ti Q2) (.val (.int .i64 1))) λc_136=>
 bindL (putAt c2_135 5 c_136) λc2_136=>
 bind1 (ofSlots (C.ti Q0) (List.take (C.ti Q0).size c2_136)) λv58_65=>
 bindL (boxCells (C.ti Q0) v58_65) λc_137=>
 bindL (putAt c2_136 0 c_137) λc2_137=>
 bind1 (tupS [(ofSlots (C.ti Q0) (List.take (C.ti Q0).size c2_137)),(some (.val (.bool true)))]) λv=>some (.ret v,s)) (
 bind1 (binS (C.ti Q3) .eql (.val a0) (.val (.int .i64 12))) λv25_1=>
 condS v25_1 (
 condS v25_1 (
 bindL (boxCells (C.ti Q2) (.val (.int .i64 1))) λc_138=>
 bindL (putAt (List.map .val (C.ti Q0).zero) 4 c_138) λc2_138=>
 bindL (boxCells (C.ti Q2) (.val (.int .i64 1))) λc_139=>
 bindL (putAt c2_138 5 c_139) λc2_139=>
 bind1 (ofSlots (C.ti Q0) (List.take (C.ti Q0).size c2_139)) λv58_66=>
 bindL (boxCells (C.ti Q0) v58_66) λc_140=>
 bindL (putAt c2_139 0 c_140) λc2_140=>
 bind1 (tupS [(ofSlots (C.ti Q0) (List.take (C.ti Q0).size c2_140)),(some (.val (.bool true)))]) λv=>some (.ret v,s)) (
 bind1 (binS (C.ti Q3) .eql (.val a0) (.val (.int .i64 13))) λv30_4=>
 condS v30_4 (
 bindL (boxCells (C.ti Qy) (.val (.bool true))) λc_141=>
 bindL (putAt (List.map .val (C.ti Q0).zero) 1 c_141) λc2_141=>
 bindL (boxCells (C.ti Q2) (.val (.int .i64 2))) λc_142=>
 bindL (putAt c2_141 4 c_142) λc2_142=>
 bindL (boxCells (C.ti Q2) (.val (.int .i64 2))) λc_143=>
 bindL (putAt c2_142 5 c_143) λc2_143=>
 bind1 (ofSlots (C.ti Q0) (List.take (C.ti Q0).size c2_143)) λv58_67=>
 bindL (boxCells (C.ti Q0) v58_67) λc_144=>
 bindL (putAt c2_143 0 c_144) λc2_144=>
 bind1 (tupS [(ofSlots (C.ti Q0) (List.take (C.ti Q0).size c2_144)),(some (.val (.bool true)))]) λv=>some (.ret v,s)) (
 bind1 (binS (C.ti Q3) .eql (.val a0) (.val (.int .i64 6))) λv32_4=>
 condS v32_4 (
 condS v32_4 (
 bindL (boxCells (C.ti Q2) (.val (.int .i64 2))) λc_145=>
 bindL (putAt (List.map .val (C.ti Q0).zero) 4 c_145) λc2_145=>
 bindL (boxCells (C.ti Q2) (.val (.int .i64 2))) λc_146=>
 bindL (putAt c2_145 5 c_146) λc2_146=>
 bind1 (ofSlots (C.ti Q0) (List.take (C.ti Q0).size c2_146)) λv58_68=>
 bindL (boxCells (C.ti Q0) v58_68) λc_147=>
 bindL (putAt c2_146 0 c_147) λc2_147=>
 bind1 (tupS [(ofSlots (C.ti Q0) (List.take (C.ti Q0).size c2_147)),(some (.val (.bool true)))]) λv=>some (.ret v,s)) (
 bind1 (binS (C.ti Q3) .eql (.val a0) (.val (.int .i64 20))) λv37_16=>
 condS v37_16 (
 bind1 (ofSlots (C.ti Q0) (List.take (C.ti Q0).size (List.map .val (C.ti Q0).zero))) λv58_69=>
 bindL (boxCells (C.ti Q0) v58_69) λc_148=>
 bindL (putAt (List.map .val (C.ti Q0).zero) 0 c_148) λc2_148=>
 bind1 (tupS [(ofSlots (C.ti Q0) (List.take (C.ti Q0).size c2_148)),(some (.val (.bool true)))]) λv=>some (.ret v,s)) (
 bind1 (ofSlots (C.ti Q0) (List.take (C.ti Q0).size (List.map .val (C.ti Q0).zero))) λv58_70=>
 bindL (boxCells (C.ti Q0) v58_70) λc_149=>
 bindL (putAt (List.map .val (C.ti Q0).zero) 0 c_149) λc2_149=>
 bind1 (tupS [(ofSlots (C.ti Q0) (List.take (C.ti Q0).size c2_149)),(some (.val (.bool false)))]) λv=>some (.ret v,s)))) (
 bind1 (binS (C.ti Q3) .eql (.val a0) (.val (.int .i64 14))) λv33_4=>
 condS v33_4 (
 condS v33_4 (
 bindL (boxCells (C.ti Q2) (.val (.int .i64 2))) λc_150=>
 bindL (putAt (List.map .val (C.ti Q0).zero) 4 c_150) λc2_150=>
 bindL (boxCells (C.ti Q2) (.val (.int .i64 2))) λc_151=>
 bindL (putAt c2_150 5 c_151) λc2_151=>
 bind1 (ofSlots (C.ti Q0) (List.take (C.ti Q0).size c2_151)) λv58_71=>
 bindL (boxCells (C.ti Q0) v58_71) λc_152=>
 bindL (putAt c2_151 0 c_152) λc2_152=>
 bind1 (tupS [(ofSlots (C.ti Q0) (List.take (C.ti Q0).size c2_152)),(some (.val (.bool true)))]) λv=>some (.ret v,s)) (
 bind1 (binS (C.ti Q3) .eql (.val a0) (.val (.int .i64 20))) λv37_17=>
 condS v37_17 (
 bind1 (ofSlots (C.ti Q0) (List.take (C.ti Q0).size (List.map .val (C.ti Q0).zero))) λv58_72=>
 bindL (boxCells (C.ti Q0) v58_72) λc_153=>
 bindL (putAt (List.map .val (C.ti Q0).zero) 0 c_153) λc2_153=>
 bind1 (tupS [(ofSlots (C.ti Q0) (List.take (C.ti Q0).size c2_153)),(some (.val (.bool true)))]) λv=>some (.ret v,s)) (
 bind1 (ofSlots (C.ti Q0) (List.take (C.ti Q0).size (List.map .val (C.ti Q0).zero))) λv58_73=>
 bindL (boxCells (C.ti Q0) v58_73) λc_154=>
 bindL (putAt (List.map .val (C.ti Q0).zero) 0 c_154) λc2_154=>
 bind1 (tupS [(ofSlots (C.ti Q0) (List.take (C.ti Q0).size c2_154)),(some (.val (.bool false)))]) λv=>some (.ret v,s)))) (
 bind1 (binS (C.ti Q3) .eql (.val a0) (.val (.int .i64 15))) λv34_4=>
 condS v34_4 (
 condS v34_4 (
 bindL (boxCells (C.ti Q2) (.val (.int .i64 2))) λc_155=>
 bindL (putAt (List.map .val (C.ti Q0).zero) 4 c_155) λc2_155=>
 bindL (boxCells (C.ti Q2) (.val (.int .i64 2))) λc_156=>
 bindL (putAt c2_155 5 c_156) λc2_156=>
 bind1 (ofSlots (C.ti Q0) (List.take (C.ti Q0).size c2_156)) λv58_74=>
 bindL (boxCells (C.ti Q0) v58_74) λc_157=>
 bindL (putAt c2_156 0 c_157) λc2_157=>
 bind1 (tupS [(ofSlots (C.ti Q0) (List.take (C.ti Q0).size c2_157)),(some (.val (.bool true)))]) λv=>some (.ret v,s)) (
 bind1 (binS (C.ti Q3) .eql (.val a0) (.val (.int .i64 20))) λv37_18=>
 condS v37_18 (
 bind1 (ofSlots (C.ti Q0) (List.take (C.ti Q0).size (List.map .val (C.ti Q0).zero))) λv58_75=>
 bindL (boxCells (C.ti Q0) v58_75) λc_158=>
 bindL (putAt (List.map .val (C.ti Q0).zero) 0 c_158) λc2_158=>
 bind1 (tupS [(ofSlots (C.ti Q0) (List.take (C.ti Q0).size c2_158)),(some (.val (.bool true)))]) λv=>some (.ret v,s)) (
 bind1 (ofSlots (C.ti Q0) (List.take (C.ti Q0).size (List.map .val (C.ti Q0).zero))) λv58_76=>
 bindL (boxCells (C.ti Q0) v58_76) λc_159=>
 bindL (putAt (List.map .val (C.ti Q0).zero) 0 c_159) λc2_159=>
 bind1 (tupS [(ofSlots (C.ti Q0) (List.take (C.ti Q0).size c2_159)),(some (.val (.bool false)))]) λv=>some (.ret v,s)))) (
 bind1 (binS (C.ti Q3) .eql (.val a0) (.val (.int .i64 18))) λv35_4=>
 condS v35_4 (
 bindL (boxCells (C.ti Q2) (.val (.int .i64 2))) λc_160=>
 bindL (putAt (List.map .val (C.ti Q0).zero) 4 c_160) λc2_160=>
 bindL (boxCells (C.ti Q2) (.val (.int .i64 2))) λc_161=>
 bindL (putAt c2_160 5 c_161) λc2_161=>
 bind1 (ofSlots (C.ti Q0) (List.take (C.ti Q0).size c2_161)) λv58_77=>
 bindL (boxCells (C.ti Q0) v58_77) λc_162=>
 bindL (putAt c2_161 0 c_162) λc2_162=>
 bind1 (tupS [(ofSlots (C.ti Q0) (List.take (C.ti Q0).size c2_162)),(some (.val (.bool true)))]) λv=>some (.ret v,s)) (
 bind1 (binS (C.ti Q3) .eql (.val a0) (.val (.int .i64 20))) λv37_19=>
 condS v37_19 (
 bind1 (ofSlots (C.ti Q0) (List.take (C.ti Q0).size (List.map .val (C.ti Q0).zero))) λv58_78=>
 bindL (boxCells (C.ti Q0) v58_78) λc_163=>
 bindL (putAt (List.map .val (C.ti Q0).zero) 0 c_163) λc2_163=>
 bind1 (tupS [(ofSlots (C.ti Q0) (List.take (C.ti Q0).size c2_163)),(some (.val (.bool true)))]) λv=>some (.ret v,s)) (
 bind1 (ofSlots (C.ti Q0) (List.take (C.ti Q0).size (List.map .val (C.ti Q0).zero))) λv58_79=>
 bindL (boxCells (C.ti Q0) v58_79) λc_164=>
 bindL (putAt (List.map .val (C.ti Q0).zero) 0 c_164) λc2_164=>
 bind1 (tupS [(ofSlots (C.ti Q0) (List.take (C.ti Q0).size c2_164)),(some (.val (.bool false)))]) λv=>some (.ret v,s))))))))) (
 bind1 (binS (C.ti Q3) .eql (.val a0) (.val (.int .i64 16))) λv26_1=>
 condS v26_1 (
 condS v26_1 (
 bindL (boxCells (C.ti Q2) (.val (.int .i64 1))) λc_165=>
 bindL (putAt (List.map .val (C.ti Q0).zero) 4 c_165) λc2_165=>
 bindL (boxCells (C.ti Q2) (.val (.int .i64 1))) λc_166=>
 bindL (putAt c2_165 5 c_166) λc2_166=>
 bind1 (ofSlots (C.ti Q0) (List.take (C.ti Q0).size c2_166)) λv58_80=>
 bindL (boxCells (C.ti Q0) v58_80) λc_167=>
 bindL (putAt c2_166 0 c_167) λc2_167=>
 bind1 (tupS [(ofSlots (C.ti Q0) (List.take (C.ti Q0).size c2_167)),(some (.val (.bool true)))]) λv=>some (.ret v,s)) (
 bind1 (binS (C.ti Q3) .eql (.val a0) (.val (.int .i64 13))) λv30_5=>
 condS v30_5 (
 bindL (boxCells (C.ti Qy) (.val (.bool true))) λc_168=>
 bindL (putAt (List.map .val (C.ti Q0).zero) 1 c_168) λc2_168=>
 bindL (boxCells (C.ti Q2) (.val (.int .i64 2))) λc_169=>
 bindL (putAt c2_168 4 c_169) λc2_169=>
 bindL (boxCells (C.ti Q2) (.val (.int .i64 2))) λc_170=>
 bindL (putAt c2_169 5 c_170) λc2_170=>
 bind1 (ofSlots (C.ti Q0) (List.take (C.ti Q0).size c2_170)) λv58_81=>
 bindL (boxCells (C.ti Q0) v58_81) λc_171=>
 bindL (putAt c2_170 0 c_171) λc2_171=>
 bind1 (tupS [(ofSlots (C.ti Q0) (List.take (C.ti Q0).size c2_171)),(some (.val (.bool true)))]) λv=>some (.ret v,s)) (
 bind1 (binS (C.ti Q3) .eql (.val a0) (.val (.int .i64 6))) λv32_5=>
 condS v32_5 (
 condS v32_5 (
 bindL (boxCells (C.ti Q2) (.val (.int .i64 2))) λc_172=>
 bindL (putAt (List.map .val (C.ti Q0).zero) 4 c_172) λc2_172=>
 bindL (boxCells (C.ti Q2) (.val (.int .i64 2))) λc_173=>
 bindL (putAt c2_172 5 c_173) λc2_173=>
 bind1 (ofSlots (C.ti Q0) (List.take (C.ti Q0).size c2_173)) λv58_82=>
 bindL (boxCells (C.ti Q0) v58_82) λc_174=>
 bindL (putAt c2_173 0 c_174) λc2_174=>
 bind1 (tupS [(ofSlots (C.ti Q0) (List.take (C.ti Q0).size c2_174)),(some (.val (.bool true)))]) λv=>some (.ret v,s)) (
 bind1 (binS (C.ti Q3) .eql (.val a0) (.val (.int .i64 20))) λv37_20=>
 condS v37_20 (
 bind1 (ofSlots (C.ti Q0) (List.take (C.ti Q0).size (List.map .val (C.ti Q0).zero))) λv58_83=>
 bindL (boxCells (C.ti Q0) v58_83) λc_175=>
 bindL (putAt (List.map .val (C.ti Q0).zero) 0 c_175) λc2_175=>
 bind1 (tupS [(ofSlots (C.ti Q0) (List.take (C.ti Q0).size c2_175)),(some (.val (.bool true)))]) λv=>some (.ret v,s)) (
 bind1 (ofSlots (C.ti Q0) (List.take (C.ti Q0).size (List.map .val (C.ti Q0).zero))) λv58_84=>
 bindL (boxCells (C.ti Q0) v58_84) λc_176=>
 bindL (putAt (List.map .val (C.ti Q0).zero) 0 c_176) λc2_176=>
 bind1 (tupS [(ofSlots (C.ti Q0) (List.take (C.ti Q0).size c2_176)),(some (.val (.bool false)))]) λv=>some (.ret v,s)))) (
 bind1 (binS (C.ti Q3) .eql (.val a0) (.val (.int .i64 14))) λv33_5=>
 condS v33_5 (
 condS v33_5 (
 bindL (boxCells (C.ti Q2) (.val (.int .i64 2))) λc_177=>
 bindL (putAt (List.map .val (C.ti Q0).zero) 4 c_177) λc2_177=>
 bindL (boxCells (C.ti Q2) (.val (.int .i64 2))) λc_178=>
 bindL (putAt c2_177 5 c_178) λc2_178=>
 bind1 (ofSlots (C.ti Q0) (List.take (C.ti Q0).size c2_178)) λv58_85=>
 bindL (boxCells (C.ti Q0) v58_85) λc_179=>
 bindL (putAt c2_178 0 c_179) λc2_179=>
 bind1 (tupS [(ofSlots (C.ti Q0) (List.take (C.ti Q0).size c2_179)),(some (.val (.bool true)))]) λv=>some (.ret v,s)) (
 bind1 (binS (C.ti Q3) .eql (.val a0) (.val (.int .i64 20))) λv37_21=>
 condS v37_21 (
 bind1 (ofSlots (C.ti Q0) (List.take (C.ti Q0).size (List.map .val (C.ti Q0).zero))) λv58_86=>
 bindL (boxCells (C.ti Q0) v58_86) λc_180=>
 bindL (putAt (List.map .val (C.ti Q0).zero) 0 c_180) λc2_180=>
 bind1 (tupS [(ofSlots (C.ti Q0) (List.take (C.ti Q0).size c2_180)),(some (.val (.bool true)))]) λv=>some (.ret v,s)) (
 bind1 (ofSlots (C.ti Q0) (List.take (C.ti Q0).size (List.map .val (C.ti Q0).zero))) λv58_87=>
 bindL (boxCells (C.ti Q0) v58_87) λc_181=>
 bindL (putAt (List.map .val (C.ti Q0).zero) 0 c_181) λc2_181=>
 bind1 (tupS [(ofSlots (C.ti Q0) (List.take (C.ti Q0).size c2_181)),(some (.val (.bool false)))]) λv=>some (.ret v,s)))) (
 bind1 (binS (C.ti Q3) .eql (.val a0) (.val (.int .i64 15))) λv34_5=>
 condS v34_5 (
 condS v34_5 (
 bindL (boxCells (C.ti Q2) (.val (.int .i64 2))) λc_182=>
 bindL (putAt (List.map .val (C.ti Q0).zero) 4 c_182) λc2_182=>
 bindL (boxCells (C.ti Q2) (.val (.int .i64 2))) λc_183=>
 bindL (putAt c2_182 5 c_183) λc2_183=>
 bind1 (ofSlots (C.ti Q0) (List.take (C.ti Q0).size c2_183)) λv58_88=>
 bindL (boxCells (C.ti Q0) v58_88) λc_184=>
 bindL (putAt c2_183 0 c_184) λc2_184=>
 bind1 (tupS [(ofSlots (C.ti Q0) (List.take (C.ti Q0).size c2_184)),(some (.val (.bool true)))]) λv=>some (.ret v,s)) (
 bind1 (binS (C.ti Q3) .eql (.val a0) (.val (.int .i64 20))) λv37_22=>
 condS v37_22 (
 bind1 (ofSlots (C.ti Q0) (List.take (C.ti Q0).size (List.map .val (C.ti Q0).zero))) λv58_89=>
 bindL (boxCells (C.ti Q0) v58_89) λc_185=>
 bindL (putAt (List.map .val (C.ti Q0).zero) 0 c_185) λc2_185=>
 bind1 (tupS [(ofSlots (C.ti Q0) (List.take (C.ti Q0).size c2_185)),(some (.val (.bool true)))]) λv=>some (.ret v,s)) (
 bind1 (ofSlots (C.ti Q0) (List.take (C.ti Q0).size (List.map .val (C.ti Q0).zero))) λv58_90=>
 bindL (boxCells (C.ti Q0) v58_90) λc_186=>
 bindL (putAt (List.map .val (C.ti Q0).zero) 0 c_186) λc2_186=>
 bind1 (tupS [(ofSlots (C.ti Q0) (List.take (C.ti Q0).size c2_186)),(some (.val (.bool false)))]) λv=>some (.ret v,s)))) (
 bind1 (binS (C.ti Q3) .eql (.val a0) (.val (.int .i64 18))) λv35_5=>
 condS v35_5 (
 bindL (boxCells (C.ti Q2) (.val (.int .i64 2))) λc_187=>
 bindL (putAt (List.map .val (C.ti Q0).zero) 4 c_187) λc2_187=>
 bindL (boxCells (C.ti Q2) (.val (.int .i64 2))) λc_188=>
 bindL (putAt c2_187 5 c_188) λc2_188=>
 bind1 (ofSlots (C.ti Q0) (List.take (C.ti Q0).size c2_188)) λv58_91=>
 bindL (boxCells (C.ti Q0) v58_91) λc_189=>
 bindL (putAt c2_188 0 c_189) λc2_189=>
 bind1 (tupS [(ofSlots (C.ti Q0) (List.take (C.ti Q0).size c2_189)),(some (.val (.bool true)))]) λv=>some (.ret v,s)) (
 bind1 (binS (C.ti Q3) .eql (.val a0) (.val (.int .i64 20))) λv37_23=>
 condS v37_23 (
 bind1 (ofSlots (C.ti Q0) (List.take (C.ti Q0).size (List.map .val (C.ti Q0).zero))) λv58_92=>
 bindL (boxCells (C.ti Q0) v58_92) λc_190=>
 bindL (putAt (List.map .val (C.ti Q0).zero) 0 c_190) λc2_190=>
 bind1 (tupS [(ofSlots (C.ti Q0) (List.take (C.ti Q0).size c2_190)),(some (.val (.bool true)))]) λv=>some (.ret v,s)) (
 bind1 (ofSlots (C.ti Q0) (List.take (C.ti Q0).size (List.map .val (C.ti Q0).zero))) λv58_93=>
 bindL (boxCells (C.ti Q0) v58_93) λc_191=>
 bindL (putAt (List.map .val (C.ti Q0).zero) 0 c_191) λc2_191=>
 bind1 (tupS [(ofSlots (C.ti Q0) (List.take (C.ti Q0).size c2_191)),(some (.val (.bool false)))]) λv=>some (.ret v,s))))))))) (
 bind1 (binS (C.ti Q3) .eql (.val a0) (.val (.int .i64 17))) λv27_1=>
 condS v27_1 (
 condS v27_1 (
 bindL (boxCells (C.ti Q2) (.val (.int .i64 1))) λc_192=>
 bindL (putAt (List.map .val (C.ti Q0).zero) 4 c_192) λc2_192=>
 bindL (boxCells (C.ti Q2) (.val (.int .i64 1))) λc_193=>
 bindL (putAt c2_192 5 c_193) λc2_193=>
 bind1 (ofSlots (C.ti Q0) (List.take (C.ti Q0).size c2_193)) λv58_94=>
 bindL (boxCells (C.ti Q0) v58_94) λc_194=>
 bindL (putAt c2_193 0 c_194) λc2_194=>
 bind1 (tupS [(ofSlots (C.ti Q0) (List.take (C.ti Q0).size c2_194)),(some (.val (.bool true)))]) λv=>some (.ret v,s)) (
 bind1 (binS (C.ti Q3) .eql (.val a0) (.val (.int .i64 13))) λv30_6=>
 condS v30_6 (
 bindL (boxCells (C.ti Qy) (.val (.bool true))) λc_195=>
 bindL (putAt (List.map .val (C.ti Q0).zero) 1 c_195) λc2_195=>
 bindL (boxCells (C.ti Q2) (.val (.int .i64 2))) λc_196=>
 bindL (putAt c2_195 4 c_196) λc2_196=>
 bindL (boxCells (C.ti Q2) (.val (.int .i64 2))) λc_197=>
 bindL (putAt c2_196 5 c_197) λc2_197=>
 bind1 (ofSlots (C.ti Q0) (List.take (C.ti Q0).size c2_197)) λv58_95=>
 bindL (boxCells (C.ti Q0) v58_95) λc_198=>
 bindL (putAt c2_197 0 c_198) λc2_198=>
 bind1 (tupS [(ofSlots (C.ti Q0) (List.take (C.ti Q0).size c2_198)),(some (.val (.bool true)))]) λv=>some (.ret v,s)) (
 bind1 (binS (C.ti Q3) .eql (.val a0) (.val (.int .i64 6))) λv32_6=>
 condS v32_6 (
 condS v32_6 (
 bindL (boxCells (C.ti Q2) (.val (.int .i64 2))) λc_199=>
 bindL (putAt (List.map .val (C.ti Q0).zero) 4 c_199) λc2_199=>
 bindL (boxCells (C.ti Q2) (.val (.int .i64 2))) λc_200=>
 bindL (putAt c2_199 5 c_200) λc2_200=>
 bind1 (ofSlots (C.ti Q0) (List.take (C.ti Q0).size c2_200)) λv58_96=>
 bindL (boxCells (C.ti Q0) v58_96) λc_201=>
 bindL (putAt c2_200 0 c_201) λc2_201=>
 bind1 (tupS [(ofSlots (C.ti Q0) (List.take (C.ti Q0).size c2_201)),(some (.val (.bool true)))]) λv=>some (.ret v,s)) (
 bind1 (binS (C.ti Q3) .eql (.val a0) (.val (.int .i64 20))) λv37_24=>
 condS v37_24 (
 bind1 (ofSlots (C.ti Q0) (List.take (C.ti Q0).size (List.map .val (C.ti Q0).zero))) λv58_97=>
 bindL (boxCells (C.ti Q0) v58_97) λc_202=>
 bindL (putAt (List.map .val (C.ti Q0).zero) 0 c_202) λc2_202=>
 bind1 (tupS [(ofSlots (C.ti Q0) (List.take (C.ti Q0).size c2_202)),(some (.val (.bool true)))]) λv=>some (.ret v,s)) (
 bind1 (ofSlots (C.ti Q0) (List.take (C.ti Q0).size (List.map .val (C.ti Q0).zero))) λv58_98=>
 bindL (boxCells (C.ti Q0) v58_98) λc_203=>
 bindL (putAt (List.map .val (C.ti Q0).zero) 0 c_203) λc2_203=>
 bind1 (tupS [(ofSlots (C.ti Q0) (List.take (C.ti Q0).size c2_203)),(some (.val (.bool false)))]) λv=>some (.ret v,s)))) (
 bind1 (binS (C.ti Q3) .eql (.val a0) (.val (.int .i64 14))) λv33_6=>
 condS v33_6 (
 condS v33_6 (
 bindL (boxCells (C.ti Q2) (.val (.int .i64 2))) λc_204=>
 bindL (putAt (List.map .val (C.ti Q0).zero) 4 c_204) λc2_204=>
 bindL (boxCells (C.ti Q2) (.val (.int .i64 2))) λc_205=>
 bindL (putAt c2_204 5 c_205) λc2_205=>
 bind1 (ofSlots (C.ti Q0) (List.take (C.ti Q0).size c2_205)) λv58_99=>
 bindL (boxCells (C.ti Q0) v58_99) λc_206=>
 bindL (putAt c2_205 0 c_206) λc2_206=>
 bind1 (tupS [(ofSlots (C.ti Q0) (List.take (C.ti Q0).size c2_206)),(some (.val (.bool true)))]) λv=>some (.ret v,s)) (
 bind1 (binS (C.ti Q3) .eql (.val a0) (.val (.int .i64 20))) λv37_25=>
 condS v37_25 (
 bind1 (ofSlots (C.ti Q0) (List.take (C.ti Q0).size (List.map .val (C.ti Q0).zero))) λv58_100=>
 bindL (boxCells (C.ti Q0) v58_100) λc_207=>
 bindL (putAt (List.map .val (C.ti Q0).zero) 0 c_207) λc2_207=>
 bind1 (tupS [(ofSlots (C.ti Q0) (List.take (C.ti Q0).size c2_207)),(some (.val (.bool true)))]) λv=>some (.ret v,s)) (
 bind1 (ofSlots (C.ti Q0) (List.take (C.ti Q0).size (List.map .val (C.ti Q0).zero))) λv58_101=>
 bindL (boxCells (C.ti Q0) v58_101) λc_208=>
 bindL (putAt (List.map .val (C.ti Q0).zero) 0 c_208) λc2_208=>
 bind1 (tupS [(ofSlots (C.ti Q0) (List.take (C.ti Q0).size c2_208)),(some (.val (.bool false)))]) λv=>some (.ret v,s)))) (
 bind1 (binS (C.ti Q3) .eql (.val a0) (.val (.int .i64 15))) λv34_6=>
 condS v34_6 (
 condS v34_6 (
 bindL (boxCells (C.ti Q2) (.val (.int .i64 2))) λc_209=>
 bindL (putAt (List.map .val (C.ti Q0).zero) 4 c_209) λc2_209=>
 bindL (boxCells (C.ti Q2) (.val (.int .i64 2))) λc_210=>
 bindL (putAt c2_209 5 c_210) λc2_210=>
 bind1 (ofSlots (C.ti Q0) (List.take (C.ti Q0).size c2_210)) λv58_102=>
 bindL (boxCells (C.ti Q0) v58_102) λc_211=>
 bindL (putAt c2_210 0 c_211) λc2_211=>
 bind1 (tupS [(ofSlots (C.ti Q0) (List.take (C.ti Q0).size c2_211)),(some (.val (.bool true)))]) λv=>some (.ret v,s)) (
 bind1 (binS (C.ti Q3) .eql (.val a0) (.val (.int .i64 20))) λv37_26=>
 condS v37_26 (
 bind1 (ofSlots (C.ti Q0) (List.take (C.ti Q0).size (List.map .val (C.ti Q0).zero))) λv58_103=>
 bindL (boxCells (C.ti Q0) v58_103) λc_212=>
 bindL (putAt (List.map .val (C.ti Q0).zero) 0 c_212) λc2_212=>
 bind1 (tupS [(ofSlots (C.ti Q0) (List.take (C.ti Q0).size c2_212)),(some (.val (.bool true)))]) λv=>some (.ret v,s)) (
 bind1 (ofSlots (C.ti Q0) (List.take (C.ti Q0).size (List.map .val (C.ti Q0).zero))) λv58_104=>
 bindL (boxCells (C.ti Q0) v58_104) λc_213=>
 bindL (putAt (List.map .val (C.ti Q0).zero) 0 c_213) λc2_213=>
 bind1 (tupS [(ofSlots (C.ti Q0) (List.take (C.ti Q0).size c2_213)),(some (.val (.bool false)))]) λv=>some (.ret v,s)))) (
 bind1 (binS (C.ti Q3) .eql (.val a0) (.val (.int .i64 18))) λv35_6=>
 condS v35_6 (
 bindL (boxCells (C.ti Q2) (.val (.int .i64 2))) λc_214=>
 bindL (putAt (List.map .val (C.ti Q0).zero) 4 c_214) λc2_214=>
 bindL (boxCells (C.ti Q2) (.val (.int .i64 2))) λc_215=>
 bindL (putAt c2_214 5 c_215) λc2_215=>
 bind1 (ofSlots (C.ti Q0) (List.take (C.ti Q0).size c2_215)) λv58_105=>
 bindL (boxCells (C.ti Q0) v58_105) λc_216=>
 bindL (putAt c2_215 0 c_216) λc2_216=>
 bind1 (tupS [(ofSlots (C.ti Q0) (List.take (C.ti Q0).size c2_216)),(some (.val (.bool true)))]) λv=>some (.ret v,s)) (
 bind1 (binS (C.ti Q3) .eql (.val a0) (.val (.int .i64 20))) λv37_27=>
 condS v37_27 (
 bind1 (ofSlots (C.ti Q0) (List.take (C.ti Q0).size (List.map .val (C.ti Q0).zero))) λv58_106=>
 bindL (boxCells (C.ti Q0) v58_106) λc_217=>
 bindL (putAt (List.map .val (C.ti Q0).zero) 0 c_217) λc2_217=>
 bind1 (tupS [(ofSlots (C.ti Q0) (List.take (C.ti Q0).size c2_217)),(some (.val (.bool true)))]) λv=>some (.ret v,s)) (
 bind1 (ofSlots (C.ti Q0) (List.take (C.ti Q0).size (List.map .val (C.ti Q0).zero))) λv58_107=>
 bindL (boxCells (C.ti Q0) v58_107) λc_218=>
 bindL (putAt (List.map .val (C.ti Q0).zero) 0 c_218) λc2_218=>
 bind1 (tupS [(ofSlots (C.ti Q0) (List.take (C.ti Q0).size c2_218)),(some (.val (.bool false)))]) λv=>some (.ret v,s))))))))) (
 bind1 (binS (C.ti Q3) .eql (.val a0) (.val (.int .i64 19))) λv28_1=>
 condS v28_1 (
 bindL (boxCells (C.ti Q2) (.val (.int .i64 1))) λc_219=>
 bindL (putAt (List.map .val (C.ti Q0).zero) 4 c_219) λc2_219=>
 bindL (boxCells (C.ti Q2) (.val (.int .i64 1))) λc_220=>
 bindL (putAt c2_219 5 c_220) λc2_220=>
 bind1 (ofSlots (C.ti Q0) (List.take (C.ti Q0).size c2_220)) λv58_108=>
 bindL (boxCells (C.ti Q0) v58_108) λc_221=>
 bindL (putAt c2_220 0 c_221) λc2_221=>
 bind1 (tupS [(ofSlots (C.ti Q0) (List.take (C.ti Q0).size c2_221)),(some (.val (.bool true)))]) λv=>some (.ret v,s)) (
 bind1 (binS (C.ti Q3) .eql (.val a0) (.val (.int .i64 13))) λv30_7=>
 condS v30_7 (
 bindL (boxCells (C.ti Qy) (.val (.bool true))) λc_222=>
 bindL (putAt (List.map .val (C.ti Q0).zero) 1 c_222) λc2_222=>
 bindL (boxCells (C.ti Q2) (.val (.int .i64 2))) λc_223=>
 bindL (putAt c2_222 4 c_223) λc2_223=>
 bindL (boxCells (C.ti Q2) (.val (.int .i64 2))) λc_224=>
 bindL (putAt c2_223 5 c_224) λc2_224=>
 bind1 (ofSlots (C.ti Q0) (List.take (C.ti Q0).size c2_224)) λv58_109=>
 bindL (boxCells (C.ti Q0) v58_109) λc_225=>
 bindL (putAt c2_224 0 c_225) λc2_225=>
 bind1 (tupS [(ofSlots (C.ti Q0) (List.take (C.ti Q0).size c2_225)),(some (.val (.bool true)))]) λv=>some (.ret v,s)) (
 bind1 (binS (C.ti Q3) .eql (.val a0) (.val (.int .i64 6))) λv32_7=>
 condS v32_7 (
 condS v32_7 (
 bindL (boxCells (C.ti Q2) (.val (.int .i64 2))) λc_226=>
 bindL (putAt (List.map .val (C.ti Q0).zero) 4 c_226) λc2_226=>
 bindL (boxCells (C.ti Q2) (.val (.int .i64 2))) λc_227=>
 bindL (putAt c2_226 5 c_227) λc2_227=>
 bind1 (ofSlots (C.ti Q0) (List.take (C.ti Q0).size c2_227)) λv58_110=>
 bindL (boxCells (C.ti Q0) v58_110) λc_228=>
 bindL (putAt c2_227 0 c_228) λc2_228=>
 bind1 (tupS [(ofSlots (C.ti Q0) (List.take (C.ti Q0).size c2_228)),(some (.val (.bool true)))]) λv=>some (.ret v,s)) (
 bind1 (binS (C.ti Q3) .eql (.val a0) (.val (.int .i64 20))) λv37_28=>
 condS v37_28 (
 bind1 (ofSlots (C.ti Q0) (List.take (C.ti Q0).size (List.map .val (C.ti Q0).zero))) λv58_111=>
 bindL (boxCells (C.ti Q0) v58_111) λc_229=>
 bindL (putAt (List.map .val (C.ti Q0).zero) 0 c_229) λc2_229=>
 bind1 (tupS [(ofSlots (C.ti Q0) (List.take (C.ti Q0).size c2_229)),(some (.val (.bool true)))]) λv=>some (.ret v,s)) (
 bind1 (ofSlots (C.ti Q0) (List.take (C.ti Q0).size (List.map .val (C.ti Q0).zero))) λv58_112=>
 bindL (boxCells (C.ti Q0) v58_112) λc_230=>
 bindL (putAt (List.map .val (C.ti Q0).zero) 0 c_230) λc2_230=>
 bind1 (tupS [(ofSlots (C.ti Q0) (List.take (C.ti Q0).size c2_230)),(some (.val (.bool false)))]) λv=>some (.ret v,s)))) (
 bind1 (binS (C.ti Q3) .eql (.val a0) (.val (.int .i64 14))) λv33_7=>
 condS v33_7 (
 condS v33_7 (
 bindL (boxCells (C.ti Q2) (.val (.int .i64 2))) λc_231=>
 bindL (putAt (List.map .val (C.ti Q0).zero) 4 c_231) λc2_231=>
 bindL (boxCells (C.ti Q2) (.val (.int .i64 2))) λc_232=>
 bindL (putAt c2_231 5 c_232) λc2_232=>
 bind1 (ofSlots (C.ti Q0) (List.take (C.ti Q0).size c2_232)) λv58_113=>
 bindL (boxCells (C.ti Q0) v58_113) λc_233=>
 bindL (putAt c2_232 0 c_233) λc2_233=>
 bind1 (tupS [(ofSlots (C.ti Q0) (List.take (C.ti Q0).size c2_233)),(some (.val (.bool true)))]) λv=>some (.ret v,s)) (
 bind1 (binS (C.ti Q3) .eql (.val a0) (.val (.int .i64 20))) λv37_29=>
 condS v37_29 (
 bind1 (ofSlots (C.ti Q0) (List.take (C.ti Q0).size (List.map .val (C.ti Q0).zero))) λv58_114=>
 bindL (boxCells (C.ti Q0) v58_114) λc_234=>
 bindL (putAt (List.map .val (C.ti Q0).zero) 0 c_234) λc2_234=>
 bind1 (tupS [(ofSlots (C.ti Q0) (List.take (C.ti Q0).size c2_234)),(some (.val (.bool true)))]) λv=>some (.ret v,s)) (
 bind1 (ofSlots (C.ti Q0) (List.take (C.ti Q0).size (List.map .val (C.ti Q0).zero))) λv58_115=>
 bindL (boxCells (C.ti Q0) v58_115) λc_235=>
 bindL (putAt (List.map .val (C.ti Q0).zero) 0 c_235) λc2_235=>
 bind1 (tupS [(ofSlots (C.ti Q0) (List.take (C.ti Q0).size c2_235)),(some (.val (.bool false)))]) λv=>some (.ret v,s)))) (
 bind1 (binS (C.ti Q3) .eql (.val a0) (.val (.int .i64 15))) λv34_7=>
 condS v34_7 (
 condS v34_7 (
 bindL (boxCells (C.ti Q2) (.val (.int .i64 2))) λc_236=>
 bindL (putAt (List.map .val (C.ti Q0).zero) 4 c_236) λc2_236=>
 bindL (boxCells (C.ti Q2) (.val (.int .i64 2))) λc_237=>
 bindL (putAt c2_236 5 c_237) λc2_237=>
 bind1 (ofSlots (C.ti Q0) (List.take (C.ti Q0).size c2_237)) λv58_116=>
 bindL (boxCells (C.ti Q0) v58_116) λc_238=>
 bindL (putAt c2_237 0 c_238) λc2_238=>
 bind1 (tupS [(ofSlots (C.ti Q0) (List.take (C.ti Q0).size c2_238)),(some (.val (.bool true)))]) λv=>some (.ret v,s)) (
 bind1 (binS (C.ti Q3) .eql (.val a0) (.val (.int .i64 20))) λv37_30=>
 condS v37_30 (
 bind1 (ofSlots (C.ti Q0) (List.take (C.ti Q0).size (List.map .val (C.ti Q0).zero))) λv58_117=>
 bindL (boxCells (C.ti Q0) v58_117) λc_239=>
 bindL (putAt (List.map .val (C.ti Q0).zero) 0 c_239) λc2_239=>
 bind1 (tupS [(ofSlots (C.ti Q0) (List.take (C.ti Q0).size c2_239)),(some (.val (.bool true)))]) λv=>some (.ret v,s)) (
 bind1 (ofSlots (C.ti Q0) (List.take (C.ti Q0).size (List.map .val (C.ti Q0).zero))) λv58_118=>
 bindL (boxCells (C.ti Q0) v58_118) λc_240=>
 bindL (putAt (List.map .val (C.ti Q0).zero) 0 c_240) λc2_240=>
 bind1 (tupS [(ofSlots (C.ti Q0) (List.take (C.ti Q0).size c2_240)),(some (.val (.bool false)))]) λv=>some (.ret v,s)))) (
 bind1 (binS (C.ti Q3) .eql (.val a0) (.val (.int .i64 18))) λv35_7=>
 condS v35_7 (
 bindL (boxCells (C.ti Q2) (.val (.int .i64 2))) λc_241=>
 bindL (putAt (List.map .val (C.ti Q0).zero) 4 c_241) λc2_241=>
 bindL (boxCells (C.ti Q2) (.val (.int .i64 2))) λc_242=>
 bindL (putAt c2_241 5 c_242) λc2_242=>
 bind1 (ofSlots (C.ti Q0) (List.take (C.ti Q0).size c2_242)) λv58_119=>
 bindL (boxCells (C.ti Q0) v58_119) λc_243=>
 bindL (putAt c2_242 0 c_243) λc2_243=>
 bind1 (tupS [(ofSlots (C.ti Q0) (List.take (C.ti Q0).size c2_243)),(some (.val (.bool true)))]) λv=>some (.ret v,s)) (
 bind1 (binS (C.ti Q3) .eql (.val a0) (.val (.int .i64 20))) λv37_31=>
 condS v37_31 (
 bind1 (ofSlots (C.ti Q0) (List.take (C.ti Q0).size (List.map .val (C.ti Q0).zero))) λv58_120=>
 bindL (boxCells (C.ti Q0) v58_120) λc_244=>
 bindL (putAt (List.map .val (C.ti Q0).zero) 0 c_244) λc2_244=>
 bind1 (tupS [(ofSlots (C.ti Q0) (List.take (C.ti Q0).size c2_244)),(some (.val (.bool true)))]) λv=>some (.ret v,s)) (
 bind1 (ofSlots (C.ti Q0) (List.take (C.ti Q0).size (List.map .val (C.ti Q0).zero))) λv58_121=>
 bindL (boxCells (C.ti Q0) v58_121) λc_245=>
 bindL (putAt (List.map .val (C.ti Q0).zero) 0 c_245) λc2_245=>
 bind1 (tupS [(ofSlots (C.ti Q0) (List.take (C.ti Q0).size c2_245)),(some (.val (.bool false)))]) λv=>some (.ret v,s))))))))))))))))))))):=(Q5 _ _ _).trans (by kernel_rfl)
theorem Q9k(a0:AV)(s:St):cw (.f Q15) [a0] s =
 ca Q3d [(.val a0)] s λv4 s_1=>
 iF v4 λw=>
 iF v4 λw_1=>
 gB w_1 Q1 .eql (gdV w (.val a0)) (sv [116,114,117,101]) λv7=>
 pk v4 (bv true) v7 λv8=>
 iF v8 λw_2=>
 iF v8 λw_3=>
 gB w_3 Q1 .eql (gdV w_2 (.val a0)) (sv [102,97,108,115,101]) λv11=>
 pk v8 (bv true) v11 λv12=>
 iF v12 λw_4=>
 iF v12 λw_5=>
 gB w_5 Q1 .eql (gdV w_4 (.val a0)) (sv [40,41]) λv15=>
 pk v12 (bv true) v15 λv16=>
 some (.ret v16,s_1):=(Q5 _ _ _).trans (by kernel_rfl)
theorem Qfd(a0:AV)(s:St):cw (.f Q4y) [a0] s =
 bn Q2 .geq (.val a0) (iv (-1073741824)) λv4=>
 iT v4 λw=>
 iT v4 λw_1=>
 gB w_1 Q2 .leq (gdV w (.val a0)) (iv 1073741823) λv7=>
 pk v4 v7 (bv false) λv8=>
 some (.ret v8,s):=(Q5 _ _ _).trans (by kernel_rfl)
theorem Qhi(a0:AV)(a1:AV)(a2:AV)(s:St):cw (.f Q13) [a0,a1,a2] s =
 bn Q2 .geq (.val a0) (.val a1) λv9=>
 iT v9 λw=>
 iT v9 λw_1=>
 iT v9 λw_2=>
 gB w_2 Q2 .leq (gdV w (.val a0)) (gdV w_1 (.val a2)) λv13=>
 pk v9 v13 (bv false) λv14=>
 some (.ret v14,s):=(Q5 _ _ _).trans (by kernel_rfl)
noncomputable def Q0r:Slot→Slot→St→Res:=λx5_1 x18 s=>pw (run C false Q1x (codeAt [.seqR,.seqL,.seqR,.block,.seqR,.els,.seqR,.els,.seqR,.els,.seqR] (body Tryz.f171)) [(5,.s x5_1),(18,.s x18)] s (ctxR C false Q1x [.seqR,.seqL,.seqR,.block,.seqR,.els,.seqR,.els,.seqR,.els,.seqR] (body Tryz.f171) (outK C (Tryz.f171).results.toList)))
noncomputable def ZB:Slot→Slot→St→Res:=λx5 x10 s=>pw (run C false Q1x (codeAt [.seqR,.seqL,.seqR,.block,.seqR,.els,.seqR,.els,.seqR] (body Tryz.f171)) [(5,.s x5),(10,.s x10)] s (ctxR C false Q1x [.seqR,.seqL,.seqR,.block,.seqR,.els,.seqR,.els,.seqR] (body Tryz.f171) (outK C (Tryz.f171).results.toList)))
theorem Qbs(x5_1:Slot)(x18:Slot)(s_2:St):Q0r x5_1 x18 s_2 =
 condS x18 (
 bind1 (tupS [(some (.val (.int .i64 2))),(some (.val (.int .i64 2))),(some (.val (.bool true)))]) λv=>some (.ret v,s_2)) (
 bind1 (binS (C.ti Q3) .eql x5_1 (.val (.int .i64 8))) λv25=>
 condS v25 (
 bind1 (tupS [(some (.val (.int .i64 3))),(some (.val (.int .i64 3))),(some (.val (.bool true)))]) λv=>some (.ret v,s_2)) (
 bind1 (binS (C.ti Q3) .eql x5_1 (.val (.int .i64 10))) λv27=>
 condS v27 (
 bind1 (tupS [(some (.val (.int .i64 2))),(some (.val (.int .i64 1099511627776))),(some (.val (.bool true)))]) λv=>some (.ret v,s_2)) (
 bind1 (tupS [(some (.val (.int .i64 0))),(some (.val (.int .i64 0))),(some (.val (.bool false)))]) λv=>some (.ret v,s_2)))):=by unfold Q0r;exact (QX _).trans (by kernel_rfl)
theorem Qbr(x5:Slot)(x10:Slot)(s_1:St):ZB x5 x10 s_1 =
 condS x10 (
 bind1 (tupS [(some (.val (.int .i64 1))),(some (.val (.int .i64 1))),(some (.val (.bool true)))]) λv=>some (.ret v,s_1)) (
 bind1 (binS (C.ti Q3) .eql x5 (.val (.int .i64 6))) λv19=>
 condS v19 (
 Q0r (x5) (v19) s_1) (
 bind1 (binS (C.ti Q3) .eql x5 (.val (.int .i64 13))) λv20=>
 condS v20 (
 Q0r (x5) (v20) s_1) (
 bind1 (binS (C.ti Q3) .eql x5 (.val (.int .i64 14))) λv21=>
 condS v21 (
 Q0r (x5) (v21) s_1) (
 bind1 (binS (C.ti Q3) .eql x5 (.val (.int .i64 15))) λv22=>
 condS v22 (
 Q0r (x5) (v22) s_1) (
 bind1 (binS (C.ti Q3) .eql x5 (.val (.int .i64 18))) λv23=>
 Q0r (x5) (v23) s_1))))):=by unfold ZB;exact (QX _).trans (by kernel_rfl)
theorem QeS(a0:AV)(s:St):cw (.f Q1x) [a0] s =
 bind1 (binS (C.ti Q3) .eql (.val a0) (.val (.int .i64 3))) λv7=>
 condS v7 (
 bind1 (tupS [(some (.val (.int .i64 0))),(some (.val (.int .i64 1))),(some (.val (.bool true)))]) λv=>some (.ret v,s)) (
 bind1 (binS (C.ti Q3) .eql (.val a0) (.val (.int .i64 4))) λv9=>
 condS v9 (
 bind1 (tupS [(some (.val (.int .i64 2))),(some (.val (.int .i64 8))),(some (.val (.bool true)))]) λv=>some (.ret v,s)) (
 bind1 (binS (C.ti Q3) .eql (.val a0) (.val (.int .i64 7))) λv11=>
 condS v11 (
 ZB ((.val a0)) (v11) s) (
 bind1 (binS (C.ti Q3) .eql (.val a0) (.val (.int .i64 9))) λv12=>
 condS v12 (
 ZB ((.val a0)) (v12) s) (
 bind1 (binS (C.ti Q3) .eql (.val a0) (.val (.int .i64 11))) λv13=>
 condS v13 (
 ZB ((.val a0)) (v13) s) (
 bind1 (binS (C.ti Q3) .eql (.val a0) (.val (.int .i64 12))) λv14=>
 condS v14 (
 ZB ((.val a0)) (v14) s) (
 bind1 (binS (C.ti Q3) .eql (.val a0) (.val (.int .i64 16))) λv15=>
 condS v15 (
 ZB ((.val a0)) (v15) s) (
 bind1 (binS (C.ti Q3) .eql (.val a0) (.val (.int .i64 17))) λv16=>
 condS v16 (
 ZB ((.val a0)) (v16) s) (
 bind1 (binS (C.ti Q3) .eql (.val a0) (.val (.int .i64 19))) λv17=>
 ZB ((.val a0)) (v17) s)))))))):=(Q5 _ _ _).trans (by kernel_rfl)
theorem Qgn(a0:AV)(s:St):cw (.f Q5z) [a0] s =
 ca Q2G [(.val a0)] s λv4 s_1=>
 iF v4 λw=>
 iF v4 λw_1=>
 gB w_1 Q1 .eql (gdV w (.val a0)) (sv [116,114,117,101]) λv7=>
 pk v4 (bv true) v7 λv8=>
 iF v8 λw_2=>
 iF v8 λw_3=>
 gB w_3 Q1 .eql (gdV w_2 (.val a0)) (sv [102,97,108,115,101]) λv11=>
 pk v8 (bv true) v11 λv12=>
 iF v12 λw_4=>
 iF v12 λw_5=>
 gB w_5 Q1 .eql (gdV w_4 (.val a0)) (sv [40,41]) λv15=>
 pk v12 (bv true) v15 λv16=>
 some (.ret v16,s_1):=(Q5 _ _ _).trans (by kernel_rfl)
theorem Qdm(a0:AV)(s:St):cw (.f Q3Q) [a0] s =
 ca Q4n [(.val a0)] s λv4 s_1=>
 bn Q2 .eql v4 (.val a0) λv6=>
 some (.ret v6,s_1):=(Q5 _ _ _).trans (by kernel_rfl)
noncomputable def Q11:Slot→Slot→St→Res:=λx4 x5 s=>pwD Q4o [.seqR,.seqL,.seqR,.block,.seqR] Tryz.f174 [(4,.s x4),(5,.s x5)] s
theorem Qbh:∀ x4 x5 s_1,Q11 x4 x5 s_1 =
 condS x5 (
 rt [(some (iv 0)),(some (iv 0))] s_1) (
 bn Q1 .eql x4 (sv [114,101,102]) λv11=>
 condS v11 (
 rt [(some (iv 1)),(some (iv 1))] s_1) (
 bn Q1 .eql x4 (sv [45,62]) λv13=>
 condS v13 (
 rt [(some (iv 2)),(some (iv 2))] s_1) (
 bn Q1 .eql x4 (sv [42]) λv15=>
 condS v15 (
 rt [(some (iv 2)),(some (iv 8))] s_1) (
 rt [(some (iv 0)),(some (iv 8))] s_1)))):=by intros;unfold Q11;exact (QX _).trans (by kernel_rfl)
theorem QeP(a0:AV)(s:St):cw (.f Q4o) [a0] s =
 bn Q1 .eql (.val a0) (sv [105,110,116]) λv6=>
 condS v6 (
 Q11 (.val a0) v6 s) (
 bn Q1 .eql (.val a0) (sv [98,111,111,108]) λv7=>
 condS v7 (
 Q11 (.val a0) v7 s) (
 bn Q1 .eql (.val a0) (sv [117,110,105,116]) λv8=>
 condS v8 (
 Q11 (.val a0) v8 s) (
 bn Q1 .eql (.val a0) (sv [101,120,110]) λv9=>
 Q11 (.val a0) v9 s))):=(Q5 _ _ _).trans (by kernel_rfl)
noncomputable def Q0i:Slot→Slot→St→Res:=λx0 x5 s=>lpD Q1y [.seqR,.seqR,.seqL,.seqR,.block] Tryz.f175 [(0,.s x0),(5,.s x5)] s
theorem Q5W:∀ x0 x5 s_2,Q0i x0 x5 s_2 =
 ln Q1 x0 λv23=>
 bn Q2 .lss x5 v23 λv24=>
 condS v24 (
 bind1 (indexS (C.ti Q1) (C.ti T_0) x0 x5) λv29=>
 ca Q6U [v29] s_2 λv30 s_3=>
 nt v30 λv31=>
 condS v31 (
 some (.ret (bv false),s_3)) (
 nx x5 λv26=>
 Q0i x0 v26 s_3)) (
 some (.ret (bv true),s_2)):=by intros;unfold Q0i;exact (Qb _ _ _ _ _ _).trans (by kernel_rfl)
theorem Qcf(a0:AV)(a1:AV)(s:St):cw (.f Q1y) [a0,a1] s =
 ln Q1 (.val a0) λv7=>
 bn Q2 .lss v7 (iv 1) λv8=>
 iF v8 λw=>
 iF v8 λw_1=>
 gL w_1 Q1 (gdV w (.val a0)) λv11=>
 iF v8 λw_2=>
 gB w_2 Q2 .gtr v11 (iv 32) λv12=>
 pk v8 (bv true) v12 λv13=>
 iF v13 λw_3=>
 iF v13 λw_4=>
 bind1 (gd w_4 (indexS (C.ti Q1) (C.ti T_0) (gdV w_3 (.val a0)) (iv 0))) λv16=>
 iF v13 λw_5=>
 iF v13 λw_6=>
 cg w_6 Q5f [v16,(gdV w_5 (.val a1))] s λv18 s_1=>
 iF v13 λw_7=>
 gN w_7 v18 λv19=>
 pk v13 (bv true) v19 λv20=>
 condS v20 (
 some (.ret (bv false),s_1)) (
 Q0i (.val a0) (iv 1) s_1):=(Q5 _ _ _).trans (by kernel_rfl)
noncomputable def Q1V:Slot→Slot→Slot→St→Res:=λx0 x1 x5 s=>lpD Q3O [.seqR,.seqL,.seqR,.block] Tryz.f176 [(0,.s x0),(1,.s x1),(5,.s x5)] s
theorem Q6n:∀ x0 x1 x5 s_1,Q1V x0 x1 x5 s_1 =
 ln Qe x1 λv8=>
 bn Q2 .lss x5 v8 λv9=>
 condS v9 (
 ix Q1 x1 x5 λv14=>
 ld Q1 s_1 v14 λv15=>
 bn Q1 .eql v15 x0 λv17=>
 condS v17 (
 some (.ret (bv true),s_1)) (
 nx x5 λv11=>
 Q1V x0 x1 v11 s_1)) (
 some (.ret (bv false),s_1)):=by intros;unfold Q1V;exact (Qb _ _ _ _ _ _).trans (by kernel_rfl)
theorem Qdg(a0:AV)(a1:AV)(s:St):cw (.f Q3O) [a0,a1] s =
 Q1V (.val a0) (.val a1) (iv 0) s:=(Q5 _ _ _).trans (by kernel_rfl)
theorem Qdf(s:St):cw (.f Q69) [] s =
 bs Q1 [(sv [97,110,100]),(sv [97,110,100,97,108,115,111]),(sv [97,115]),(sv [99,97,115,101]),(sv [100,97,116,97,116,121,112,101]),(sv [100,105,118]),(sv [101,108,115,101]),(sv [101,110,100]),(sv [101,120,99,101,112,116,105,111,110]),(sv [102,110]),(sv [102,117,110]),(sv [104,97,110,100,108,101]),(sv [105,102]),(sv [105,110]),(sv [108,101,116]),(sv [109,111,100]),(sv [111,102]),(sv [111,114,101,108,115,101]),(sv [112,114,105,110,116]),(sv [114,97,105,115,101]),(sv [114,101,97,100]),(sv [114,101,102]),(sv [116,104,101,110]),(sv [118,97,108])] λv1=>
 some (.ret v1,s):=(Q5 _ _ _).trans (by kernel_rfl)
theorem Qfc(a0:AV)(s:St):cw (.f Q4x) [a0] s =
 bn Qg .geq (.val a0) (.val (.int .u8 65)) λv4=>
 iT v4 λw=>
 iT v4 λw_1=>
 gB w_1 Qg .leq (gdV w (.val a0)) (.val (.int .u8 90)) λv7=>
 pk v4 v7 (bv false) λv8=>
 some (.ret v8,s):=(Q5 _ _ _).trans (by kernel_rfl)
noncomputable def Q3U:Slot→St→Res:=λx3 s=>pwD Q4n [.seqR,.seqR,.seqR] Tryz.f184 [(3,.s x3)] s
theorem Qbg:∀ x3 s_1,Q3U x3 s_1 =
 bn Q2 .geq x3 (iv 1073741824) λv11=>
 condS v11 (
 bn Q2 .sub x3 (iv 2147483648) λv13=>
 some (.ret v13,s_1)) (
 some (.ret x3,s_1)):=by intros;unfold Q3U;exact (QX _).trans (by kernel_rfl)
theorem QeO(a0:AV)(s:St):cw (.f Q4n) [a0] s =
 bn Q2 .rem (.val a0) (iv 2147483648) λv5=>
 bn Q2 .lss v5 (iv 0) λv7=>
 condS v7 (
 bn Q2 .add v5 (iv 2147483648) λv9=>
 Q3U v9 s) (
 Q3U v5 s):=(Q5 _ _ _).trans (by kernel_rfl)
theorem Qcd(a0:AV)(a1:AV)(s:St):cw (.f Q5f) [a0,a1] s =
 condS (.val a1) (
 bn Qg .geq (.val a0) (.val (.int .u8 65)) λv7=>
 iT v7 λw=>
 iT v7 λw_1=>
 gB w_1 Qg .leq (gdV w (.val a0)) (.val (.int .u8 90)) λv10=>
 pk v7 v10 (bv false) λv11=>
 some (.ret v11,s)) (
 bn Qg .geq (.val a0) (.val (.int .u8 97)) λv13=>
 iT v13 λw_2=>
 iT v13 λw_3=>
 gB w_3 Qg .leq (gdV w_2 (.val a0)) (.val (.int .u8 122)) λv16=>
 pk v13 v16 (bv false) λv17=>
 iF v17 λw_4=>
 iF v17 λw_5=>
 gB w_5 Qg .eql (gdV w_4 (.val a0)) (.val (.int .u8 95)) λv20=>
 pk v17 (bv true) v20 λv21=>
 some (.ret v21,s)):=(Q5 _ _ _).trans (by kernel_rfl)
theorem QeT(a0:AV)(s:St):cw (.f Q6U) [a0] s =
 bn Qg .geq (.val a0) (.val (.int .u8 97)) λv4=>
 iT v4 λw=>
 iT v4 λw_1=>
 gB w_1 Qg .leq (gdV w (.val a0)) (.val (.int .u8 122)) λv7=>
 pk v4 v7 (bv false) λv8=>
 iF v8 λw_2=>
 iF v8 λw_3=>
 gB w_3 Qg .geq (gdV w_2 (.val a0)) (.val (.int .u8 65)) λv11=>
 iF v8 λw_4=>
 bindB (Slot.isB (gdV w_4 v11) true) λw_5=>
 bindB (Slot.isB (gdV w_4 v11) true) λw_6=>
 gB w_6 Qg .leq (gdV w_5 (.val a0)) (.val (.int .u8 90)) λv14=>
 iF v8 λw_7=>
 bind1 (gd w_7 (pickS (gdV w_4 v11) v14 (bv false))) λv15=>
 pk v8 (bv true) v15 λv16=>
 iF v16 λw_8=>
 iF v16 λw_9=>
 gB w_9 Qg .geq (gdV w_8 (.val a0)) (.val (.int .u8 48)) λv19=>
 iF v16 λw_10=>
 bindB (Slot.isB (gdV w_10 v19) true) λw_11=>
 bindB (Slot.isB (gdV w_10 v19) true) λw_12=>
 gB w_12 Qg .leq (gdV w_11 (.val a0)) (.val (.int .u8 57)) λv22=>
 iF v16 λw_13=>
 bind1 (gd w_13 (pickS (gdV w_10 v19) v22 (bv false))) λv23=>
 pk v16 (bv true) v23 λv24=>
 iF v24 λw_14=>
 iF v24 λw_15=>
 gB w_15 Qg .eql (gdV w_14 (.val a0)) (.val (.int .u8 95)) λv27=>
 pk v24 (bv true) v27 λv28=>
 iF v28 λw_16=>
 iF v28 λw_17=>
 gB w_17 Qg .eql (gdV w_16 (.val a0)) (.val (.int .u8 39)) λv31=>
 pk v28 (bv true) v31 λv32=>
 some (.ret v32,s):=(Q5 _ _ _).trans (by kernel_rfl)
end Go.Proofs.YtgfhplcmcdimiaaGreatDoor