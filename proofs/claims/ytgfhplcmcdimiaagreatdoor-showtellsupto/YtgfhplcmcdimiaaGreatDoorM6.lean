/- A part of the proof: G2. -/
import Derived.Test.YtgfhplcmcdimiaaGreatDoorM4
set_option linter.unusedVariables false
set_option linter.unusedSimpArgs false
namespace Go.Proofs.YtgfhplcmcdimiaaGreatDoor
open Go Go.Am
set_option linter.unusedVariables false
theorem Q9L(a0:AV)(s:St):cw (.f Q3m) [a0] s =
 ca Q5A [(.val a0),(iv 700)] s λv4 s_1=>
 nt v4 λv5=>
 iT v5 λw=>
 cg w Q3N [] s_1 λv7 s_2=>
 pk v5 v7 (bv false) λv8=>
 iF v8 λw_1=>
 iF v8 λw_2=>
 cg w_2 Q5A [(gdV w_1 (.val a0)),(iv 700)] s_2 λv11 s_3=>
 iF v8 λw_3=>
 bindB (Slot.isB (gdV w_3 v11) true) λw_4=>
 bindB (Slot.isB (gdV w_3 v11) true) λw_5=>
 cg w_5 Q3b [(gdV w_4 (.val a0))] s_3 λv14 s_4=>
 bindB (Slot.isB (gdV w_3 v11) true) λw_6=>
 bindB (Slot.isB (gdV w_3 v11) true) λw_7=>
 cg w_7 Q4p [(gdV w_6 (.val a0))] s_4 λv16 s_5=>
 bindB (Slot.isB (gdV w_3 v11) true) λw_8=>
 gB w_8 Q1 .eql v14 v16 λv17=>
 iF v8 λw_9=>
 bind1 (gd w_9 (pickS (gdV w_3 v11) v17 (bv false))) λv18=>
 iF v8 λw_10=>
 bindB (Slot.isB (gdV w_10 v18) true) λw_11=>
 cg w_11 Q3N [] s_5 λv20 s_6=>
 iF v8 λw_12=>
 bind1 (gd w_12 (pickS (gdV w_10 v18) v20 (bv false))) λv21=>
 pk v8 (bv true) v21 λv22=>
 some (.ret v22,s_6):=(Q5 _ _ _).trans (by kernel_rfl)
theorem Qd5(s:St):cw (.f Q3N) [] s =
 ca Q26 [(iv 1)] s λv4 s_1=>
 ca Q26 [(iv 2)] s_1 λv5 s_2=>
 ca Q26 [(iv 3)] s_2 λv6 s_3=>
 ca Q38 [(iv 2),v5,v6] s_3 λv7 s_4=>
 ca Q38 [(iv 2),v4,v7] s_4 λv8 s_5=>
 ca Q3w [v8] s_5 λv9 s_6=>
 ca Q26 [(iv 1)] s_6 λv10 s_7=>
 ca Q26 [(iv 2)] s_7 λv11 s_8=>
 ca Q38 [(iv 2),v10,v11] s_8 λv12 s_9=>
 ca Q26 [(iv (-3))] s_9 λv13 s_10=>
 ca Q38 [(iv 2),v12,v13] s_10 λv14 s_11=>
 ca Q3w [v14] s_11 λv15 s_12=>
 bd Qu [(0,Qs,(iv 1)),(1,Q2,(iv 27))] λv16=>
 bd Qu [(0,Qs,(iv 2)),(2,Q1,(sv [105,110,116]))] λv17=>
 bs Qu [v16,v17] λv18=>
 bd Qu [(0,Qs,(iv 2)),(2,Q1,(sv [45,62])),(3,Ql,v18)] λv19=>
 ca Q7R [v19] s_12 λv20 s_13=>
 bn Q1 .eql v9 (sv [49,32,45,32,40,50,32,45,32,51,41]) λv22=>
 iT v22 λw=>
 iT v22 λw_1=>
 gB w_1 Q1 .eql (gdV w v15) (sv [49,32,45,32,50,32,45,32,126,51]) λv25=>
 pk v22 v25 (bv false) λv26=>
 iT v26 λw_2=>
 iT v26 λw_3=>
 gB w_3 Q1 .eql (gdV w_2 v20) (sv [39,98,49,32,45,62,32,105,110,116]) λv29=>
 pk v26 v29 (bv false) λv30=>
 iT v30 λw_4=>
 bind1 (gd w_4 (buildS (C.ti Q6).zero [])) λv32=>
 iT v30 λw_5=>
 cg w_5 Q3w [v32] s_13 λv33 s_14=>
 iT v30 λw_6=>
 gB w_6 Q1 .eql v33 (sv []) λv34=>
 pk v30 v34 (bv false) λv35=>
 iT v35 λw_7=>
 bind1 (gd w_7 (buildS (C.ti Qq).zero [(0,(C.ti Qd).size,(iv 1))])) λv37=>
 iT v35 λw_8=>
 cg w_8 Q5h [v37] s_14 λv38 s_15=>
 iT v35 λw_9=>
 gB w_9 Q1 .eql v38 (sv [95]) λv39=>
 pk v35 v39 (bv false) λv40=>
 some (.ret v40,s_15):=(Q5 _ _ _).trans (by kernel_rfl)
theorem QgD(a0:AV)(s:St):cw (.f Q3w) [a0] s =
 bx Q6 (.val a0) λc1=>
 gA Q6 c1 λv3=>
 ca Q4u [v3] s λv4 s_1=>
 bind1 (fieldS (C.ti Qi) (C.ti QI) 0 v4) λv5=>
 bn QI .neq v5 (iv 0) λv6=>
 condS v6 (
 some (.ret (sv []),s_1)) (
 gA Q6 c1 λv7=>
 ca ZA [v7] s_1 λv8 s_2=>
 ca Q1o [v8] s_2 λv9 s_3=>
 some (.ret v9,s_3)):=(Q5 _ _ _).trans (by kernel_rfl)
theorem Qcq(a0:AV)(s:St):cw (.f Q5h) [a0] s =
 bx Qq (.val a0) λc1=>
 gA Qq c1 λv3=>
 ca Q4v [v3] s λv4 s_1=>
 bind1 (fieldS (C.ti Qi) (C.ti QI) 0 v4) λv5=>
 bn QI .neq v5 (iv 0) λv6=>
 condS v6 (
 some (.ret (sv []),s_1)) (
 gA Qq c1 λv7=>
 ca Q29 [v7] s_1 λv8 s_2=>
 ca Q1o [v8] s_2 λv9 s_3=>
 some (.ret v9,s_3)):=(Q5 _ _ _).trans (by kernel_rfl)
theorem QgE(a0:AV)(s:St):cw (.f Q7R) [a0] s =
 bx Qu (.val a0) λc1=>
 bx Q2 (iv 256) λc=>
 sto (St.addLoc s (.var (List.map .val (C.ti Q2).zero))) (.val (.vp s.locs.length 0)) c λs_1=>
 gA Qu c1 λv4=>
 ca Q2u [v4,(.val (.vp s.locs.length 0))] s_1 λv5 s_2=>
 nt v5 λv6=>
 condS v6 (
 some (.ret (sv []),s_2)) (
 gA Qu c1 λv7=>
 ca Q06 [v7,(iv 0)] s_2 λv8 s_3=>
 ca Q1o [v8] s_3 λv9 s_4=>
 some (.ret v9,s_4)):=(Q5 _ _ _).trans (by kernel_rfl)
theorem Qgt(a0:AV)(a1:AV)(s:St):cw (.f Q5A) [a0,a1] s =
 ca ZL [(.val a0),(.val a1),(iv 0)] s λv7 s_1=>
 bn Q2 .geq v7 (iv 0) λv8=>
 some (.ret v8,s_1):=(Q5 _ _ _).trans (by kernel_rfl)
noncomputable def Q1f:Slot→Slot→Slot→Slot→St→Res:=λx3 x10 x11 x12 s=>lpD Q3b [.seqR,.seqR,.seqR,.seqL,.seqR,.block] Tryz.f16 [(3,.s x3),(10,.s x10),(11,.s x11),(12,.s x12)] s
theorem Q64:∀ x3 x10 x11 x12 s_2,Q1f x3 x10 x11 x12 s_2 =
 bn Q2 .lss x12 x11 λv13=>
 condS v13 (
 ix QB x10 x12 λv14=>
 ld QB s_2 v14 λv15=>
 bx QB v15 λc=>
 pZ QB c λc5=>
 gA QB c5 λv16=>
 ca Q3c [v16] s_2 λv17 s_3=>
 ca Q1o [v17] s_3 λv18 s_4=>
 ca Z0 [x3,v18] s_4 λv19 s_5=>
 ca Zn [x3,(.val (.int .u8 10))] s_5 λv20 s_6=>
 nx x12 λv21=>
 Q1f x3 x10 x11 v21 s_6) (
 ca ZM [x3] s_2 λv22 s_7=>
 some (.ret v22,s_7)):=by intros;unfold Q1f;exact (Qb _ _ _ _ _ _).trans (by kernel_rfl)
theorem Qcr(a0:AV)(s:St):cw (.f Q3b) [a0] s =
 ca Q6V [(.val a0)] s λv7 s_1=>
 bind1 (fieldS (C.ti Qi) (C.ti QI) 0 v7) λv8=>
 bn QI .neq v8 (iv 0) λv9=>
 condS v9 (
 some (.ret (sv []),s_1)) (
 ln Qw (.val a0) λv11=>
 Q1f (.val (.vp s_1.locs.length 0)) (.val a0) v11 (iv 0) (St.addLocT s_1 (.var (List.map .val (C.ti QL).zero)) QL)):=(Q5 _ _ _).trans (by kernel_rfl)
theorem Qbu(a0:AV)(s:St):cw (.f Q4p) [a0] s =
 ca Q68 [(.val a0)] s λv4 s_1=>
 bind1 (fieldS (C.ti Qi) (C.ti QI) 0 v4) λv5=>
 bn QI .neq v5 (iv 0) λv6=>
 condS v6 (
 some (.ret (sv []),s_1)) (
 ca Q2M [(.val a0),(sv [10])] s_1 λv8 s_2=>
 some (.ret v8,s_2)):=(Q5 _ _ _).trans (by kernel_rfl)
noncomputable def Q1b:Slot→Slot→List Slot→Slot→Slot→St→Res:=λx1 x2 x3 x23 x24 s=>lpD Q1z [.seqR,.seqR,.seqR,.seqL,.seqR,.block] Tryz.f18 [(1,.s x1),(2,.s x2),(3,.var x3),(23,.s x23),(24,.s x24)] s
theorem Q5X:∀ x1 x2 x3 x23 x24 s_1,Q1b x1 x2 x3 x23 x24 s_1 =
 bn Q2 .lss x24 x23 λv25=>
 condS v25 (
 gC Q7 4 x3 λv28=>
 ix Q6 v28 x24 λv30=>
 ld Q6 s_1 v30 λv31=>
 nx x2 λv34=>
 ca Q1z [v31,x1,v34] s_1 λv35 s_2=>
 bn Q2 .lss v35 (iv 0) λv37=>
 condS v37 (
 some (.ret (iv (-1)),s_2)) (
 nx x24 λv38=>
 Q1b v35 x2 x3 x23 v38 s_2)) (
 gC Q8 5 x3 λv40=>
 nx x2 λv43=>
 ca ZY [v40,x1,v43] s_1 λv44 s_3=>
 bn Q2 .lss v44 (iv 0) λv46=>
 condS v46 (
 some (.ret (iv (-1)),s_3)) (
 gC Qw 6 x3 λv48=>
 nx x2 λv51=>
 ca ZL [v48,v44,v51] s_3 λv52 s_4=>
 some (.ret v52,s_4))):=by intros;unfold Q1b;exact (Qb _ _ _ _ _ _).trans (by kernel_rfl)
theorem Qci(a0:AV)(a1:AV)(a2:AV)(s:St):cw (.f Q1z) [a0,a1,a2] s =
 bx Q6 (.val a0) λc3=>
 bn Q2 .sub (.val a1) (iv 1) λv9=>
 gC Q1 2 c3 λv11=>
 ln Q1 v11 λv12=>
 bn Q2 .quo v12 (iv 100) λv13=>
 bn Q2 .sub v9 v13 λv14=>
 bn Q2 .lss v14 (iv 0) λv16=>
 iF v16 λw=>
 iF v16 λw_1=>
 gB w_1 Q2 .gtr (gdV w (.val a2)) (iv 130) λv19=>
 pk v16 (bv true) v19 λv20=>
 condS v20 (
 some (.ret (iv (-1)),s)) (
 gC Q7 4 c3 λv22=>
 ln Q7 v22 λv23=>
 Q1b v14 (.val a2) c3 v23 (iv 0) s):=(Q5 _ _ _).trans (by kernel_rfl)
noncomputable def Q1c:Slot→Slot→List Slot→Slot→Slot→St→Res:=λx1 x2 x3 x23 x24 s=>lpD Q1A [.seqR,.seqR,.seqR,.seqL,.seqR,.block] Tryz.f19 [(1,.s x1),(2,.s x2),(3,.var x3),(23,.s x23),(24,.s x24)] s
theorem Q5Y:∀ x1 x2 x3 x23 x24 s_1,Q1c x1 x2 x3 x23 x24 s_1 =
 bn Q2 .lss x24 x23 λv25=>
 condS v25 (
 gC Qp 4 x3 λv28=>
 ix Qq v28 x24 λv30=>
 ld Qq s_1 v30 λv31=>
 nx x2 λv34=>
 ca Q1A [v31,x1,v34] s_1 λv35 s_2=>
 bn Q2 .lss v35 (iv 0) λv37=>
 condS v37 (
 some (.ret (iv (-1)),s_2)) (
 nx x24 λv38=>
 Q1c v35 x2 x3 x23 v38 s_2)) (
 some (.ret x1,s_1)):=by intros;unfold Q1c;exact (Qb _ _ _ _ _ _).trans (by kernel_rfl)
theorem Qcj(a0:AV)(a1:AV)(a2:AV)(s:St):cw (.f Q1A) [a0,a1,a2] s =
 bx Qq (.val a0) λc3=>
 bn Q2 .sub (.val a1) (iv 1) λv9=>
 gC Q1 2 c3 λv11=>
 ln Q1 v11 λv12=>
 bn Q2 .quo v12 (iv 100) λv13=>
 bn Q2 .sub v9 v13 λv14=>
 bn Q2 .lss v14 (iv 0) λv16=>
 iF v16 λw=>
 iF v16 λw_1=>
 gB w_1 Q2 .gtr (gdV w (.val a2)) (iv 130) λv19=>
 pk v16 (bv true) v19 λv20=>
 condS v20 (
 some (.ret (iv (-1)),s)) (
 gC Qp 4 c3 λv22=>
 ln Qp v22 λv23=>
 Q1c v14 (.val a2) c3 v23 (iv 0) s):=(Q5 _ _ _).trans (by kernel_rfl)
noncomputable def Q21:Slot→Slot→List Slot→Slot→Slot→St→Res:=λx1 x2 x3 x23 x24 s=>lpD Q2k [.seqR,.seqR,.seqR,.seqL,.seqR,.block] Tryz.f20 [(1,.s x1),(2,.s x2),(3,.var x3),(23,.s x23),(24,.s x24)] s
theorem Q6u:∀ x1 x2 x3 x23 x24 s_1,Q21 x1 x2 x3 x23 x24 s_1 =
 bn Q2 .lss x24 x23 λv25=>
 condS v25 (
 gC Ql 3 x3 λv28=>
 ix Qu v28 x24 λv30=>
 ld Qu s_1 v30 λv31=>
 nx x2 λv34=>
 ca Q2k [v31,x1,v34] s_1 λv35 s_2=>
 bn Q2 .lss v35 (iv 0) λv37=>
 condS v37 (
 some (.ret (iv (-1)),s_2)) (
 nx x24 λv38=>
 Q21 v35 x2 x3 x23 v38 s_2)) (
 some (.ret x1,s_1)):=by intros;unfold Q21;exact (Qb _ _ _ _ _ _).trans (by kernel_rfl)
theorem Qds(a0:AV)(a1:AV)(a2:AV)(s:St):cw (.f Q2k) [a0,a1,a2] s =
 bx Qu (.val a0) λc3=>
 bn Q2 .sub (.val a1) (iv 1) λv9=>
 gC Q1 2 c3 λv11=>
 ln Q1 v11 λv12=>
 bn Q2 .quo v12 (iv 100) λv13=>
 bn Q2 .sub v9 v13 λv14=>
 bn Q2 .lss v14 (iv 0) λv16=>
 iF v16 λw=>
 iF v16 λw_1=>
 gB w_1 Q2 .gtr (gdV w (.val a2)) (iv 130) λv19=>
 pk v16 (bv true) v19 λv20=>
 condS v20 (
 some (.ret (iv (-1)),s)) (
 gC Ql 3 c3 λv22=>
 ln Ql v22 λv23=>
 Q21 v14 (.val a2) c3 v23 (iv 0) s):=(Q5 _ _ _).trans (by kernel_rfl)
theorem Qhc(a0:AV)(a1:AV)(a2:AV)(s:St):cw (.f Q38) [a0,a1,a2] s =
 bx Q6 (.val a1) λc4=>
 bx Q6 (.val a2) λc5=>
 gA Q6 c4 λv8=>
 gA Q6 c5 λv9=>
 bs Q6 [v8,v9] λv10=>
 bd Q6 [(0,Q3,(iv 13)),(3,Q2,(.val a0)),(4,Q7,v10)] λv11=>
 bx Q6 v11 λc=>
 pZ Q6 c λc6=>
 gA Q6 c6 λv=>some (.ret v,s):=(Q5 _ _ _).trans (by kernel_rfl)
theorem Qiz(a0:AV)(s:St):cw (.f Q26) [a0] s =
 bd Q6 [(0,Q3,(iv 1)),(3,Q2,(.val a0))] λv4=>
 bx Q6 v4 λc=>
 pZ Q6 c λc2=>
 gA Q6 c2 λv=>some (.ret v,s):=(Q5 _ _ _).trans (by kernel_rfl)
theorem QbC(a0:AV)(s:St):cw (.f Q4u) [a0] s =
 bx Q6 (.val a0) λc1=>
 bindA (avs c1) λl1=>
 ld Q6 s (.val (.cp l1)) λv3=>
 ca Q3p [v3] s λv4 s_1=>
 bind1 (fnS Q3n [(.val (.cp l1))]) λv5=>
 ca Q1F [v4,v5] s_1 λv6 s_2=>
 bx Qi v6 λc=>
 pZ Qi c λc2=>
 gA Qi c2 λv=>some (.ret v,s_2):=(Q5 _ _ _).trans (by kernel_rfl)
noncomputable def Zy:Slot→Slot→Slot→Slot→Slot→St→Res:=λx0 x3 x6 x7 x8 s=>lpD Q1o [.seqR,.seqR,.seqL,.seqR,.block] Tryz.f24 [(0,.s x0),(3,.s x3),(6,.s x6),(7,.s x7),(8,.s x8)] s
theorem Q7G:∀ x0 x3 x6 x7 x8 s_1,Zy x0 x3 x6 x7 x8 s_1 =
 bn Q2 .lss x8 x7 λv9=>
 condS v9 (
 ix Q1 x6 x8 λv11=>
 ld Q1 s_1 v11 λv12=>
 bn Q2 .gtr x8 (iv 0) λv14=>
 iT v14 λw=>
 bind1 (gd w (bslF (C.ti Q1).size [(sv [40]),(sv [126]),(sv [33])])) λv16=>
 iT v14 λw_1=>
 back (noPan (cal cw w_1 (tgtV (.val (.fn Qj [])) [v16]) s_1)) λv17 s_2=>
 iT v14 λw_2=>
 iT v14 λw_3=>
 iT v14 λw_4=>
 gB w_4 Q2 .sub (gdV w_3 x8) (iv 1) λv20=>
 iT v14 λw_5=>
 bind1 (gd w_5 (ixS (C.ti Q1).size (gdV w_2 x0) v20)) λv21=>
 iT v14 λw_6=>
 bind1 (gd w_6 (ldV (C.ti Q1) true s_2 v21)) λv22=>
 iT v14 λw_7=>
 back (noPan (cal cw w_7 (tgtV (.val (.fn QD [])) [v17,v22]) s_2)) λv23 s_3=>
 iT v14 λw_8=>
 gN w_8 v23 λv24=>
 pk v14 v24 (bv false) λv25=>
 iT v25 λw_9=>
 bind1 (gd w_9 (bslF (C.ti Q1).size [(sv [41]),(sv [44]),(sv [59])])) λv27=>
 iT v25 λw_10=>
 back (noPan (cal cw w_10 (tgtV (.val (.fn Qj [])) [v27]) s_3)) λv28 s_4=>
 iT v25 λw_11=>
 iT v25 λw_12=>
 back (noPan (cal cw w_12 (tgtV (.val (.fn QD [])) [v28,(gdV w_11 v12)]) s_4)) λv30 s_5=>
 iT v25 λw_13=>
 gN w_13 v30 λv31=>
 pk v25 v31 (bv false) λv32=>
 condS v32 (
 ca Zn [x3,(.val (.int .u8 32))] s_5 λv33 s_6=>
 ca Z0 [x3,v12] s_6 λv35 s_7=>
 nx x8 λv36=>
 Zy x0 x3 x6 x7 v36 s_7) (
 ca Z0 [x3,v12] s_5 λv35_1 s_8=>
 nx x8 λv36_1=>
 Zy x0 x3 x6 x7 v36_1 s_8)) (
 ca ZM [x3] s_1 λv37 s_9=>
 some (.ret v37,s_9)):=by intros;unfold Zy;exact (Qb _ _ _ _ _ _).trans (by kernel_rfl)
theorem QgG(a0:AV)(s:St):cw (.f Q1o) [a0] s =
 ln Qe (.val a0) λv7=>
 Zy (.val a0) (.val (.vp s.locs.length 0)) (.val a0) v7 (iv 0) (St.addLocT s (.var (List.map .val (C.ti QL).zero)) QL):=(Q5 _ _ _).trans (by kernel_rfl)
noncomputable def Q3C:Slot→Slot→St→Res:=λx1 x4 s=>pwD ZA [.seqR,.seqR,.seqL,.seqR,.block,.seqR,.els,.seqR,.els,.seqR,.els,.seqR,.els,.seqR,.els,.seqR,.els,.seqR,.thn,.seqR,.seqR] Tryz.f25 [(1,.s x1),(4,.s x4)] s
noncomputable def Q3D:Slot→Slot→Slot→Slot→Slot→St→Res:=λx3 x6 x102 x103 x104 s=>lpD ZA [.seqR,.seqR,.seqL,.seqR,.block,.seqR,.els,.seqR,.els,.seqR,.els,.seqR,.els,.seqR,.els,.seqR,.els,.seqR,.els,.seqR,.thn,.seqR,.seqL,.seqR,.block] Tryz.f25 [(3,.s x3),(6,.s x6),(102,.s x102),(103,.s x103),(104,.s x104)] s
theorem Qdx:∀ x1 x4 s_14,Q3C x1 x4 s_14 =
 fa 4 x1 λv90=>
 ld Q7 s_14 v90 λv91=>
 ix Q6 v91 (iv 1) λv92=>
 ld Q6 s_14 v92 λv93=>
 ca Z8 [v93,(iv 9)] s_14 λv94 s_15=>
 bs Qe [x4,v94] λv95=>
 ca Qm [v95] s_15 λv96 s_16=>
 some (.ret v96,s_16):=by intros;unfold Q3C;exact (QX _).trans (by kernel_rfl)
theorem Q8g:∀ x3 x6 x102 x103 x104 s_18,Q3D x3 x6 x102 x103 x104 s_18 =
 bn Q2 .lss x104 x103 λv105=>
 condS v105 (
 ix QB x102 x104 λv106=>
 ld QB s_18 v106 λv107=>
 bx QB v107 λc_1=>
 pZ QB c_1 λc8=>
 gA QB c8 λv109=>
 ca Q3c [v109] s_18 λv110 s_19=>
 bs Qe [x6,v110] λv111=>
 ca Qm [v111] s_19 λv112 s_20=>
 nx x104 λv113=>
 Q3D x3 v112 x102 x103 v113 s_20) (
 bs Q1 [(sv [105,110])] λv115=>
 ca Qj [v115] s_18 λv116 s_21=>
 back (cal cw true (tgtV x3 [(iv 0)]) s_21) λv118 s_22=>
 bs Q1 [(sv [101,110,100])] λv119=>
 ca Qj [v119] s_22 λv120 s_23=>
 bs Qe [x6,v116,v118,v120] λv121=>
 ca Qm [v121] s_23 λv122 s_24=>
 some (.ret v122,s_24)):=by intros;unfold Q3D;exact (Qb _ _ _ _ _ _).trans (by kernel_rfl)
theorem Zx(a0:AV)(s:St):cw (.f ZA) [a0] s =
 bx Q6 (.val a0) λc1=>
 bindA (avs c1) λl1=>
 bind1 (fnS Q0K [(.val (.cp l1))]) λv9=>
 fa 0 (.val (.cp l1)) λv10=>
 ld Q3 s v10 λv11=>
 bn Q3 .eql v11 (iv 1) λv13=>
 condS v13 (
 fa 3 (.val (.cp l1)) λv14=>
 ld Q2 s v14 λv15=>
 ca Q3R [v15] s λv16 s_1=>
 some (.ret v16,s_1)) (
 bn Q3 .eql v11 (iv 2) λv18=>
 condS v18 (
 fa 2 (.val (.cp l1)) λv19=>
 ld Q1 s v19 λv20=>
 bs Q1 [v20] λv21=>
 ca Qj [v21] s λv22 s_2=>
 some (.ret v22,s_2)) (
 bn Q3 .eql v11 (iv 3) λv24=>
 condS v24 (
 fa 4 (.val (.cp l1)) λv25=>
 ld Q7 s v25 λv26=>
 ln Q7 v26 λv27=>
 bn Q2 .gtr v27 (iv 0) λv28=>
 condS v28 (
 fa 2 (.val (.cp l1)) λv29=>
 ld Q1 s v29 λv30=>
 ld Q6 s (.val (.cp l1)) λv31=>
 ca Q2v [v30,v31] s λv32 s_3=>
 some (.ret v32,s_3)) (
 fa 2 (.val (.cp l1)) λv33=>
 ld Q1 s v33 λv34=>
 bs Q1 [v34] λv35=>
 ca Qj [v35] s λv36 s_4=>
 some (.ret v36,s_4))) (
 bn Q3 .eql v11 (iv 4) λv38=>
 condS v38 (
 fa 4 (.val (.cp l1)) λv39=>
 ld Q7 s v39 λv40=>
 ln Q7 v40 λv41=>
 ca QT [(sv [44]),v41,v9] s λv43 s_5=>
 ca Zm [v43] s_5 λv44 s_6=>
 some (.ret v44,s_6)) (
 bn Q3 .eql v11 (iv 10) λv46=>
 condS v46 (
 fa 4 (.val (.cp l1)) λv47=>
 ld Q7 s v47 λv48=>
 ln Q7 v48 λv49=>
 ca QT [(sv [59]),v49,v9] s λv51 s_7=>
 ca Zm [v51] s_7 λv52 s_8=>
 some (.ret v52,s_8)) (
 bn Q3 .eql v11 (iv 5) λv54=>
 condS v54 (
 bs Q1 [(sv [102,110])] λv55=>
 cn Qj [v55] s λv56 s_9=>
 fa 5 (.val (.cp l1)) λv57=>
 bind1 (ldV (C.ti Q8) true s_9 v57) λv58=>
 cn Q2N [v58] s_9 λv59 s_10=>
 bs Qe [v56,v59] λv60=>
 cn Qm [v60] s_10 λv61 s_11=>
 some (.ret v61,s_11)) (
 bn Q3 .eql v11 (iv 6) λv63=>
 condS v63 (
 fa 4 (.val (.cp l1)) λv64=>
 ld Q7 s v64 λv65=>
 ix Q6 v65 (iv 0) λv66=>
 ld Q6 s v66 λv67=>
 ca Z8 [v67,(iv 8)] s λv68 s_12=>
 fa 4 (.val (.cp l1)) λv69=>
 ld Q7 s_12 v69 λv70=>
 ix Q6 v70 (iv 0) λv71=>
 ld Q6 s_12 v71 λv72=>
 bx Q6 v72 λc=>
 pZ Q6 c λc5=>
 gC Q3 0 c5 λv74=>
 bn Q3 .eql v74 (iv 3) λv75=>
 iT v75 λw=>
 iT v75 λw_1=>
 gG w_1 w Q7 4 c5 λv78=>
 iT v75 λw_2=>
 gL w_2 Q7 v78 λv79=>
 iT v75 λw_3=>
 gB w_3 Q2 .eql v79 (iv 0) λv80=>
 pk v75 v80 (bv false) λv81=>
 iT v81 λw_4=>
 iT v81 λw_5=>
 gG w_5 w_4 Q1 2 c5 λv84=>
 iT v81 λw_6=>
 gB w_6 Q1 .neq v84 (sv [40,41]) λv85=>
 pk v81 v85 (bv false) λv86=>
 condS v86 (
 ca Zm [v68] s_12 λv88 s_13=>
 Q3C (.val (.cp l1)) v88 s_13) (
 Q3C (.val (.cp l1)) v68 s_12)) (
 bn Q3 .eql v11 (iv 7) λv98=>
 condS v98 (
 bs Q1 [(sv [108,101,116])] λv99=>
 ca Qj [v99] s λv100 s_17=>
 fa 6 (.val (.cp l1)) λv101=>
 ld Qw s_17 v101 λv102=>
 ln Qw v102 λv103=>
 Q3D v9 v100 v102 v103 (iv 0) s_17) (
 bn Q3 .eql v11 (iv 8) λv124=>
 condS v124 (
 bs Q1 [(sv [105,102])] λv125=>
 ca Qj [v125] s λv126 s_25=>
 back (cal cw true (tgtV v9 [(iv 0)]) s_25) λv128 s_26=>
 bs Q1 [(sv [116,104,101,110])] λv129=>
 ca Qj [v129] s_26 λv130 s_27=>
 back (cal cw true (tgtV v9 [(iv 1)]) s_27) λv132 s_28=>
 bs Q1 [(sv [101,108,115,101])] λv133=>
 ca Qj [v133] s_28 λv134 s_29=>
 back (cal cw true (tgtV v9 [(iv 2)]) s_29) λv136 s_30=>
 bs Qe [v126,v128,v130,v132,v134,v136] λv137=>
 ca Qm [v137] s_30 λv138 s_31=>
 some (.ret v138,s_31)) (
 bn Q3 .eql v11 (iv 9) λv140=>
 condS v140 (
 bs Q1 [(sv [99,97,115,101])] λv141=>
 cn Qj [v141] s λv142 s_32=>
 back (noPan (cal cw true (tgtV v9 [(iv 0)]) s_32)) λv144 s_33=>
 bs Q1 [(sv [111,102])] λv145=>
 cn Qj [v145] s_33 λv146 s_34=>
 fa 5 (.val (.cp l1)) λv147=>
 bind1 (ldV (C.ti Q8) true s_34 v147) λv148=>
 cn Q2N [v148] s_34 λv149 s_35=>
 bs Qe [v142,v144,v146,v149] λv150=>
 cn Qm [v150] s_35 λv151 s_36=>
 some (.ret v151,s_36)) (
 bn Q3 .eql v11 (iv 12) λv153=>
 condS v153 (
 bs Q1 [(sv [114,97,105,115,101])] λv154=>
 ca Qj [v154] s λv155 s_37=>
 back (cal cw true (tgtV v9 [(iv 0)]) s_37) λv157 s_38=>
 bs Qe [v155,v157] λv158=>
 ca Qm [v158] s_38 λv159 s_39=>
 some (.ret v159,s_39)) (
 ld Q6 s (.val (.cp l1)) λv160=>
 ca Q3x [v160] s λv161 s_40=>
 some (.ret v161,s_40)))))))))))):=(Q5 _ _ _).trans (by kernel_rfl)
theorem QE(a0:AV)(s:St):cw (.f Zl) [a0] s =
 bx Q6 (.val a0) λc1=>
 gC Q3 0 c1 λv4=>
 bn Q3 .eql v4 (iv 1) λv6=>
 condS v6 (
 gC Q2 3 c1 λv8=>
 ca Q39 [v8] s λv9 s_1=>
 some (.ret v9,s_1)) (
 bn Q3 .eql v4 (iv 2) λv11=>
 condS v11 (
 gC Q1 2 c1 λv13=>
 some (.ret v13,s)) (
 bn Q3 .eql v4 (iv 3) λv15=>
 condS v15 (
 gC Q7 4 c1 λv17=>
 ln Q7 v17 λv18=>
 bn Q2 .eql v18 (iv 0) λv19=>
 condS v19 (
 gC Q1 2 c1 λv21=>
 some (.ret v21,s)) (
 gC Q1 2 c1 λv23=>
 bn Q1 .add v23 (sv [32]) λv24=>
 gC Q7 4 c1 λv26=>
 ix Q6 v26 (iv 0) λv27=>
 ld Q6 s v27 λv28=>
 cn Qv [v28,(iv 9)] s λv29 s_2=>
 bn Q1 .add v24 v29 λv30=>
 some (.ret v30,s_2))) (
 bn Q3 .eql v4 (iv 4) λv32=>
 condS v32 (
 gC Q7 4 c1 λv34=>
 ca Q1B [v34,(sv [44,32])] s λv35 s_3=>
 some (.ret v35,s_3)) (
 bn Q3 .eql v4 (iv 10) λv37=>
 condS v37 (
 gC Q7 4 c1 λv39=>
 ca Q1B [v39,(sv [59,32])] s λv40 s_4=>
 some (.ret v40,s_4)) (
 bn Q3 .eql v4 (iv 5) λv42=>
 condS v42 (
 gC Q8 5 c1 λv44=>
 ca Q0o [v44] s λv45 s_5=>
 bn Q1 .add (sv [102,110,32]) v45 λv46=>
 some (.ret v46,s_5)) (
 bn Q3 .eql v4 (iv 7) λv48=>
 condS v48 (
 gC Qw 6 c1 λv50=>
 cn Q2M [v50,(sv [32])] s λv51 s_6=>
 bn Q1 .add (sv [108,101,116,32]) v51 λv52=>
 bn Q1 .add v52 (sv [105,110,32]) λv53=>
 gC Q7 4 c1 λv55=>
 ix Q6 v55 (iv 0) λv56=>
 bind1 (ldV (C.ti Q6) true s_6 v56) λv57=>
 cn Qv [v57,(iv 0)] s_6 λv58 s_7=>
 bn Q1 .add v53 v58 λv59=>
 bn Q1 .add v59 (sv [32,101,110,100]) λv60=>
 some (.ret v60,s_7)) (
 bn Q3 .eql v4 (iv 8) λv62=>
 condS v62 (
 gC Q7 4 c1 λv64=>
 ix Q6 v64 (iv 0) λv65=>
 bind1 (ldV (C.ti Q6) true s v65) λv66=>
 cn Qv [v66,(iv 0)] s λv67 s_8=>
 bn Q1 .add (sv [105,102,32]) v67 λv68=>
 bn Q1 .add v68 (sv [32,116,104,101,110,32]) λv69=>
 gC Q7 4 c1 λv71=>
 ix Q6 v71 (iv 1) λv72=>
 bind1 (ldV (C.ti Q6) true s_8 v72) λv73=>
 cn Qv [v73,(iv 0)] s_8 λv74 s_9=>
 bn Q1 .add v69 v74 λv75=>
 bn Q1 .add v75 (sv [32,101,108,115,101,32]) λv76=>
 gC Q7 4 c1 λv78=>
 ix Q6 v78 (iv 2) λv79=>
 bind1 (ldV (C.ti Q6) true s_9 v79) λv80=>
 cn Qv [v80,(iv 0)] s_9 λv81 s_10=>
 bn Q1 .add v76 v81 λv82=>
 some (.ret v82,s_10)) (
 bn Q3 .eql v4 (iv 9) λv84=>
 condS v84 (
 gC Q7 4 c1 λv86=>
 ix Q6 v86 (iv 0) λv87=>
 ld Q6 s v87 λv88=>
 cn Qv [v88,(iv 0)] s λv89 s_11=>
 bn Q1 .add (sv [99,97,115,101,32]) v89 λv90=>
 bn Q1 .add v90 (sv [32,111,102,32]) λv91=>
 gC Q8 5 c1 λv93=>
 cn Q0o [v93] s_11 λv94 s_12=>
 bn Q1 .add v91 v94 λv95=>
 some (.ret v95,s_12)) (
 bn Q3 .eql v4 (iv 11) λv97=>
 condS v97 (
 gC Q7 4 c1 λv99=>
 ix Q6 v99 (iv 0) λv100=>
 ld Q6 s v100 λv101=>
 cn Qv [v101,(iv 3)] s λv102 s_13=>
 bn Q1 .add v102 (sv [32,104,97,110,100,108,101,32]) λv103=>
 gC Q8 5 c1 λv105=>
 cn Q0o [v105] s_13 λv106 s_14=>
 bn Q1 .add v103 v106 λv107=>
 some (.ret v107,s_14)) (
 bn Q3 .eql v4 (iv 12) λv109=>
 condS v109 (
 gC Q7 4 c1 λv111=>
 ix Q6 v111 (iv 0) λv112=>
 ld Q6 s v112 λv113=>
 ca Qv [v113,(iv 0)] s λv114 s_15=>
 bn Q1 .add (sv [114,97,105,115,101,32]) v114 λv115=>
 some (.ret v115,s_15)) (
 bn Q3 .eql v4 (iv 16) λv117=>
 condS v117 (
 gC Q7 4 c1 λv119=>
 ix Q6 v119 (iv 0) λv120=>
 ld Q6 s v120 λv121=>
 ca Qv [v121,(iv 9)] s λv122 s_16=>
 bn Q1 .add (sv [114,101,102,32]) v122 λv123=>
 some (.ret v123,s_16)) (
 bn Q3 .eql v4 (iv 17) λv125=>
 condS v125 (
 gC Q7 4 c1 λv127=>
 ix Q6 v127 (iv 0) λv128=>
 ld Q6 s v128 λv129=>
 ca Qv [v129,(iv 9)] s λv130 s_17=>
 bn Q1 .add (sv [33]) v130 λv131=>
 some (.ret v131,s_17)) (
 bn Q3 .eql v4 (iv 19) λv133=>
 condS v133 (
 gC Q7 4 c1 λv135=>
 ix Q6 v135 (iv 0) λv136=>
 ld Q6 s v136 λv137=>
 ca Qv [v137,(iv 9)] s λv138 s_18=>
 bn Q1 .add (sv [112,114,105,110,116,32]) v138 λv139=>
 some (.ret v139,s_18)) (
 bn Q3 .eql v4 (iv 20) λv141=>
 condS v141 (
 some (.ret (sv [114,101,97,100,32,40,41]),s)) (
 gA Q6 c1 λv142=>
 ca Q7Q [v142] s λv143 s_19=>
 some (.ret v143,s_19)))))))))))))))):=(Q5 _ _ _).trans (by kernel_rfl)
theorem QbD(a0:AV)(s:St):cw (.f Q4v) [a0] s =
 bx Qq (.val a0) λc1=>
 bindA (avs c1) λl1=>
 ld Qq s (.val (.cp l1)) λv3=>
 ca Q5k [v3] s λv4 s_1=>
 bind1 (fnS Q3o [(.val (.cp l1))]) λv5=>
 ca Q1F [v4,v5] s_1 λv6 s_2=>
 bx Qi v6 λc=>
 pZ Qi c λc2=>
 gA Qi c2 λv=>some (.ret v,s_2):=(Q5 _ _ _).trans (by kernel_rfl)
theorem Qhq(a0:AV)(s:St):cw (.f Q29) [a0] s =
 bx Qq (.val a0) λc1=>
 gA Qq c1 λv3=>
 ca Q1D [v3,(iv 0)] s λv4 s_1=>
 some (.ret v4,s_1):=(Q5 _ _ _).trans (by kernel_rfl)
noncomputable def Q2g:List Slot→Slot→Slot→Slot→Slot→St→Res:=λx1_1 x3_1 x4 x29_1 x30_1 s=>pwD Q14 [.seqR,.seqR,.seqL,.seqR,.block,.seqR,.els,.seqR,.els,.seqR,.els,.seqR,.thn,.seqL,.seqR,.block,.loop,.seqR,.seqR,.seqL,.block,.seqR,.seqR] Tryz.f31 [(1,.var x1_1),(3,.s x3_1),(4,.s x4),(29,.s x29_1),(30,.s x30_1)] s
noncomputable def Q0T:List Slot→Slot→Slot→Slot→St→Res:=λx1 x3 x29 x30 s=>lpD Q14 [.seqR,.seqR,.seqL,.seqR,.block,.seqR,.els,.seqR,.els,.seqR,.els,.seqR,.thn,.seqL,.seqR,.block] Tryz.f31 [(1,.var x1),(3,.s x3),(29,.s x29),(30,.s x30)] s
theorem Q58:∀ x1_1 x3_1 x4 x29_1 x30_1 s_4,Q2g x1_1 x3_1 x4 x29_1 x30_1 s_4 =
 gC Qp 4 x1_1 λv39=>
 ix Qq v39 x4 λv41=>
 ld Qq s_4 v41 λv42=>
 ca Q0y [v42,(iv 0)] s_4 λv43 s_5=>
 bn Q1 .add x3_1 v43 λv44=>
 nx x30_1 λv45=>
 Q0T x1_1 v44 x29_1 v45 s_5:=by intros;unfold Q2g;exact (QX _).trans (by kernel_rfl)
theorem Q59:∀ x1 x3 x29 x30 s_3,Q0T x1 x3 x29 x30 s_3 =
 bn Q2 .lss x30 x29 λv31=>
 condS v31 (
 bn Q2 .gtr x30 (iv 0) λv34=>
 condS v34 (
 bn Q1 .add x3 (sv [44,32]) λv36=>
 Q2g x1 v36 x30 x29 x30 s_3) (
 Q2g x1 x3 x30 x29 x30 s_3)) (
 bn Q1 .add (sv [40]) x3 λv47=>
 bn Q1 .add v47 (sv [41]) λv48=>
 some (.ret v48,s_3)):=by intros;unfold Q0T;exact (Qb _ _ _ _ _ _).trans (by kernel_rfl)
theorem Qbw(a0:AV)(s:St):cw (.f Q14) [a0] s =
 bx Qq (.val a0) λc1=>
 gC Qd 0 c1 λv6=>
 bn Qd .eql v6 (iv 1) λv8=>
 condS v8 (
 some (.ret (sv [95]),s)) (
 bn Qd .eql v6 (iv 3) λv10=>
 condS v10 (
 gC Q2 3 c1 λv12=>
 ca Q39 [v12] s λv13 s_1=>
 some (.ret v13,s_1)) (
 bn Qd .eql v6 (iv 6) λv15=>
 condS v15 (
 gC Q1 2 c1 λv17=>
 bn Q1 .add v17 (sv [32,97,115,32]) λv18=>
 gC Qp 4 c1 λv20=>
 ix Qq v20 (iv 0) λv21=>
 ld Qq s v21 λv22=>
 cn Q0y [v22,(iv 0)] s λv23 s_2=>
 bn Q1 .add v18 v23 λv24=>
 some (.ret v24,s_2)) (
 bn Qd .eql v6 (iv 5) λv26=>
 condS v26 (
 gC Qp 4 c1 λv28=>
 ln Qp v28 λv29=>
 Q0T c1 (sv []) v29 (iv 0) s) (
 gC Qp 4 c1 λv50=>
 ln Qp v50 λv51=>
 bn Q2 .gtr v51 (iv 0) λv52=>
 condS v52 (
 gC Q1 2 c1 λv54=>
 bn Q1 .add v54 (sv [32]) λv55=>
 gC Qp 4 c1 λv57=>
 ix Qq v57 (iv 0) λv58=>
 ld Qq s v58 λv59=>
 cn Q0y [v59,(iv 2)] s λv60 s_6=>
 bn Q1 .add v55 v60 λv61=>
 some (.ret v61,s_6)) (
 gC Q1 2 c1 λv63=>
 some (.ret v63,s)))))):=(Q5 _ _ _).trans (by kernel_rfl)
noncomputable def Q0e:List Slot→Slot→Slot→St→Res:=λx2_1 x3_1 x6 s=>pwD Q2u [.seqR,.seqR,.seqR,.seqR,.seqR,.seqR] Tryz.f32 [(2,.var x2_1),(3,.s x3_1),(6,.s x6)] s
noncomputable def Q23:List Slot→Slot→Slot→Slot→Slot→St→Res:=λx2 x3 x5 x52 x87 s=>pwD Q2u [.seqR,.seqR,.seqR,.seqR,.seqR,.seqL,.seqR,.block,.seqR] Tryz.f32 [(2,.var x2),(3,.s x3),(5,.s x5),(52,.s x52),(87,.s x87)] s
theorem Qcw:∀ x2_1 x3_1 x6 s_3,Q0e x2_1 x3_1 x6 s_3 =
 iT x6 λw_11=>
 iT x6 λw_12=>
 gG w_12 w_11 Ql 3 x2_1 λv113=>
 iT x6 λw_13=>
 bind1 (gd w_13 (fnS Q0Y [x3_1])) λv114=>
 iT x6 λw_14=>
 cg w_14 ZZ [v113,v114] s_3 λv115 s_4=>
 iT x6 λw_15=>
 gN w_15 v115 λv116=>
 pk x6 v116 (bv false) λv117=>
 some (.ret v117,s_4):=by intros;unfold Q0e;exact (QX _).trans (by kernel_rfl)
theorem Q7H:∀ x2 x3 x5 x52 x87 s_2,Q23 x2 x3 x5 x52 x87 s_2 =
 condS x87 (
 bn Q2 .eql x5 (iv 0) λv93=>
 Q0e x2 x3 v93 s_2) (
 bn Q1 .eql x52 (sv [114,101,102]) λv95=>
 condS v95 (
 bn Q2 .eql x5 (iv 1) λv97=>
 Q0e x2 x3 v97 s_2) (
 bn Q1 .eql x52 (sv [45,62]) λv99=>
 condS v99 (
 bn Q2 .eql x5 (iv 2) λv101=>
 Q0e x2 x3 v101 s_2) (
 bn Q1 .eql x52 (sv [42]) λv103=>
 condS v103 (
 bn Q2 .geq x5 (iv 2) λv105=>
 iT v105 λw_16=>
 iT v105 λw_17=>
 gB w_17 Q2 .leq (gdV w_16 x5) (iv 8) λv108=>
 pk v105 v108 (bv false) λv109=>
 Q0e x2 x3 v109 s_2) (
 gC Q1 2 x2 λv55=>
 ca Qi7 [v55] s_2 λv56 s_5=>
 ex v56 0 λv57=>
 ex v56 1 λv58=>
 bx Qi v58 λc_1=>
 pZ Qi c_1 λc8=>
 gC QI 0 c8 λv60=>
 bn QI .eql v60 (iv 0) λv61=>
 iT v61 λw_18=>
 iT v61 λw_19=>
 gL w_19 Q6M (gdV w_18 v57) λv64=>
 iT v61 λw_20=>
 gB w_20 Q2 .eql v64 (iv 1) λv65=>
 pk v61 v65 (bv false) λv66=>
 iT v66 λw_21=>
 iT v66 λw_22=>
 bind1 (gd w_22 (ixS (C.ti Q8u).size (gdV w_21 v57) (iv 0))) λv69=>
 iT v66 λw_23=>
 bind1 (gd w_23 (faV 0 v69)) λv70=>
 iT v66 λw_24=>
 bind1 (gd w_24 (ldV (C.ti Q2S) false s_5 v70)) λv71=>
 iT v66 λw_25=>
 gB w_25 Q2S .eql v71 (iv 2) λv72=>
 pk v66 v72 (bv false) λv73=>
 iT v73 λw_26=>
 iT v73 λw_27=>
 bind1 (gd w_27 (ixS (C.ti Q8u).size (gdV w_26 v57) (iv 0))) λv76=>
 iT v73 λw_28=>
 bind1 (gd w_28 (faV 2 v76)) λv77=>
 iT v73 λw_29=>
 bind1 (gd w_29 (ldV (C.ti Q1) false s_5 v77)) λv78=>
 iT v73 λw_30=>
 iT v73 λw_31=>
 gG w_31 w_30 Q1 2 x2 λv80=>
 iT v73 λw_32=>
 gB w_32 Q1 .eql v78 v80 λv81=>
 pk v73 v81 (bv false) λv82=>
 iT v82 λw_33=>
 iT v82 λw_34=>
 gB w_34 Q2 .leq (gdV w_33 x5) (iv 8) λv85=>
 pk v82 v85 (bv false) λv86=>
 Q0e x2 x3 v86 s_5)))):=by intros;unfold Q23;exact (QX _).trans (by kernel_rfl)
theorem Q7j(a0:AV)(a1:AV)(s:St):cw (.f Q2u) [a0,a1] s =
 bx Qu (.val a0) λc2=>
 bx Q3e (.val a1) λc3=>
 bindA (avs c3) λl3=>
 ld Q3e s (.val (.cp l3)) λv9=>
 bind1 (nilCheckV v9) λv10=>
 ld Q2 s v10 λv11=>
 bn Q2 .sub v11 (iv 1) λv12=>
 bind1 (nilCheckV v9) λv13=>
 bx Q2 v12 λc=>
 sto s v13 c λs_1=>
 ld Q3e s_1 (.val (.cp l3)) λv14=>
 bind1 (nilCheckV v14) λv15=>
 ld Q2 s_1 v15 λv16=>
 bn Q2 .lss v16 (iv 0) λv17=>
 condS v17 (
 some (.ret (bv false),s_1)) (
 gC Ql 3 c2 λv19=>
 ln Ql v19 λv20=>
 gC Qs 0 c2 λv23=>
 bn Qs .eql v23 (iv 1) λv24=>
 condS v24 (
 gC Q2 1 c2 λv26=>
 bn Q2 .geq v26 (iv 0) λv27=>
 iT v27 λw=>
 iT v27 λw_1=>
 gG w_1 w Q2 1 c2 λv30=>
 iT v27 λw_2=>
 gB w_2 Q2 .leq v30 (iv 1000) λv31=>
 pk v27 v31 (bv false) λv32=>
 iT v32 λw_3=>
 iT v32 λw_4=>
 gG w_4 w_3 Q1 2 c2 λv35=>
 iT v32 λw_5=>
 gB w_5 Q1 .eql v35 (sv []) λv36=>
 pk v32 v36 (bv false) λv37=>
 iT v37 λw_6=>
 iT v37 λw_7=>
 gB w_7 Q2 .eql (gdV w_6 v20) (iv 0) λv40=>
 pk v37 v40 (bv false) λv41=>
 some (.ret v41,s_1)) (
 gC Qs 0 c2 λv44=>
 bn Qs .neq v44 (iv 2) λv45=>
 iF v45 λw_8=>
 iF v45 λw_9=>
 gG w_9 w_8 Q2 1 c2 λv48=>
 iF v45 λw_10=>
 gB w_10 Q2 .neq v48 (iv 0) λv49=>
 pk v45 (bv true) v49 λv50=>
 condS v50 (
 some (.ret (bv false),s_1)) (
 gC Q1 2 c2 λv52=>
 bn Q1 .eql v52 (sv [105,110,116]) λv88=>
 condS v88 (
 Q23 c2 (.val (.cp l3)) v20 v52 v88 s_1) (
 bn Q1 .eql v52 (sv [98,111,111,108]) λv89=>
 condS v89 (
 Q23 c2 (.val (.cp l3)) v20 v52 v89 s_1) (
 bn Q1 .eql v52 (sv [117,110,105,116]) λv90=>
 condS v90 (
 Q23 c2 (.val (.cp l3)) v20 v52 v90 s_1) (
 bn Q1 .eql v52 (sv [101,120,110]) λv91=>
 Q23 c2 (.val (.cp l3)) v20 v52 v91 s_1)))))):=(Q5 _ _ _).trans (by kernel_rfl)
noncomputable def Q3F:Slot→Slot→Slot→St→Res:=λx1 x5 x6 s=>pwD Q06 [.seqR,.seqR,.seqR,.seqR] Tryz.f33 [(1,.s x1),(5,.s x5),(6,.s x6)] s
theorem Qdz:∀ x1 x5 x6 s_7,Q3F x1 x5 x6 s_7 =
 bn Q2 .lss x5 x1 λv82=>
 condS v82 (
 ca Zm [x6] s_7 λv84 s_8=>
 some (.ret v84,s_8)) (
 some (.ret x6,s_7)):=by intros;unfold Q3F;exact (QX _).trans (by kernel_rfl)
theorem Qhr(a0:AV)(a1:AV)(s:St):cw (.f Q06) [a0,a1] s =
 bx Qu (.val a0) λc2=>
 bindA (avs c2) λl2=>
 fa 0 (.val (.cp l2)) λv20=>
 ld Qs s v20 λv21=>
 bn Qs .eql v21 (iv 1) λv22=>
 condS v22 (
 fa 1 (.val (.cp l2)) λv23=>
 ld Q2 s v23 λv24=>
 ca Q2H [v24] s λv25 s_1=>
 bs Q1 [v25] λv26=>
 ca Qj [v26] s_1 λv27 s_2=>
 some (.ret v27,s_2)) (
 fa 2 (.val (.cp l2)) λv29=>
 ld Q1 s v29 λv30=>
 bn Q1 .eql v30 (sv [45,62]) λv31=>
 condS v31 (
 fa 3 (.val (.cp l2)) λv32=>
 bind1 (ldV (C.ti Ql) true s v32) λv33=>
 ix Qu v33 (iv 0) λv34=>
 bind1 (ldV (C.ti Qu) true s v34) λv35=>
 cn Q06 [v35,(iv 1)] s λv36 s_3=>
 bs Q1 [(sv [45,62])] λv37=>
 cn Qj [v37] s_3 λv38 s_4=>
 fa 3 (.val (.cp l2)) λv39=>
 bind1 (ldV (C.ti Ql) true s_4 v39) λv40=>
 ix Qu v40 (iv 1) λv41=>
 bind1 (ldV (C.ti Qu) true s_4 v41) λv42=>
 cn Q06 [v42,(iv 0)] s_4 λv43 s_5=>
 bs Qe [v36,v38,v43] λv44=>
 cn Qm [v44] s_5 λv45 s_6=>
 Q3F (.val a1) (iv 0) v45 s_6) (
 fa 2 (.val (.cp l2)) λv47=>
 ld Q1 s v47 λv48=>
 bn Q1 .eql v48 (sv [42]) λv49=>
 condS v49 (
 fa 3 (.val (.cp l2)) λv50=>
 ld Ql s v50 λv51=>
 ln Ql v51 λv52=>
 bind1 (fnS Q2P [(.val (.cp l2))]) λv53=>
 ca QT [(sv [42]),v52,v53] s λv54 s_9=>
 Q3F (.val a1) (iv 1) v54 s_9) (
 fa 3 (.val (.cp l2)) λv56=>
 ld Ql s v56 λv57=>
 ln Ql v57 λv58=>
 bn Q2 .eql v58 (iv 0) λv59=>
 condS v59 (
 fa 2 (.val (.cp l2)) λv60=>
 ld Q1 s v60 λv61=>
 bs Q1 [v61] λv62=>
 ca Qj [v62] s λv63 s_10=>
 some (.ret v63,s_10)) (
 fa 3 (.val (.cp l2)) λv65=>
 ld Ql s v65 λv66=>
 ln Ql v66 λv67=>
 bn Q2 .eql v67 (iv 1) λv68=>
 condS v68 (
 fa 3 (.val (.cp l2)) λv69=>
 bind1 (ldV (C.ti Ql) true s v69) λv70=>
 ix Qu v70 (iv 0) λv71=>
 bind1 (ldV (C.ti Qu) true s v71) λv72=>
 cn Q06 [v72,(iv 2)] s λv73 s_11=>
 fa 2 (.val (.cp l2)) λv74=>
 bind1 (ldV (C.ti Q1) true s_11 v74) λv75=>
 bs Q1 [v75] λv76=>
 cn Qj [v76] s_11 λv77 s_12=>
 bs Qe [v73,v77] λv78=>
 cn Qm [v78] s_12 λv79 s_13=>
 some (.ret v79,s_13)) (
 fa 3 (.val (.cp l2)) λv7=>
 bind1 (ldV (C.ti Ql) true s v7) λv8=>
 ln Ql v8 λv9=>
 bind1 (fnS Q2Q [(.val (.cp l2))]) λv10=>
 cn QT [(sv [44]),v9,v10] s λv11 s_14=>
 cn Zm [v11] s_14 λv12 s_15=>
 fa 2 (.val (.cp l2)) λv13=>
 bind1 (ldV (C.ti Q1) true s_15 v13) λv14=>
 bs Q1 [v14] λv15=>
 cn Qj [v15] s_15 λv16 s_16=>
 bs Qe [v12,v16] λv17=>
 cn Qm [v17] s_16 λv18 s_17=>
 some (.ret v18,s_17)))))):=(Q5 _ _ _).trans (by kernel_rfl)
noncomputable def Q2J:List Slot→Slot→Slot→Slot→Slot→St→Res:=λx1_1 x3_1 x4 x33_1 x34_1 s=>pwD ZE [.seqR,.seqR,.seqR,.seqR,.seqL,.seqR,.thn,.seqL,.seqR,.block,.loop,.seqR,.seqR,.seqL,.block,.seqR,.seqR] Tryz.f35 [(1,.var x1_1),(3,.s x3_1),(4,.s x4),(33,.s x33_1),(34,.s x34_1)] s
noncomputable def Q1d:List Slot→Slot→Slot→Slot→St→Res:=λx1 x3 x33 x34 s=>lpD ZE [.seqR,.seqR,.seqR,.seqR,.seqL,.seqR,.thn,.seqL,.seqR,.block] Tryz.f35 [(1,.var x1),(3,.s x3),(33,.s x33),(34,.s x34)] s
noncomputable def Q2K:List Slot→Slot→Slot→Slot→Slot→St→Res:=λx1_3 x3_3 x5 x72_1 x73_1 s=>pwD ZE [.seqR,.seqR,.seqR,.seqR,.seqR,.seqR,.seqR,.seqL,.seqR,.block,.loop,.seqR,.seqR,.seqL,.block,.seqR,.seqR] Tryz.f35 [(1,.var x1_3),(3,.s x3_3),(5,.s x5),(72,.s x72_1),(73,.s x73_1)] s
noncomputable def Q1e:List Slot→Slot→Slot→Slot→St→Res:=λx1_2 x3_2 x72 x73 s=>lpD ZE [.seqR,.seqR,.seqR,.seqR,.seqR,.seqR,.seqR,.seqL,.seqR,.block] Tryz.f35 [(1,.var x1_2),(3,.s x3_2),(72,.s x72),(73,.s x73)] s
theorem Q60:∀ x1_1 x3_1 x4 x33_1 x34_1 s_5,Q2J x1_1 x3_1 x4 x33_1 x34_1 s_5 =
 gC Ql 3 x1_1 λv43=>
 ix Qu v43 x4 λv45=>
 ld Qu s_5 v45 λv46=>
 ca Q28 [v46,(iv 2)] s_5 λv47 s_6=>
 bn Q1 .add x3_1 v47 λv48=>
 nx x34_1 λv49=>
 Q1d x1_1 v48 x33_1 v49 s_6:=by intros;unfold Q2J;exact (QX _).trans (by kernel_rfl)
theorem Q62:∀ x1 x3 x33 x34 s_4,Q1d x1 x3 x33 x34 s_4 =
 bn Q2 .lss x34 x33 λv35=>
 condS v35 (
 bn Q2 .gtr x34 (iv 0) λv38=>
 condS v38 (
 bn Q1 .add x3 (sv [32,42,32]) λv40=>
 Q2J x1 v40 x34 x33 x34 s_4) (
 Q2J x1 x3 x34 x33 x34 s_4)) (
 some (.ret x3,s_4)):=by intros;unfold Q1d;exact (Qb _ _ _ _ _ _).trans (by kernel_rfl)
theorem Q61:∀ x1_3 x3_3 x5 x72_1 x73_1 s_9,Q2K x1_3 x3_3 x5 x72_1 x73_1 s_9 =
 gC Ql 3 x1_3 λv82=>
 ix Qu v82 x5 λv84=>
 ld Qu s_9 v84 λv85=>
 ca Q28 [v85,(iv 0)] s_9 λv86 s_10=>
 bn Q1 .add x3_3 v86 λv87=>
 nx x73_1 λv88=>
 Q1e x1_3 v87 x72_1 v88 s_10:=by intros;unfold Q2K;exact (QX _).trans (by kernel_rfl)
theorem Q63:∀ x1_2 x3_2 x72 x73 s_8,Q1e x1_2 x3_2 x72 x73 s_8 =
 bn Q2 .lss x73 x72 λv74=>
 condS v74 (
 bn Q2 .gtr x73 (iv 0) λv77=>
 condS v77 (
 bn Q1 .add x3_2 (sv [44,32]) λv79=>
 Q2K x1_2 v79 x73 x72 x73 s_8) (
 Q2K x1_2 x3_2 x73 x72 x73 s_8)) (
 bn Q1 .add (sv [40]) x3_2 λv90=>
 bn Q1 .add v90 (sv [41,32]) λv91=>
 gC Q1 2 x1_2 λv93=>
 bn Q1 .add v91 v93 λv94=>
 some (.ret v94,s_8)):=by intros;unfold Q1e;exact (Qb _ _ _ _ _ _).trans (by kernel_rfl)
theorem Qcm(a0:AV)(s:St):cw (.f ZE) [a0] s =
 bx Qu (.val a0) λc1=>
 gC Qs 0 c1 λv7=>
 bn Qs .eql v7 (iv 1) λv8=>
 condS v8 (
 gC Q2 1 c1 λv10=>
 ca Q3v [v10] s λv11 s_1=>
 bn Q1 .add (sv [39]) v11 λv12=>
 some (.ret v12,s_1)) (
 gC Q1 2 c1 λv14=>
 bn Q1 .eql v14 (sv [45,62]) λv15=>
 condS v15 (
 gC Ql 3 c1 λv17=>
 ix Qu v17 (iv 0) λv18=>
 bind1 (ldV (C.ti Qu) true s v18) λv19=>
 cn Q28 [v19,(iv 1)] s λv20 s_2=>
 bn Q1 .add v20 (sv [32,45,62,32]) λv21=>
 gC Ql 3 c1 λv23=>
 ix Qu v23 (iv 1) λv24=>
 bind1 (ldV (C.ti Qu) true s_2 v24) λv25=>
 cn Q28 [v25,(iv 0)] s_2 λv26 s_3=>
 bn Q1 .add v21 v26 λv27=>
 some (.ret v27,s_3)) (
 gC Q1 2 c1 λv29=>
 bn Q1 .eql v29 (sv [42]) λv30=>
 condS v30 (
 gC Ql 3 c1 λv32=>
 ln Ql v32 λv33=>
 Q1d c1 (sv []) v33 (iv 0) s) (
 gC Ql 3 c1 λv52=>
 ln Ql v52 λv53=>
 bn Q2 .eql v53 (iv 0) λv54=>
 condS v54 (
 gC Q1 2 c1 λv56=>
 some (.ret v56,s)) (
 gC Ql 3 c1 λv58=>
 ln Ql v58 λv59=>
 bn Q2 .eql v59 (iv 1) λv60=>
 condS v60 (
 gC Ql 3 c1 λv62=>
 ix Qu v62 (iv 0) λv63=>
 ld Qu s v63 λv64=>
 cn Q28 [v64,(iv 2)] s λv65 s_7=>
 bn Q1 .add v65 (sv [32]) λv66=>
 gC Q1 2 c1 λv68=>
 bn Q1 .add v66 v68 λv69=>
 some (.ret v69,s_7)) (
 gC Ql 3 c1 λv71=>
 ln Ql v71 λv72=>
 Q1e c1 (sv []) v72 (iv 0) s))))):=(Q5 _ _ _).trans (by kernel_rfl)
noncomputable def Q0S:Slot→Slot→Slot→List Slot→Slot→Slot→Slot→Slot→St→Res:=λx0_2 x1_2 x2_2 x8_1 x12_2 x13_2 x71 x72 s=>lpD ZL [.seqR,.seqL,.seqR,.block,.loop,.seqR,.seqR,.seqL,.block,.seqR,.seqR,.seqR,.seqR,.seqR,.seqR,.seqR,.block] Tryz.f36 [(0,.s x0_2),(1,.s x1_2),(2,.s x2_2),(8,.var x8_1),(12,.s x12_2),(13,.s x13_2),(71,.s x71),(72,.s x72)] s
noncomputable def Q0R:Slot→Slot→Slot→List Slot→Slot→Slot→Slot→Slot→St→Res:=λx0_1 x1_1 x2_1 x8 x12_1 x13_1 x42 x43 s=>lpD ZL [.seqR,.seqL,.seqR,.block,.loop,.seqR,.seqR,.seqL,.block,.seqR,.seqR,.seqR,.seqR,.seqR,.seqL,.seqR,.block] Tryz.f36 [(0,.s x0_1),(1,.s x1_1),(2,.s x2_1),(8,.var x8),(12,.s x12_1),(13,.s x13_1),(42,.s x42),(43,.s x43)] s
noncomputable def Zf:Slot→Slot→Slot→Slot→Slot→St→Res:=λx0 x1 x2 x12 x13 s=>lpD ZL [.seqR,.seqL,.seqR,.block] Tryz.f36 [(0,.s x0),(1,.s x1),(2,.s x2),(12,.s x12),(13,.s x13)] s
theorem Q57:∀ x0_2 x1_2 x2_2 x8_1 x12_2 x13_2 x71 x72 s_5,Q0S x0_2 x1_2 x2_2 x8_1 x12_2 x13_2 x71 x72 s_5 =
 bn Q2 .lss x72 x71 λv73=>
 condS v73 (
 gC Qz 6 x8_1 λv76=>
 ix Za v76 x72 λv78=>
 fa 2 v78 λv79=>
 ld QA s_5 v79 λv80=>
 bs QA [v80] λv81=>
 bn Q2 .sub x1_2 (iv 1) λv83=>
 gC Qz 6 x8_1 λv85=>
 ix Za v85 x72 λv87=>
 fa 0 v87 λv88=>
 ld Q1 s_5 v88 λv89=>
 ln Q1 v89 λv90=>
 bn Q2 .quo v90 (iv 100) λv91=>
 bn Q2 .sub v83 v91 λv92=>
 nx x2_2 λv94=>
 cn ZY [v81,v92,v94] s_5 λv95 s_6=>
 bn Q2 .lss v95 (iv 0) λv97=>
 condS v97 (
 some (.ret (iv (-1)),s_6)) (
 nx x72 λv98=>
 Q0S x0_2 v95 x2_2 x8_1 x12_2 x13_2 x71 v98 s_6)) (
 nx x13_2 λv99=>
 Zf x0_2 x1_2 x2_2 x12_2 v99 s_5):=by intros;unfold Q0S;exact (Qb _ _ _ _ _ _).trans (by kernel_rfl)
theorem Q56:∀ x0_1 x1_1 x2_1 x8 x12_1 x13_1 x42 x43 s_3,Q0R x0_1 x1_1 x2_1 x8 x12_1 x13_1 x42 x43 s_3 =
 bn Q2 .lss x43 x42 λv44=>
 condS v44 (
 gC Qx 4 x8 λv47=>
 ix Z1 v47 x43 λv49=>
 fa 3 v49 λv50=>
 ld Qu s_3 v50 λv51=>
 bn Q2 .sub x1_1 (iv 1) λv53=>
 gC Qx 4 x8 λv55=>
 ix Z1 v55 x43 λv57=>
 fa 0 v57 λv58=>
 ld Q1 s_3 v58 λv59=>
 ln Q1 v59 λv60=>
 bn Q2 .quo v60 (iv 100) λv61=>
 bn Q2 .sub v53 v61 λv62=>
 nx x2_1 λv64=>
 cn Q2k [v51,v62,v64] s_3 λv65 s_4=>
 bn Q2 .lss v65 (iv 0) λv67=>
 condS v67 (
 some (.ret (iv (-1)),s_4)) (
 nx x43 λv68=>
 Q0R x0_1 v65 x2_1 x8 x12_1 x13_1 x42 v68 s_4)) (
 gC Qz 6 x8 λv70=>
 ln Qz v70 λv71=>
 Q0S x0_1 x1_1 x2_1 x8 x12_1 x13_1 v71 (iv 0) s_3):=by intros;unfold Q0R;exact (Qb _ _ _ _ _ _).trans (by kernel_rfl)
theorem Q55:∀ x0 x1 x2 x12 x13 s_1,Zf x0 x1 x2 x12 x13 s_1 =
 bn Q2 .lss x13 x12 λv14=>
 condS v14 (
 ix QB x0 x13 λv18=>
 ld QB s_1 v18 λv19=>
 bx QB v19 λc=>
 pZ QB c λc8=>
 bn Q2 .sub x1 (iv 1) λv21=>
 gC Q1 2 c8 λv23=>
 ln Q1 v23 λv24=>
 bn Q2 .quo v24 (iv 100) λv25=>
 bn Q2 .sub v21 v25 λv26=>
 gC Q8 5 c8 λv28=>
 bind1 (max2 v26 (iv (-1))) λv30=>
 nx x2 λv32=>
 ca ZY [v28,v30,v32] s_1 λv33 s_2=>
 bn Q2 .lss v33 (iv 0) λv35=>
 iF v35 λw=>
 iF v35 λw_1=>
 gB w_1 Q2 .gtr (gdV w x2) (iv 130) λv38=>
 pk v35 (bv true) v38 λv39=>
 condS v39 (
 some (.ret (iv (-1)),s_2)) (
 gC Qx 4 c8 λv41=>
 ln Qx v41 λv42=>
 Q0R x0 v33 x2 c8 x12 x13 v42 (iv 0) s_2)) (
 some (.ret x1,s_1)):=by intros;unfold Zf;exact (Qb _ _ _ _ _ _).trans (by kernel_rfl)
theorem Qbv(a0:AV)(a1:AV)(a2:AV)(s:St):cw (.f ZL) [a0,a1,a2] s =
 ln Qw (.val a0) λv12=>
 Zf (.val a0) (.val a1) (.val a2) v12 (iv 0) s:=(Q5 _ _ _).trans (by kernel_rfl)
theorem Qfa(a0:AV)(s:St):cw (.f Q6V) [a0] s =
 bx Qw (.val a0) λc1=>
 bindA (avs c1) λl1=>
 ld Qw s (.val (.cp l1)) λv3=>
 ca Q5l [v3] s λv4 s_1=>
 bind1 (fnS Q5j [(.val (.cp l1))]) λv5=>
 ca Q1F [v4,v5] s_1 λv6 s_2=>
 bx Qi v6 λc=>
 pZ Qi c λc2=>
 gA Qi c2 λv=>some (.ret v,s_2):=(Q5 _ _ _).trans (by kernel_rfl)
theorem Q4S(a0:AV)(a1:AV)(s:St):cw (.f Z0) [a0,a1] s =
 ca Zo [(.val a0)] s λv7 s_1=>
 bind1 (nilCheckV (.val a0)) λv10=>
 fa 1 v10 λv11=>
 ld QM s_1 v11 λv12=>
 bind2 (appendStr Qg (C.ti Qg) s_1 v12 (.val a1)) λv14 s_2=>
 bind1 (nilCheckV (.val a0)) λv15=>
 fa 1 v15 λv16=>
 bx QM v14 λc=>
 sto s_2 v16 c λs_3=>
 ln Q1 (.val a1) λv18=>
 rt [(some v18),(some (.val (.nili)))] s_3:=(Q5 _ _ _).trans (by kernel_rfl)
noncomputable def Q3B:Slot→Slot→St→Res:=λx1_1 x3_1 s=>pwD Q3c [.seqR,.seqR,.seqR,.seqR,.seqR] Tryz.f39 [(1,.s x1_1),(3,.s x3_1)] s
noncomputable def Q3A:Slot→Slot→St→Res:=λx1 x3 s=>pwD Q3c [.seqR,.seqR,.seqR,.seqR] Tryz.f39 [(1,.s x1),(3,.s x3)] s
theorem Qdv:∀ x1_1 x3_1 s_15,Q3B x1_1 x3_1 s_15 =
 bs Q1 [(sv [100,97,116,97,116,121,112,101])] λv59=>
 cn Qj [v59] s_15 λv60 s_16=>
 fa 2 x1_1 λv62=>
 bind1 (ldV (C.ti Q1) true s_16 v62) λv63=>
 bs Q1 [v63,(sv [61])] λv64=>
 cn Qj [v64] s_16 λv65 s_17=>
 fa 4 x1_1 λv66=>
 bind1 (ldV (C.ti Qx) true s_17 v66) λv67=>
 ln Qx v67 λv68=>
 bind1 (fnS Q4t [x1_1]) λv69=>
 cn QT [(sv [124]),v68,v69] s_17 λv70 s_18=>
 bs Qe [v60,x3_1,v65,v70] λv71=>
 cn Qm [v71] s_18 λv72 s_19=>
 some (.ret v72,s_19):=by intros;unfold Q3B;exact (QX _).trans (by kernel_rfl)
theorem Qdu:∀ x1 x3 s_13,Q3A x1 x3 s_13 =
 fa 3 x1 λv54=>
 ld Q2 s_13 v54 λv55=>
 bn Q2 .gtr v55 (iv 1) λv56=>
 condS v56 (
 ca Zm [x3] s_13 λv58 s_14=>
 Q3B x1 v58 s_14) (
 Q3B x1 x3 s_13):=by intros;unfold Q3A;exact (QX _).trans (by kernel_rfl)
theorem Q5F(a0:AV)(s:St):cw (.f Q3c) [a0] s =
 bx QB (.val a0) λc1=>
 bindA (avs c1) λl1=>
 fa 0 (.val (.cp l1)) λv4=>
 ld Qr s v4 λv5=>
 bn Qr .eql v5 (iv 1) λv7=>
 condS v7 (
 bs Q1 [(sv [118,97,108])] λv8=>
 cn Qj [v8] s λv9 s_1=>
 fa 5 (.val (.cp l1)) λv10=>
 bind1 (ldV (C.ti Q8) true s_1 v10) λv11=>
 ix QA v11 (iv 0) λv12=>
 fa 0 v12 λv13=>
 bind1 (ldV (C.ti Qq) true s_1 v13) λv14=>
 cn Q29 [v14] s_1 λv15 s_2=>
 bs Q1 [(sv [61])] λv16=>
 cn Qj [v16] s_2 λv17 s_3=>
 fa 5 (.val (.cp l1)) λv18=>
 bind1 (ldV (C.ti Q8) true s_3 v18) λv19=>
 ix QA v19 (iv 0) λv20=>
 fa 5 v20 λv21=>
 bind1 (ldV (C.ti Q6) true s_3 v21) λv22=>
 cn ZA [v22] s_3 λv23 s_4=>
 bs Qe [v9,v15,v17,v23] λv24=>
 cn Qm [v24] s_4 λv25 s_5=>
 some (.ret v25,s_5)) (
 bn Qr .eql v5 (iv 2) λv27=>
 condS v27 (
 bs Q1 [(sv [102,117,110])] λv28=>
 cn Qj [v28] s λv29 s_6=>
 fa 6 (.val (.cp l1)) λv30=>
 bind1 (ldV (C.ti Qz) true s_6 v30) λv31=>
 ln Qz v31 λv32=>
 bind1 (fnS Q4r [(.val (.cp l1))]) λv33=>
 cn QT [(sv [97,110,100]),v32,v33] s_6 λv34 s_7=>
 bs Qe [v29,v34] λv35=>
 cn Qm [v35] s_7 λv36 s_8=>
 some (.ret v36,s_8)) (
 bn Qr .eql v5 (iv 4) λv38=>
 condS v38 (
 bs Q1 [(sv [101,120,99,101,112,116,105,111,110])] λv39=>
 cn Qj [v39] s λv40 s_9=>
 fa 4 (.val (.cp l1)) λv41=>
 bind1 (ldV (C.ti Qx) true s_9 v41) λv42=>
 ix Z1 v42 (iv 0) λv43=>
 bind1 (ldV (C.ti Z1) true s_9 v43) λv44=>
 cn Q6E [v44] s_9 λv45 s_10=>
 bs Qe [v40,v45] λv46=>
 cn Qm [v46] s_10 λv47 s_11=>
 some (.ret v47,s_11)) (
 fa 3 (.val (.cp l1)) λv48=>
 ld Q2 s v48 λv49=>
 bn Q2 .gtr v49 (iv 0) λv50=>
 condS v50 (
 fa 3 (.val (.cp l1)) λv51=>
 ld Q2 s v51 λv52=>
 ca QT [(sv [44]),v52,(.val (.fn Q4s []))] s λv53 s_12=>
 Q3A (.val (.cp l1)) v53 s_12) (
 Q3A (.val (.cp l1)) (.val (.nils)) s)))):=(Q5 _ _ _).trans (by kernel_rfl)
theorem Q5x(a0:AV)(a1:AV)(s:St):cw (.f Zn) [a0,a1] s =
 ca Zo [(.val a0)] s λv6 s_1=>
 bind1 (nilCheckV (.val a0)) λv9=>
 fa 1 v9 λv10=>
 ld QM s_1 v10 λv11=>
 bs Qg [(.val a1)] λv13=>
 ap Qg s_1 v11 v13 λv14 s_2=>
 bind1 (nilCheckV (.val a0)) λv15=>
 fa 1 v15 λv16=>
 bx QM v14 λc=>
 sto s_2 v16 c λs_3=>
 some (.ret (.val (.nili)),s_3):=(Q5 _ _ _).trans (by kernel_rfl)
theorem Qde(a0:AV)(s:St):cw (.f Q68) [a0] s =
 ca Q6C [(.val a0)] s λv4 s_1=>
 ca ZK [(.val a0)] s_1 λv6 s_2=>
 ca Q2j [v4,v6] s_2 λv7 s_3=>
 bx Qi v7 λc=>
 pZ Qi c λc2=>
 gA Qi c2 λv=>some (.ret v,s_3):=(Q5 _ _ _).trans (by kernel_rfl)
noncomputable def Q2r:Slot→Slot→Slot→Slot→Slot→St→Res:=λx0 x1 x5 x8 x9 s=>lpD Q2M [.seqR,.seqR,.seqL,.seqR,.block] Tryz.f43 [(0,.s x0),(1,.s x1),(5,.s x5),(8,.s x8),(9,.s x9)] s
theorem Q7e:∀ x0 x1 x5 x8 x9 s_1,Q2r x0 x1 x5 x8 x9 s_1 =
 bn Q2 .lss x9 x8 λv10=>
 condS v10 (
 ix QB x0 x9 λv15=>
 ld QB s_1 v15 λv16=>
 ca Q1n [v16] s_1 λv17 s_2=>
 bn Q1 .add x5 v17 λv18=>
 bn Q1 .add v18 x1 λv20=>
 nx x9 λv21=>
 Q2r x0 x1 v20 x8 v21 s_2) (
 some (.ret x5,s_1)):=by intros;unfold Q2r;exact (Qb _ _ _ _ _ _).trans (by kernel_rfl)
theorem QeW(a0:AV)(a1:AV)(s:St):cw (.f Q2M) [a0,a1] s =
 ln Qw (.val a0) λv8=>
 Q2r (.val a0) (.val a1) (sv []) v8 (iv 0) s:=(Q5 _ _ _).trans (by kernel_rfl)
noncomputable def ZR:Slot→Slot→Slot→Slot→Slot→St→Res:=λx0 x1 x2 x9 x10 s=>lpD ZY [.seqR,.seqL,.seqR,.block] Tryz.f44 [(0,.s x0),(1,.s x1),(2,.s x2),(9,.s x9),(10,.s x10)] s
theorem Q4L:∀ x0 x1 x2 x9 x10 s_1,ZR x0 x1 x2 x9 x10 s_1 =
 bn Q2 .lss x10 x9 λv11=>
 condS v11 (
 ix QA x0 x10 λv15=>
 fa 0 v15 λv16=>
 ld Qq s_1 v16 λv17=>
 ca Q1A [v17,x1,x2] s_1 λv20 s_2=>
 bn Q2 .geq v20 (iv 0) λv22=>
 condS v22 (
 ix QA x0 x10 λv25=>
 fa 5 v25 λv26=>
 ld Q6 s_2 v26 λv27=>
 ca Q1z [v27,v20,x2] s_2 λv30 s_3=>
 bn Q2 .lss v30 (iv 0) λv32=>
 condS v32 (
 some (.ret (iv (-1)),s_3)) (
 nx x10 λv33=>
 ZR x0 v30 x2 x9 v33 s_3)) (
 bn Q2 .lss v20 (iv 0) λv32_1=>
 condS v32_1 (
 some (.ret (iv (-1)),s_2)) (
 nx x10 λv33_1=>
 ZR x0 v20 x2 x9 v33_1 s_2))) (
 some (.ret x1,s_1)):=by intros;unfold ZR;exact (Qb _ _ _ _ _ _).trans (by kernel_rfl)
theorem Qas(a0:AV)(a1:AV)(a2:AV)(s:St):cw (.f ZY) [a0,a1,a2] s =
 ln Q8 (.val a0) λv9=>
 ZR (.val a0) (.val a1) (.val a2) v9 (iv 0) s:=(Q5 _ _ _).trans (by kernel_rfl)
noncomputable def Q6f(x4:Slot):Am.Obj:=.loop .ready none Q1F [(4,.s x4)] [16] (rngAsg (codeAt [.seqR,.seqR,.seqR,.seqL,.seqR,.block] (body Tryz.f45))) (rngBody (codeAt [.seqR,.seqR,.seqR,.seqL,.seqR,.block] (body Tryz.f45)))
theorem QbF(x4:Slot)(y16:AV)(loc:Nat)(s_5:St):yldR C (Q6f x4) loc [y16] s_5=noPan (
 bx Z2 (.val y16) λc_2=>
 pZ Z2 c_2 λc5=>
 bindS (beginL loc s_5) λs_6=>
 gA Z2 c5 λv17=>
 ca Q16 [v17] s_6 λv18 s_7=>
 bx Qi v18 λc_3=>
 pZ Qi c_3 λc6=>
 gC QI 0 c6 λv20=>
 bn QI .neq v20 (iv 0) λv21=>
 condS v21 (
 gA Qi c6 λv22=>
 bx Qi v22 λc_4=>
 sto s_7 x4 c_4 λs_8=>
 bindS (setLoop loc .done (some .ret) s_8) λs_9=>
 some (.ret (bv false),s_9)) (
 bindS (setLoop loc .ready none s_7) λs_10=>
 some (.ret (bv true),s_10))):=by kernel_rfl
theorem Qfe(a0:AV)(a1:AV)(s:St):cw (.f Q1F) [a0,a1] s =
 ca Q4w [(.val a0),(iv 8193)] (St.addLoc s (.var (List.map .val (C.ti Qi).zero))) λv8 s_1=>
 bn Q2 .gtr v8 (iv 8192) λv9=>
 condS v9 (
 bd Qi [(0,QI,(iv 4))] λv10=>
 bx Qi v10 λc=>
 sto s_1 (.val (.vp s.locs.length 0)) c λs_2=>
 bind1 (ldV (C.ti Qi) false s_2 (.val (.vp s.locs.length 0))) λv=>some (.ret v,s_2)) (
 back (cal cw true (tgtV (.val a1) []) s_1) λv12 s_3=>
 bn Q2 .gtr v12 (iv 100) λv13=>
 condS v13 (
 bd Qi [(0,QI,(iv 7))] λv14=>
 bx Qi v14 λc_1=>
 sto s_3 (.val (.vp s.locs.length 0)) c_1 λs_4=>
 bind1 (ldV (C.ti Qi) false s_4 (.val (.vp s.locs.length 0))) λv=>some (.ret v,s_4)) (
 rangeC C cw (.val a0) s_3.locs.length (St.addLoc s_3 (Q6f (.val (.vp s.locs.length 0)))) λs_11=>
 endX s_3.locs.length s_11 (λs_12=>
 bd Qi [] λv23=>
 bx Qi v23 λc_5=>
 sto s_12 (.val (.vp s.locs.length 0)) c_5 λs_15=>
 bind1 (ldV (C.ti Qi) false s_15 (.val (.vp s.locs.length 0))) λv=>some (.ret v,s_15)) (λs_13=>
 bind1 (ldV (C.ti Qi) false s_13 (.val (.vp s.locs.length 0))) λv=>some (.ret v,s_13)) (λj s_14=>
 bif Nat.beq j 0 then (
 bd Qi [] λv23_1=>
 bx Qi v23_1 λc_6=>
 sto s_14 (.val (.vp s.locs.length 0)) c_6 λs_16=>
 bind1 (ldV (C.ti Qi) false s_16 (.val (.vp s.locs.length 0))) λv=>some (.ret v,s_16)) else (
(none:Res))))):=(Q5 _ _ _).trans (by kernel_rfl)
theorem Qa4(a0:AV)(s:St):cw (.f Q3p) [a0] s =
 bx Q6 (.val a0) λc1=>
 bindA (avs c1) λl1=>
 bind1 (fnS Q2C [(.val (.cp l1))]) λv3=>
 some (.ret v3,s):=(Q5 _ _ _).trans (by kernel_rfl)
theorem Q9Z(a0:AV)(s:St):cw (.f Q3n) [a0] s =
 ld Q6 s (.val a0) λv2=>
 ca Q01 [v2] s λv3 s_1=>
 some (.ret v3,s_1):=(Q5 _ _ _).trans (by kernel_rfl)
noncomputable def Q1k:Slot→Slot→Slot→Slot→St→Res:=λx3 x14 x15 x16 s=>lpD Q01 [.seqR,.seqR,.seqL,.seqR,.block] Tryz.f48 [(3,.s x3),(14,.s x14),(15,.s x15),(16,.s x16)] s
theorem Q66:∀ x3 x14 x15 x16 s_3,Q1k x3 x14 x15 x16 s_3 =
 bn Q2 .lss x16 x15 λv17=>
 condS v17 (
 ix Q6 x14 x16 λv18=>
 ld Q6 s_3 v18 λv19=>
 bx Q6 v19 λc=>
 pZ Q6 c λc5=>
 gA Q6 c5 λv21=>
 ca Q01 [v21] s_3 λv22 s_4=>
 bind1 (max2 x3 v22) λv23=>
 nx x16 λv24=>
 Q1k v23 x14 x15 v24 s_4) (
 nx x3 λv26=>
 some (.ret v26,s_3)):=by intros;unfold Q1k;exact (Qb _ _ _ _ _ _).trans (by kernel_rfl)
theorem QcE(a0:AV)(s:St):cw (.f Q01) [a0] s =
 bx Q6 (.val a0) λc1=>
 gC Qw 6 c1 λv7=>
 cn Zp [v7] s λv8 s_1=>
 gC Q8 5 c1 λv10=>
 cn ZC [v10] s_1 λv11 s_2=>
 bind1 (max2 v8 v11) λv12=>
 gC Q7 4 c1 λv14=>
 ln Q7 v14 λv15=>
 Q1k v12 v14 v15 (iv 0) s_2:=(Q5 _ _ _).trans (by kernel_rfl)
theorem Q3G(a0:AV)(a1:AV)(s:St):cw (.f QD) [a0,a1] s =
 ca Zb [(.val a0),(.val a1)] s λv7 s_1=>
 bn Q2 .geq v7 (iv 0) λv8=>
 some (.ret v8,s_1):=(Q5 _ _ _).trans (by kernel_rfl)
theorem Qh(a0:AV)(s:St):cw (.f Qj) [a0] s =
 some (.ret (.val a0),s):=(Q5 _ _ _).trans (by kernel_rfl)
theorem Qf4(a0:AV)(a1:AV)(s:St):cw (.f Q0K) [a0,a1] s =
 fa 4 (.val a1) λv4=>
 ld Q7 s v4 λv5=>
 ix Q6 v5 (.val a0) λv7=>
 ld Q6 s v7 λv8=>
 ca ZA [v8] s λv9 s_1=>
 some (.ret v9,s_1):=(Q5 _ _ _).trans (by kernel_rfl)
theorem Qdw(a0:AV)(s:St):cw (.f Q3R) [a0] s =
 bn Q2 .lss (.val a0) (iv 0) λv4=>
 condS v4 (
 bind1 (unS .neg (.val a0)) λv6=>
 ca Q4m [v6] s λv7 s_1=>
 bs Q1 [(sv [126]),v7] λv8=>
 ca Qj [v8] s_1 λv9 s_2=>
 some (.ret v9,s_2)) (
 ca Q4m [(.val a0)] s λv11 s_3=>
 bs Q1 [v11] λv12=>
 ca Qj [v12] s_3 λv13 s_4=>
 some (.ret v13,s_4)):=(Q5 _ _ _).trans (by kernel_rfl)
theorem QgH(a0:AV)(a1:AV)(s:St):cw (.f Q2v) [a0,a1] s =
 bx Q6 (.val a1) λc3=>
 bs Q1 [(.val a0)] λv6=>
 cn Qj [v6] s λv7 s_1=>
 gC Q7 4 c3 λv9=>
 ix Q6 v9 (iv 0) λv10=>
 bind1 (ldV (C.ti Q6) true s_1 v10) λv11=>
 cn Z8 [v11,(iv 9)] s_1 λv12 s_2=>
 bs Qe [v7,v12] λv13=>
 cn Qm [v13] s_2 λv14 s_3=>
 some (.ret v14,s_3):=(Q5 _ _ _).trans (by kernel_rfl)
theorem QiJ(a0:AV)(s:St):cw (.f Zm) [a0] s =
 bs Q1 [(sv [40])] λv3=>
 ca Qj [v3] s λv4 s_1=>
 bs Q1 [(sv [41])] λv6=>
 ca Qj [v6] s_1 λv7 s_2=>
 bs Qe [v4,(.val a0),v7] λv8=>
 ca Qm [v8] s_2 λv9 s_3=>
 some (.ret v9,s_3):=(Q5 _ _ _).trans (by kernel_rfl)
noncomputable def Q0k:Slot→Slot→Slot→Slot→Slot→St→Res:=λx0 x2 x7 x9 x10 s=>lpD QT [.seqR,.seqR,.seqL,.seqR,.block] Tryz.f55 [(0,.s x0),(2,.s x2),(7,.s x7),(9,.s x9),(10,.s x10)] s
theorem Q65:∀ x0 x2 x7 x9 x10 s_1,Q0k x0 x2 x7 x9 x10 s_1 =
 bn Q2 .lss x10 x9 λv11=>
 condS v11 (
 bn Q2 .gtr x10 (iv 0) λv14=>
 condS v14 (
 bs Q1 [x0] λv17=>
 ap Q1 s_1 x7 v17 λv18 s_2=>
 back (cal cw true (tgtV x2 [x10]) s_2) λv22 s_3=>
 ap Q1 s_3 v18 v22 λv23 s_4=>
 nx x10 λv24=>
 Q0k x0 x2 v23 x9 v24 s_4) (
 back (cal cw true (tgtV x2 [x10]) s_1) λv22_1 s_5=>
 ap Q1 s_5 x7 v22_1 λv23_1 s_6=>
 nx x10 λv24_1=>
 Q0k x0 x2 v23_1 x9 v24_1 s_6)) (
 some (.ret x7,s_1)):=by intros;unfold Q0k;exact (Qb _ _ _ _ _ _).trans (by kernel_rfl)
theorem Qcs(a0:AV)(a1:AV)(a2:AV)(s:St):cw (.f QT) [a0,a1,a2] s =
 Q0k (.val a0) (.val a2) (.val (.nils)) (.val a1) (iv 0) s:=(Q5 _ _ _).trans (by kernel_rfl)
theorem Qho(a0:AV)(s:St):cw (.f Qm) [a0] s =
 ca QW [(.val a0)] s λv4 s_1=>
 some (.ret v4,s_1):=(Q5 _ _ _).trans (by kernel_rfl)
theorem Qf0(a0:AV)(s:St):cw (.f Q2N) [a0] s =
 bx Q8 (.val a0) λc1=>
 bindA (avs c1) λl1=>
 ld Q8 s (.val (.cp l1)) λv3=>
 ln Q8 v3 λv4=>
 bind1 (fnS Q1C [(.val (.cp l1))]) λv5=>
 ca QT [(sv [124]),v4,v5] s λv6 s_1=>
 some (.ret v6,s_1):=(Q5 _ _ _).trans (by kernel_rfl)
theorem QiI(a0:AV)(a1:AV)(s:St):cw (.f Z8) [a0,a1] s =
 bx Q6 (.val a0) λc2=>
 gA Q6 c2 λv5=>
 ca Q2O [v5] s λv6 s_1=>
 bn Q2 .lss v6 (.val a1) λv8=>
 condS v8 (
 gA Q6 c2 λv9=>
 ca ZA [v9] s_1 λv10 s_2=>
 ca Zm [v10] s_2 λv11 s_3=>
 some (.ret v11,s_3)) (
 gA Q6 c2 λv12=>
 ca ZA [v12] s_1 λv13 s_4=>
 some (.ret v13,s_4)):=(Q5 _ _ _).trans (by kernel_rfl)
noncomputable def Q32:List Slot→Slot→St→Res:=λx1 x3 s=>pwD Q3x [.seqR,.seqL,.seqR,.block,.seqR,.els,.seqR,.thn,.seqR,.seqR] Tryz.f59 [(1,.var x1),(3,.s x3)] s
noncomputable def Q33:List Slot→Slot→Slot→St→Res:=λx1_1 x4 x5 s=>pwD Q3x [.seqR,.seqL,.seqR,.block,.seqR,.els,.seqR,.els,.seqR,.els,.seqR,.els,.seqR,.thn,.seqR,.seqR,.seqR] Tryz.f59 [(1,.var x1_1),(4,.s x4),(5,.s x5)] s
theorem Qcu:∀ x1 x3 s_7,Q32 x1 x3 s_7 =
 bs Q1 [(sv [58,61])] λv38=>
 cn Qj [v38] s_7 λv39 s_8=>
 gC Q7 4 x1 λv41=>
 ix Q6 v41 (iv 1) λv42=>
 bind1 (ldV (C.ti Q6) true s_8 v42) λv43=>
 cn Z8 [v43,(iv 1)] s_8 λv44 s_9=>
 bs Qe [x3,v39,v44] λv45=>
 cn Qm [v45] s_9 λv46 s_10=>
 some (.ret v46,s_10):=by intros;unfold Q32;exact (QX _).trans (by kernel_rfl)
theorem Qcv:∀ x1_1 x4 x5 s_20,Q33 x1_1 x4 x5 s_20 =
 gC Q7 4 x1_1 λv87=>
 ix Q6 v87 (iv 0) λv88=>
 bind1 (ldV (C.ti Q6) true s_20 v88) λv89=>
 cn Z8 [v89,x5] s_20 λv91 s_21=>
 gC Q2 3 x1_1 λv93=>
 bn Q2 .sub v93 (iv 1) λv94=>
 bind1 (ixA 9 (C.ti Q1).size (.val (.cp glob0)) v94) λv95=>
 bind1 (ldV (C.ti Q1) true s_21 v95) λv96=>
 bs Q1 [v96] λv97=>
 cn Qj [v97] s_21 λv98 s_22=>
 gC Q7 4 x1_1 λv100=>
 ix Q6 v100 (iv 1) λv101=>
 bind1 (ldV (C.ti Q6) true s_22 v101) λv102=>
 nx x4 λv104=>
 cn Z8 [v102,v104] s_22 λv105 s_23=>
 bs Qe [v91,v98,v105] λv106=>
 cn Qm [v106] s_23 λv107 s_24=>
 some (.ret v107,s_24):=by intros;unfold Q33;exact (QX _).trans (by kernel_rfl)
theorem Q0U(a0:AV)(s:St):cw (.f Q3x) [a0] s =
 bx Q6 (.val a0) λc1=>
 gC Q3 0 c1 λv7=>
 bn Q3 .eql v7 (iv 11) λv9=>
 condS v9 (
 gC Q7 4 c1 λv11=>
 ix Q6 v11 (iv 0) λv12=>
 ld Q6 s v12 λv13=>
 cn Z8 [v13,(iv 3)] s λv14 s_1=>
 bs Q1 [(sv [104,97,110,100,108,101])] λv15=>
 cn Qj [v15] s_1 λv16 s_2=>
 gC Q8 5 c1 λv18=>
 cn Q2N [v18] s_2 λv19 s_3=>
 bs Qe [v14,v16,v19] λv20=>
 cn Qm [v20] s_3 λv21 s_4=>
 some (.ret v21,s_4)) (
 bn Q3 .eql v7 (iv 18) λv23=>
 condS v23 (
 gC Q7 4 c1 λv25=>
 ix Q6 v25 (iv 0) λv26=>
 ld Q6 s v26 λv27=>
 ca Z8 [v27,(iv 2)] s λv28 s_5=>
 gC Q7 4 c1 λv30=>
 ix Q6 v30 (iv 0) λv31=>
 fa 0 v31 λv32=>
 ld Q3 s_5 v32 λv33=>
 bn Q3 .eql v33 (iv 11) λv34=>
 condS v34 (
 ca Zm [v28] s_5 λv36 s_6=>
 Q32 c1 v36 s_6) (
 Q32 c1 v28 s_5)) (
 bn Q3 .eql v7 (iv 15) λv48=>
 condS v48 (
 gC Q7 4 c1 λv50=>
 ix Q6 v50 (iv 0) λv51=>
 bind1 (ldV (C.ti Q6) true s v51) λv52=>
 cn Z8 [v52,(iv 4)] s λv53 s_11=>
 bs Q1 [(sv [111,114,101,108,115,101])] λv54=>
 cn Qj [v54] s_11 λv55 s_12=>
 gC Q7 4 c1 λv57=>
 ix Q6 v57 (iv 1) λv58=>
 bind1 (ldV (C.ti Q6) true s_12 v58) λv59=>
 cn Z8 [v59,(iv 3)] s_12 λv60 s_13=>
 bs Qe [v53,v55,v60] λv61=>
 cn Qm [v61] s_13 λv62 s_14=>
 some (.ret v62,s_14)) (
 bn Q3 .eql v7 (iv 14) λv64=>
 condS v64 (
 gC Q7 4 c1 λv66=>
 ix Q6 v66 (iv 0) λv67=>
 bind1 (ldV (C.ti Q6) true s v67) λv68=>
 cn Z8 [v68,(iv 5)] s λv69 s_15=>
 bs Q1 [(sv [97,110,100,97,108,115,111])] λv70=>
 cn Qj [v70] s_15 λv71 s_16=>
 gC Q7 4 c1 λv73=>
 ix Q6 v73 (iv 1) λv74=>
 bind1 (ldV (C.ti Q6) true s_16 v74) λv75=>
 cn Z8 [v75,(iv 4)] s_16 λv76 s_17=>
 bs Qe [v69,v71,v76] λv77=>
 cn Qm [v77] s_17 λv78 s_18=>
 some (.ret v78,s_18)) (
 bn Q3 .eql v7 (iv 13) λv80=>
 condS v80 (
 gA Q6 c1 λv81=>
 ca Q2O [v81] s λv82 s_19=>
 bn Q2 .eql v82 (iv 5) λv85=>
 condS v85 (
 Q33 c1 v82 (iv 6) s_19) (
 Q33 c1 v82 v82 s_19)) (
 bn Q3 .eql v7 (iv 16) λv109=>
 condS v109 (
 gA Q6 c1 λv110=>
 ca Q2v [(sv [114,101,102]),v110] s λv111 s_25=>
 some (.ret v111,s_25)) (
 bn Q3 .eql v7 (iv 17) λv113=>
 condS v113 (
 gA Q6 c1 λv114=>
 ca Q2v [(sv [33]),v114] s λv115 s_26=>
 some (.ret v115,s_26)) (
 bn Q3 .eql v7 (iv 19) λv117=>
 condS v117 (
 gA Q6 c1 λv118=>
 ca Q2v [(sv [112,114,105,110,116]),v118] s λv119 s_27=>
 some (.ret v119,s_27)) (
 bs Q1 [(sv [114,101,97,100]),(sv [40]),(sv [41])] λv120=>
 ca Qj [v120] s λv121 s_28=>
 some (.ret v121,s_28))))))))):=(Q5 _ _ _).trans (by kernel_rfl)
noncomputable def Q1W:Slot→List Slot→Slot→Slot→Slot→St→Res:=λx0_1 x4_1 x5_1 x6 x7 s=>pwD Q2j [.seqR,.seqR,.seqR,.seqL,.seqR,.block,.loop,.seqR,.seqL,.block,.seqR,.seqR,.thn,.seqR] Tryz.f60 [(0,.s x0_1),(4,.var x4_1),(5,.s x5_1),(6,.s x6),(7,.s x7)] s
noncomputable def Q1X:Slot→List Slot→Slot→St→Res:=λx0 x4 x5 s=>lpD Q2j [.seqR,.seqR,.seqR,.seqL,.seqR,.block] Tryz.f60 [(0,.s x0),(4,.var x4),(5,.s x5)] s
theorem Qan:∀ x0_1 x4_1 x5_1 x6 x7 s_4,Q1W x0_1 x4_1 x5_1 x6 x7 s_4 =
 ix Qc x0_1 x5_1 λv36=>
 fa 2 v36 λv37=>
 ld Q2 s_4 v37 λv38=>
 bd Qi [(0,QI,x6),(1,Q2,v38),(2,Q1,x7)] λv40=>
 bx Qi v40 λc_2=>
 pt x4_1 0 c_2 λc4_2=>
 gA Qi c4_2 λv=>some (.ret v,s_4):=by intros;unfold Q1W;exact (QX _).trans (by kernel_rfl)
theorem Q6r:∀ x0 x4 x5 s_2,Q1X x0 x4 x5 s_2 =
 ln Q03 x0 λv17=>
 bn Q2 .lss x5 v17 λv18=>
 condS v18 (
 ix Qc x0 x5 λv24=>
 ld Qc s_2 v24 λv25=>
 ca Q6a [v25] s_2 λv26 s_3=>
 ex v26 0 λv27=>
 ex v26 1 λv28=>
 bn QI .neq v27 (iv 0) λv30=>
 condS v30 (
 bn QI .neq v27 (iv 8) λv32=>
 condS v32 (
 Q1W x0 x4 x5 v27 (sv []) s_3) (
 Q1W x0 x4 x5 v27 v28 s_3)) (
 nx x5 λv20=>
 Q1X x0 x4 v20 s_3)) (
 bd Qi [] λv41=>
 bx Qi v41 λc_3=>
 pt x4 0 c_3 λc4_3=>
 gA Qi c4_3 λv=>some (.ret v,s_2)):=by intros;unfold Q1X;exact (Qb _ _ _ _ _ _).trans (by kernel_rfl)
theorem Qdl(a0:AV)(a1:AV)(s:St):cw (.f Q2j) [a0,a1] s =
 ca Q3P [(.val a0)] s λv9 s_1=>
 bn Q2 .gtr v9 (iv 8192) λv10=>
 condS v10 (
 bd Qi [(0,QI,(iv 4))] λv11=>
 bx Qi v11 λc=>
 pZ Qi c λc4=>
 gA Qi c4 λv=>some (.ret v,s_1)) (
 bn Q2 .gtr (.val a1) (iv 100) λv13=>
 condS v13 (
 bd Qi [(0,QI,(iv 7))] λv14=>
 bx Qi v14 λc_1=>
 pZ Qi c_1 λc4_1=>
 gA Qi c4_1 λv=>some (.ret v,s_1)) (
 Q1X (.val a0) ((List.map .val (C.ti Qi).zero)) (iv 0) s_1)):=(Q5 _ _ _).trans (by kernel_rfl)
noncomputable def Q1T:List Slot→Slot→Slot→St→Res:=λx1_2 x3_2 x6 s=>lpD Q0n [.seqR,.seqR,.seqR,.seqR,.seqL,.seqR,.block] Tryz.f61 [(1,.var x1_2),(3,.s x3_2),(6,.s x6)] s
noncomputable def Q1S:List Slot→Slot→Slot→St→Res:=λx1_1 x3_1 x5 s=>lpD Q0n [.seqR,.seqR,.seqR,.seqL,.seqR,.block] Tryz.f61 [(1,.var x1_1),(3,.s x3_1),(5,.s x5)] s
noncomputable def Q1R:List Slot→Slot→Slot→St→Res:=λx1 x3 x4 s=>lpD Q0n [.seqR,.seqR,.seqL,.seqR,.block] Tryz.f61 [(1,.var x1),(3,.s x3),(4,.s x4)] s
theorem Q6l:∀ x1_2 x3_2 x6 s_7,Q1T x1_2 x3_2 x6 s_7 =
 gC Q8 5 x1_2 λv44=>
 ln Q8 v44 λv45=>
 bn Q2 .lss x6 v45 λv46=>
 condS v46 (
 gC Q8 5 x1_2 λv51=>
 ix QA v51 x6 λv53=>
 ld QA s_7 v53 λv54=>
 ca Q1v [v54] s_7 λv55 s_8=>
 ap Qc s_8 x3_2 v55 λv56 s_9=>
 nx x6 λv48=>
 Q1T x1_2 v56 v48 s_9) (
 some (.ret x3_2,s_7)):=by intros;unfold Q1T;exact (Qb _ _ _ _ _ _).trans (by kernel_rfl)
theorem Q6k:∀ x1_1 x3_1 x5 s_4,Q1S x1_1 x3_1 x5 s_4 =
 gC Q7 4 x1_1 λv29=>
 ln Q7 v29 λv30=>
 bn Q2 .lss x5 v30 λv31=>
 condS v31 (
 gC Q7 4 x1_1 λv36=>
 ix Q6 v36 x5 λv38=>
 ld Q6 s_4 v38 λv39=>
 ca Q0n [v39] s_4 λv40 s_5=>
 ap Qc s_5 x3_1 v40 λv41 s_6=>
 nx x5 λv33=>
 Q1S x1_1 v41 v33 s_6) (
 Q1T x1_1 x3_1 (iv 0) s_4):=by intros;unfold Q1S;exact (Qb _ _ _ _ _ _).trans (by kernel_rfl)
theorem Q6j:∀ x1 x3 x4 s_1,Q1R x1 x3 x4 s_1 =
 gC Qw 6 x1 λv14=>
 ln Qw v14 λv15=>
 bn Q2 .lss x4 v15 λv16=>
 condS v16 (
 gC Qw 6 x1 λv21=>
 ix QB v21 x4 λv23=>
 ld QB s_1 v23 λv24=>
 ca Q0m [v24,(bv true)] s_1 λv25 s_2=>
 ap Qc s_2 x3 v25 λv26 s_3=>
 nx x4 λv18=>
 Q1R x1 v26 v18 s_3) (
 Q1S x1 x3 (iv 0) s_1):=by intros;unfold Q1R;exact (Qb _ _ _ _ _ _).trans (by kernel_rfl)
theorem Qdc(a0:AV)(s:St):cw (.f Q0n) [a0] s =
 bx Q6 (.val a0) λc1=>
 gA Q6 c1 λv7=>
 gC Q2 1 c1 λv9=>
 bd Qc [(0,Q2,(iv 2)),(10,Q6,v7),(2,Q2,v9)] λv10=>
 bs Qc [v10] λv11=>
 Q1R c1 v11 (iv 0) s:=(Q5 _ _ _).trans (by kernel_rfl)
noncomputable def Q0O:List Slot→Slot→Slot→St→Res:=λx1_1 x3_1 x5 s=>lpD Zj [.seqR,.seqR,.seqR,.seqL,.seqR,.block] Tryz.f62 [(1,.var x1_1),(3,.s x3_1),(5,.s x5)] s
noncomputable def Q0N:List Slot→Slot→Slot→St→Res:=λx1 x3 x4 s=>lpD Zj [.seqR,.seqR,.seqL,.seqR,.block] Tryz.f62 [(1,.var x1),(3,.s x3),(4,.s x4)] s
theorem Q4Y:∀ x1_1 x3_1 x5 s_4,Q0O x1_1 x3_1 x5 s_4 =
 gC Q8 5 x1_1 λv26=>
 ln Q8 v26 λv27=>
 bn Q2 .lss x5 v27 λv28=>
 condS v28 (
 gC Q8 5 x1_1 λv33=>
 ix QA v33 x5 λv35=>
 fa 0 v35 λv36=>
 bind1 (ldV (C.ti Qq) true s_4 v36) λv37=>
 cn Zk [v37] s_4 λv38 s_5=>
 gC Q8 5 x1_1 λv40=>
 ix QA v40 x5 λv42=>
 fa 5 v42 λv43=>
 bind1 (ldV (C.ti Q6) true s_5 v43) λv44=>
 cn Zj [v44] s_5 λv45 s_6=>
 bind1 (max3 x3_1 v38 v45) λv46=>
 nx x5 λv30=>
 Q0O x1_1 v46 v30 s_6) (
 nx x3_1 λv48=>
 some (.ret v48,s_4)):=by intros;unfold Q0O;exact (Qb _ _ _ _ _ _).trans (by kernel_rfl)
theorem Q4X:∀ x1 x3 x4 s_2,Q0N x1 x3 x4 s_2 =
 gC Q7 4 x1 λv11=>
 ln Q7 v11 λv12=>
 bn Q2 .lss x4 v12 λv13=>
 condS v13 (
 gC Q7 4 x1 λv18=>
 ix Q6 v18 x4 λv20=>
 ld Q6 s_2 v20 λv21=>
 ca Zj [v21] s_2 λv22 s_3=>
 bind1 (max2 x3 v22) λv23=>
 nx x4 λv15=>
 Q0N x1 v23 v15 s_3) (
 Q0O x1 x3 (iv 0) s_2):=by intros;unfold Q0N;exact (Qb _ _ _ _ _ _).trans (by kernel_rfl)
theorem Qbj(a0:AV)(s:St):cw (.f Zj) [a0] s =
 bx Q6 (.val a0) λc1=>
 gC Qw 6 c1 λv7=>
 ca ZK [v7] s λv8 s_1=>
 Q0N c1 v8 (iv 0) s_1:=(Q5 _ _ _).trans (by kernel_rfl)
theorem Qck(a0:AV)(s:St):cw (.f Q39) [a0] s =
 bn Q2 .lss (.val a0) (iv 0) λv4=>
 condS v4 (
 bn Q2 .sub (iv 0) (.val a0) λv6=>
 ca Q0J [v6] s λv7 s_1=>
 bn Q1 .add (sv [126]) v7 λv8=>
 some (.ret v8,s_1)) (
 ca Q0J [(.val a0)] s λv10 s_2=>
 some (.ret v10,s_2)):=(Q5 _ _ _).trans (by kernel_rfl)
theorem Qgw(a0:AV)(a1:AV)(s:St):cw (.f Qv) [a0,a1] s =
 bx Q6 (.val a0) λc2=>
 gA Q6 c2 λv5=>
 cn Zl [v5] s λv6 s_1=>
 gA Q6 c2 λv7=>
 cn Zz [v7] s_1 λv8 s_2=>
 bn Q2 .lss v8 (.val a1) λv10=>
 cn Z7 [v6,v10] s_2 λv11 s_3=>
 some (.ret v11,s_3):=(Q5 _ _ _).trans (by kernel_rfl)
noncomputable def Q3X:Slot→Slot→Slot→Slot→Slot→Slot→St→Res:=λx0_1 x1_1 x5_1 x6 x8_1 x9_1 s=>pwD Q1B [.seqR,.seqR,.seqL,.seqR,.block,.loop,.seqR,.seqR,.seqL,.block,.seqR,.seqR] Tryz.f65 [(0,.s x0_1),(1,.s x1_1),(5,.s x5_1),(6,.s x6),(8,.s x8_1),(9,.s x9_1)] s
noncomputable def Q2s:Slot→Slot→Slot→Slot→Slot→St→Res:=λx0 x1 x5 x8 x9 s=>lpD Q1B [.seqR,.seqR,.seqL,.seqR,.block] Tryz.f65 [(0,.s x0),(1,.s x1),(5,.s x5),(8,.s x8),(9,.s x9)] s
theorem Q7f:∀ x0_1 x1_1 x5_1 x6 x8_1 x9_1 s_2,Q3X x0_1 x1_1 x5_1 x6 x8_1 x9_1 s_2 =
 ix Q6 x0_1 x6 λv20=>
 ld Q6 s_2 v20 λv21=>
 ca Qv [v21,(iv 0)] s_2 λv22 s_3=>
 bn Q1 .add x5_1 v22 λv23=>
 nx x9_1 λv24=>
 Q2s x0_1 x1_1 v23 x8_1 v24 s_3:=by intros;unfold Q3X;exact (QX _).trans (by kernel_rfl)
theorem Q7g:∀ x0 x1 x5 x8 x9 s_1,Q2s x0 x1 x5 x8 x9 s_1 =
 bn Q2 .lss x9 x8 λv10=>
 condS v10 (
 bn Q2 .gtr x9 (iv 0) λv13=>
 condS v13 (
 bn Q1 .add x5 x1 λv16=>
 Q3X x0 x1 v16 x9 x8 x9 s_1) (
 Q3X x0 x1 x5 x9 x8 x9 s_1)) (
 bn Q1 .add (sv [40]) x5 λv26=>
 bn Q1 .add v26 (sv [41]) λv27=>
 some (.ret v27,s_1)):=by intros;unfold Q2s;exact (Qb _ _ _ _ _ _).trans (by kernel_rfl)
theorem QeX(a0:AV)(a1:AV)(s:St):cw (.f Q1B) [a0,a1] s =
 ln Q7 (.val a0) λv8=>
 Q2s (.val a0) (.val a1) (sv []) v8 (iv 0) s:=(Q5 _ _ _).trans (by kernel_rfl)
noncomputable def Q1Y:Slot→Slot→Slot→Slot→Slot→St→Res:=λx0_1 x3_1 x4 x7_1 x8_1 s=>pwD Q0o [.seqR,.seqR,.seqL,.seqR,.block,.loop,.seqR,.seqR,.seqL,.block,.seqR,.seqR] Tryz.f66 [(0,.s x0_1),(3,.s x3_1),(4,.s x4),(7,.s x7_1),(8,.s x8_1)] s
noncomputable def Q1Z:Slot→Slot→Slot→Slot→St→Res:=λx0 x3 x7 x8 s=>lpD Q0o [.seqR,.seqR,.seqL,.seqR,.block] Tryz.f66 [(0,.s x0),(3,.s x3),(7,.s x7),(8,.s x8)] s
theorem Qar:∀ x0_1 x3_1 x4 x7_1 x8_1 s_2,Q1Y x0_1 x3_1 x4 x7_1 x8_1 s_2 =
 ix QA x0_1 x4 λv17=>
 fa 5 v17 λv18=>
 ld Q6 s_2 v18 λv19=>
 bx Q6 v19 λc=>
 pZ Q6 c λc5=>
 ix QA x0_1 x4 λv23=>
 fa 0 v23 λv24=>
 ld Qq s_2 v24 λv25=>
 cn Q0y [v25,(iv 0)] s_2 λv26 s_3=>
 bn Q1 .add x3_1 v26 λv27=>
 bn Q1 .add v27 (sv [32,61,62,32]) λv28=>
 gA Q6 c5 λv29=>
 cn Zl [v29] s_3 λv30 s_4=>
 ln Q8 x0_1 λv33=>
 bn Q2 .sub v33 (iv 1) λv34=>
 bn Q2 .lss x4 v34 λv35=>
 iT v35 λw=>
 bind1 (gd w (ofSlots (C.ti Q6) (List.take (C.ti Q6).size c5))) λv37=>
 iT v35 λw_1=>
 back (noPan (cal cw w_1 (tgtV (.val (.fn Q0a [])) [v37]) s_4)) λv38 s_5=>
 pk v35 v38 (bv false) λv39=>
 cn Z7 [v30,v39] s_5 λv40 s_6=>
 bn Q1 .add v28 v40 λv41=>
 nx x8_1 λv42=>
 Q1Z x0_1 v41 x7_1 v42 s_6:=by intros;unfold Q1Y;exact (QX _).trans (by kernel_rfl)
theorem Q6t:∀ x0 x3 x7 x8 s_1,Q1Z x0 x3 x7 x8 s_1 =
 bn Q2 .lss x8 x7 λv9=>
 condS v9 (
 bn Q2 .gtr x8 (iv 0) λv12=>
 condS v12 (
 bn Q1 .add x3 (sv [32,124,32]) λv14=>
 Q1Y x0 v14 x8 x7 x8 s_1) (
 Q1Y x0 x3 x8 x7 x8 s_1)) (
 some (.ret x3,s_1)):=by intros;unfold Q1Z;exact (Qb _ _ _ _ _ _).trans (by kernel_rfl)
theorem Qdr(a0:AV)(s:St):cw (.f Q0o) [a0] s =
 ln Q8 (.val a0) λv7=>
 Q1Z (.val a0) (sv []) v7 (iv 0) s:=(Q5 _ _ _).trans (by kernel_rfl)
theorem Q31(a0:AV)(s:St):cw (.f Q7Q) [a0] s =
 bx Q6 (.val a0) λc1=>
 gC Q7 4 c1 λv8=>
 ix Q6 v8 (iv 0) λv9=>
 ld Q6 s v9 λv10=>
 bx Q6 v10 λc=>
 pZ Q6 c λc3=>
 gC Q7 4 c1 λv12=>
 ix Q6 v12 (iv 1) λv13=>
 ld Q6 s v13 λv14=>
 bx Q6 v14 λc_1=>
 pZ Q6 c_1 λc4=>
 gC Q3 0 c1 λv16=>
 bn Q3 .eql v16 (iv 18) λv18=>
 condS v18 (
 gA Q6 c3 λv19=>
 cn Zl [v19] s λv20 s_1=>
 gA Q6 c3 λv21=>
 cn Zz [v21] s_1 λv22 s_2=>
 bn Q2 .lss v22 (iv 2) λv23=>
 iF v23 λw=>
 iF v23 λw_1=>
 gG w_1 w Q3 0 c3 λv26=>
 iF v23 λw_2=>
 gB w_2 Q3 .eql v26 (iv 11) λv27=>
 pk v23 (bv true) v27 λv28=>
 cn Z7 [v20,v28] s_2 λv29 s_3=>
 bn Q1 .add v29 (sv [32,58,61,32]) λv30=>
 gA Q6 c4 λv31=>
 cn Qv [v31,(iv 1)] s_3 λv32 s_4=>
 bn Q1 .add v30 v32 λv33=>
 some (.ret v33,s_4)) (
 bn Q3 .eql v16 (iv 15) λv35=>
 condS v35 (
 gA Q6 c3 λv36=>
 cn Qv [v36,(iv 4)] s λv37 s_5=>
 bn Q1 .add v37 (sv [32,111,114,101,108,115,101,32]) λv38=>
 gA Q6 c4 λv39=>
 cn Qv [v39,(iv 3)] s_5 λv40 s_6=>
 bn Q1 .add v38 v40 λv41=>
 some (.ret v41,s_6)) (
 bn Q3 .eql v16 (iv 14) λv43=>
 condS v43 (
 gA Q6 c3 λv44=>
 cn Qv [v44,(iv 5)] s λv45 s_7=>
 bn Q1 .add v45 (sv [32,97,110,100,97,108,115,111,32]) λv46=>
 gA Q6 c4 λv47=>
 cn Qv [v47,(iv 4)] s_7 λv48 s_8=>
 bn Q1 .add v46 v48 λv49=>
 some (.ret v49,s_8)) (
 bn Q3 .eql v16 (iv 6) λv51=>
 condS v51 (
 gC Q3 0 c3 λv53=>
 bn Q3 .eql v53 (iv 3) λv54=>
 iT v54 λw_3=>
 iT v54 λw_4=>
 gG w_4 w_3 Q7 4 c3 λv57=>
 iT v54 λw_5=>
 gL w_5 Q7 v57 λv58=>
 iT v54 λw_6=>
 gB w_6 Q2 .eql v58 (iv 0) λv59=>
 pk v54 v59 (bv false) λv60=>
 iT v60 λw_7=>
 iT v60 λw_8=>
 gG w_8 w_7 Q1 2 c3 λv63=>
 iT v60 λw_9=>
 gB w_9 Q1 .neq v63 (sv [40,41]) λv64=>
 pk v60 v64 (bv false) λv65=>
 gA Q6 c3 λv66=>
 cn Zl [v66] s λv67 s_9=>
 gA Q6 c3 λv68=>
 cn Zz [v68] s_9 λv69 s_10=>
 bn Q2 .lss v69 (iv 8) λv70=>
 iF v70 λw_10=>
 pk v70 (bv true) (gdV w_10 v65) λv73=>
 cn Z7 [v67,v73] s_10 λv74 s_11=>
 bn Q1 .add v74 (sv [32]) λv75=>
 gA Q6 c4 λv76=>
 cn Qv [v76,(iv 9)] s_11 λv77 s_12=>
 bn Q1 .add v75 v77 λv78=>
 some (.ret v78,s_12)) (
 gA Q6 c1 λv79=>
 ca Zz [v79] s λv80 s_13=>
 bn Q2 .eql v80 (iv 5) λv82=>
 condS v82 (
 gA Q6 c3 λv83=>
 cn Qv [v83,(iv 6)] s_13 λv84 s_14=>
 gC Q2 3 c1 λv86=>
 cn Q6D [v86] s_14 λv87 s_15=>
 bn Q1 .add v84 v87 λv88=>
 gA Q6 c4 λv89=>
 cn Qv [v89,(iv 6)] s_15 λv90 s_16=>
 bn Q1 .add v88 v90 λv91=>
 some (.ret v91,s_16)) (
 gA Q6 c3 λv92=>
 cn Qv [v92,v80] s_13 λv94 s_17=>
 gC Q2 3 c1 λv96=>
 cn Q6D [v96] s_17 λv97 s_18=>
 bn Q1 .add v94 v97 λv98=>
 gA Q6 c4 λv99=>
 nx v80 λv101=>
 cn Qv [v99,v101] s_18 λv102 s_19=>
 bn Q1 .add v98 v102 λv103=>
 some (.ret v103,s_19)))))):=(Q5 _ _ _).trans (by kernel_rfl)
theorem QcG(a0:AV)(s:St):cw (.f Q5k) [a0] s =
 bx Qq (.val a0) λc1=>
 bindA (avs c1) λl1=>
 bind1 (fnS Q3Z [(.val (.cp l1))]) λv3=>
 some (.ret v3,s):=(Q5 _ _ _).trans (by kernel_rfl)
theorem Qa1(a0:AV)(s:St):cw (.f Q3o) [a0] s =
 ld Qq s (.val a0) λv2=>
 ca Q02 [v2] s λv3 s_1=>
 some (.ret v3,s_1):=(Q5 _ _ _).trans (by kernel_rfl)
noncomputable def Q1l:Slot→Slot→Slot→Slot→St→Res:=λx3 x7 x8 x9 s=>lpD Q02 [.seqR,.seqR,.seqL,.seqR,.block] Tryz.f70 [(3,.s x3),(7,.s x7),(8,.s x8),(9,.s x9)] s
theorem Q67:∀ x3 x7 x8 x9 s_1,Q1l x3 x7 x8 x9 s_1 =
 bn Q2 .lss x9 x8 λv10=>
 condS v10 (
 ix Qq x7 x9 λv11=>
 ld Qq s_1 v11 λv12=>
 bx Qq v12 λc=>
 pZ Qq c λc5=>
 gA Qq c5 λv14=>
 ca Q02 [v14] s_1 λv15 s_2=>
 bind1 (max2 x3 v15) λv16=>
 nx x9 λv17=>
 Q1l v16 x7 x8 v17 s_2) (
 nx x3 λv19=>
 some (.ret v19,s_1)):=by intros;unfold Q1l;exact (Qb _ _ _ _ _ _).trans (by kernel_rfl)
theorem QcF(a0:AV)(s:St):cw (.f Q02) [a0] s =
 bx Qq (.val a0) λc1=>
 gC Qp 4 c1 λv7=>
 ln Qp v7 λv8=>
 Q1l (iv 0) v7 v8 (iv 0) s:=(Q5 _ _ _).trans (by kernel_rfl)
noncomputable def Zh:Slot→Slot→Slot→St→Res:=λx1 x5 x6 s=>pwD Q1D [.seqR,.seqR,.seqR] Tryz.f71 [(1,.s x1),(5,.s x5),(6,.s x6)] s
theorem Qby:∀ x1 x5 x6 s_3,Zh x1 x5 x6 s_3 =
 bn Q2 .lss x5 x1 λv63=>
 condS v63 (
 ca Zm [x6] s_3 λv65 s_4=>
 some (.ret v65,s_4)) (
 some (.ret x6,s_3)):=by intros;unfold Zh;exact (QX _).trans (by kernel_rfl)
theorem Qf8(a0:AV)(a1:AV)(s:St):cw (.f Q1D) [a0,a1] s =
 bx Qq (.val a0) λc2=>
 bindA (avs c2) λl2=>
 bs Q1 [(sv [95])] λv7=>
 ca Qj [v7] s λv8 s_1=>
 fa 0 (.val (.cp l2)) λv9=>
 ld Qd s_1 v9 λv10=>
 bn Qd .eql v10 (iv 2) λv12=>
 condS v12 (
 fa 2 (.val (.cp l2)) λv13=>
 ld Q1 s_1 v13 λv14=>
 bs Q1 [v14] λv15=>
 ca Qj [v15] s_1 λv16 s_2=>
 Zh (.val a1) (iv 2) v16 s_2) (
 bn Qd .eql v10 (iv 3) λv18=>
 condS v18 (
 fa 3 (.val (.cp l2)) λv19=>
 ld Q2 s_1 v19 λv20=>
 ca Q3R [v20] s_1 λv21 s_5=>
 Zh (.val a1) (iv 2) v21 s_5) (
 bn Qd .eql v10 (iv 4) λv23=>
 condS v23 (
 fa 2 (.val (.cp l2)) λv24=>
 ld Q1 s_1 v24 λv25=>
 bs Q1 [v25] λv26=>
 ca Qj [v26] s_1 λv27 s_6=>
 fa 4 (.val (.cp l2)) λv28=>
 ld Qp s_6 v28 λv29=>
 ln Qp v29 λv30=>
 bn Q2 .gtr v30 (iv 0) λv31=>
 condS v31 (
 fa 4 (.val (.cp l2)) λv33=>
 ld Qp s_6 v33 λv34=>
 ix Qq v34 (iv 0) λv35=>
 ld Qq s_6 v35 λv36=>
 ca Q1D [v36,(iv 2)] s_6 λv37 s_7=>
 bs Qe [v27,v37] λv38=>
 ca Qm [v38] s_7 λv39 s_8=>
 Zh (.val a1) (iv 1) v39 s_8) (
 Zh (.val a1) (iv 2) v27 s_6)) (
 bn Qd .eql v10 (iv 5) λv41=>
 condS v41 (
 fa 4 (.val (.cp l2)) λv42=>
 ld Qp s_1 v42 λv43=>
 ln Qp v43 λv44=>
 bind1 (fnS Q1E [(.val (.cp l2))]) λv45=>
 ca QT [(sv [44]),v44,v45] s_1 λv46 s_9=>
 ca Zm [v46] s_9 λv47 s_10=>
 Zh (.val a1) (iv 2) v47 s_10) (
 bn Qd .eql v10 (iv 6) λv49=>
 condS v49 (
 fa 2 (.val (.cp l2)) λv50=>
 bind1 (ldV (C.ti Q1) true s_1 v50) λv51=>
 bs Q1 [v51,(sv [97,115])] λv52=>
 cn Qj [v52] s_1 λv53 s_11=>
 fa 4 (.val (.cp l2)) λv54=>
 bind1 (ldV (C.ti Qp) true s_11 v54) λv55=>
 ix Qq v55 (iv 0) λv56=>
 bind1 (ldV (C.ti Qq) true s_11 v56) λv57=>
 cn Q29 [v57] s_11 λv58 s_12=>
 bs Qe [v53,v58] λv59=>
 cn Qm [v59] s_12 λv60 s_13=>
 Zh (.val a1) (iv 0) v60 s_13) (
 Zh (.val a1) (iv 2) v8 s_1))))):=(Q5 _ _ _).trans (by kernel_rfl)
noncomputable def Q1U:List Slot→Slot→Slot→St→Res:=λx1 x3 x4 s=>lpD Q0X [.seqR,.seqR,.seqL,.seqR,.block] Tryz.f72 [(1,.var x1),(3,.s x3),(4,.s x4)] s
theorem Q6m:∀ x1 x3 x4 s_1,Q1U x1 x3 x4 s_1 =
 gC Qp 4 x1 λv12=>
 ln Qp v12 λv13=>
 bn Q2 .lss x4 v13 λv14=>
 condS v14 (
 gC Qp 4 x1 λv19=>
 ix Qq v19 x4 λv21=>
 ld Qq s_1 v21 λv22=>
 ca Q0X [v22] s_1 λv23 s_2=>
 ap Qc s_2 x3 v23 λv24 s_3=>
 nx x4 λv16=>
 Q1U x1 v24 v16 s_3) (
 some (.ret x3,s_1)):=by intros;unfold Q1U;exact (Qb _ _ _ _ _ _).trans (by kernel_rfl)
theorem Qdd(a0:AV)(s:St):cw (.f Q0X) [a0] s =
 bx Qq (.val a0) λc1=>
 gA Qq c1 λv5=>
 gC Q2 1 c1 λv7=>
 bd Qc [(0,Q2,(iv 3)),(17,Qq,v5),(2,Q2,v7)] λv8=>
 bs Qc [v8] λv9=>
 Q1U c1 v9 (iv 0) s:=(Q5 _ _ _).trans (by kernel_rfl)
noncomputable def Q0P:List Slot→Slot→Slot→St→Res:=λx1 x3 x4 s=>lpD Zk [.seqR,.seqR,.seqL,.seqR,.block] Tryz.f73 [(1,.var x1),(3,.s x3),(4,.s x4)] s
theorem Q54:∀ x1 x3 x4 s_1,Q0P x1 x3 x4 s_1 =
 gC Qp 4 x1 λv7=>
 ln Qp v7 λv8=>
 bn Q2 .lss x4 v8 λv9=>
 condS v9 (
 gC Qp 4 x1 λv14=>
 ix Qq v14 x4 λv16=>
 ld Qq s_1 v16 λv17=>
 ca Zk [v17] s_1 λv18 s_2=>
 bind1 (max2 x3 v18) λv19=>
 nx x4 λv11=>
 Q0P x1 v19 v11 s_2) (
 nx x3 λv21=>
 some (.ret v21,s_1)):=by intros;unfold Q0P;exact (Qb _ _ _ _ _ _).trans (by kernel_rfl)
theorem Qbp(a0:AV)(s:St):cw (.f Zk) [a0] s =
 bx Qq (.val a0) λc1=>
 Q0P c1 (iv 0) (iv 0) s:=(Q5 _ _ _).trans (by kernel_rfl)
theorem Qgx(a0:AV)(a1:AV)(s:St):cw (.f Q0y) [a0,a1] s =
 bx Qq (.val a0) λc2=>
 gA Qq c2 λv5=>
 cn Q14 [v5] s λv6 s_1=>
 gA Qq c2 λv7=>
 cn Q3Y [v7] s_1 λv8 s_2=>
 bn Q2 .lss v8 (.val a1) λv10=>
 cn Z7 [v6,v10] s_2 λv11 s_3=>
 some (.ret v11,s_3):=(Q5 _ _ _).trans (by kernel_rfl)
theorem Q4W(a0:AV)(a1:AV)(s:St):cw (.f ZZ) [a0,a1] s =
 ca ZJ [(.val a0),(.val a1)] s λv7 s_1=>
 bn Q2 .geq v7 (iv 0) λv8=>
 some (.ret v8,s_1):=(Q5 _ _ _).trans (by kernel_rfl)
theorem Qdy(a0:AV)(a1:AV)(s:St):cw (.f Q0Y) [a0,a1] s =
 bx Qu (.val a0) λc2=>
 gA Qu c2 λv4=>
 ld Q3e s (.val a1) λv5=>
 ca Q2u [v4,v5] s λv6 s_1=>
 nt v6 λv7=>
 some (.ret v7,s_1):=(Q5 _ _ _).trans (by kernel_rfl)
theorem Qbz(a0:AV)(s:St):cw (.f Q2H) [a0] s =
 bn Q2 .rem (.val a0) (iv 26) λv5=>
 bn Q2 .add (iv 97) v5 λv6=>
 bind1 (convS (C.ti Q2) (C.ti Q1I) v6) λv7=>
 bind1 (convS (C.ti Q1I) (C.ti Q1) v7) λv8=>
 bn Q1 .add (sv [39]) v8 λv9=>
 bn Q2 .gtr (.val a0) (iv 25) λv11=>
 condS v11 (
 bn Q2 .quo (.val a0) (iv 26) λv14=>
 ca Q4m [v14] s λv15 s_1=>
 bn Q1 .add v9 v15 λv16=>
 some (.ret v16,s_1)) (
 some (.ret v9,s)):=(Q5 _ _ _).trans (by kernel_rfl)
theorem Qf6(a0:AV)(a1:AV)(s:St):cw (.f Q2P) [a0,a1] s =
 fa 3 (.val a1) λv4=>
 ld Ql s v4 λv5=>
 ix Qu v5 (.val a0) λv7=>
 ld Qu s v7 λv8=>
 ca Q06 [v8,(iv 2)] s λv9 s_1=>
 some (.ret v9,s_1):=(Q5 _ _ _).trans (by kernel_rfl)
theorem Qf7(a0:AV)(a1:AV)(s:St):cw (.f Q2Q) [a0,a1] s =
 fa 3 (.val a1) λv4=>
 ld Ql s v4 λv5=>
 ix Qu v5 (.val a0) λv7=>
 ld Qu s v7 λv8=>
 ca Q06 [v8,(iv 0)] s λv9 s_1=>
 some (.ret v9,s_1):=(Q5 _ _ _).trans (by kernel_rfl)
theorem Qgu(a0:AV)(s:St):cw (.f Q3v) [a0] s =
 bn Q2 .rem (.val a0) (iv 26) λv5=>
 bn Q2 .add (iv 97) v5 λv6=>
 bind1 (convS (C.ti Q2) (C.ti Qg) v6) λv7=>
 bs Qg [v7] λv8=>
 bind1 (convS (C.ti QM) (C.ti Q1) v8 (C.ti Qg).k) λv9=>
 bn Q2 .gtr (.val a0) (iv 25) λv11=>
 condS v11 (
 bn Q2 .quo (.val a0) (iv 26) λv14=>
 ca Q0J [v14] s λv15 s_1=>
 bn Q1 .add v9 v15 λv16=>
 some (.ret v16,s_1)) (
 some (.ret v9,s)):=(Q5 _ _ _).trans (by kernel_rfl)
theorem Qhl(a0:AV)(a1:AV)(s:St):cw (.f Q28) [a0,a1] s =
 bx Qu (.val a0) λc2=>
 gA Qu c2 λv5=>
 cn ZE [v5] s λv6 s_1=>
 gA Qu c2 λv7=>
 cn Q4q [v7] s_1 λv8 s_2=>
 bn Q2 .lss v8 (.val a1) λv10=>
 cn Z7 [v6,v10] s_2 λv11 s_3=>
 some (.ret v11,s_3):=(Q5 _ _ _).trans (by kernel_rfl)
theorem QcH(a0:AV)(s:St):cw (.f Q5l) [a0] s =
 bx Qw (.val a0) λc1=>
 bindA (avs c1) λl1=>
 bind1 (fnS Q40 [(.val (.cp l1))]) λv3=>
 some (.ret v3,s):=(Q5 _ _ _).trans (by kernel_rfl)
theorem QcA(a0:AV)(s:St):cw (.f Q5j) [a0] s =
 ld Qw s (.val a0) λv2=>
 ca Zp [v2] s λv3 s_1=>
 some (.ret v3,s_1):=(Q5 _ _ _).trans (by kernel_rfl)
noncomputable def Q05:Slot→Slot→Slot→Slot→Slot→Slot→Slot→Slot→St→Res:=λx3_2 x6_1 x11_2 x12_2 x13_2 x35 x36 x37 s=>lpD Zp [.seqR,.seqR,.seqL,.seqR,.block,.loop,.seqR,.seqR,.seqL,.block,.seqR,.seqR,.seqR,.seqL,.seqR,.block] Tryz.f86 [(3,.s x3_2),(6,.s x6_1),(11,.s x11_2),(12,.s x12_2),(13,.s x13_2),(35,.s x35),(36,.s x36),(37,.s x37)] s
noncomputable def Q0W:Slot→List Slot→Slot→Slot→Slot→Slot→Slot→Slot→Slot→St→Res:=λx3_1 x5 x6 x11_1 x12_1 x13_1 x21 x22 x23 s=>lpD Zp [.seqR,.seqR,.seqL,.seqR,.block,.loop,.seqR,.seqR,.seqL,.block,.seqR,.seqR,.seqL,.seqR,.block] Tryz.f86 [(3,.s x3_1),(5,.var x5),(6,.s x6),(11,.s x11_1),(12,.s x12_1),(13,.s x13_1),(21,.s x21),(22,.s x22),(23,.s x23)] s
noncomputable def ZD:Slot→Slot→Slot→Slot→St→Res:=λx3 x11 x12 x13 s=>lpD Zp [.seqR,.seqR,.seqL,.seqR,.block] Tryz.f86 [(3,.s x3),(11,.s x11),(12,.s x12),(13,.s x13)] s
theorem Q5c:∀ x3_2 x6_1 x11_2 x12_2 x13_2 x35 x36 x37 s_5,Q05 x3_2 x6_1 x11_2 x12_2 x13_2 x35 x36 x37 s_5 =
 bn Q2 .lss x37 x36 λv38=>
 condS v38 (
 ix Z1 x35 x37 λv39=>
 ld Z1 s_5 v39 λv40=>
 bx Z1 v40 λc_2=>
 pZ Z1 c_2 λc10=>
 gC Qy 2 c10 λv42=>
 condS v42 (
 gC Qu 3 c10 λv45=>
 ca Q0Z [v45] s_5 λv46 s_6=>
 bind1 (max2 x6_1 v46) λv47=>
 nx x37 λv48=>
 Q05 x3_2 v47 x11_2 x12_2 x13_2 x35 x36 v48 s_6) (
 nx x37 λv48_1=>
 Q05 x3_2 x6_1 x11_2 x12_2 x13_2 x35 x36 v48_1 s_5)) (
 nx x6_1 λv51=>
 bind1 (max2 x3_2 v51) λv52=>
 nx x13_2 λv53=>
 ZD v52 x11_2 x12_2 v53 s_5):=by intros;unfold Q05;exact (Qb _ _ _ _ _ _).trans (by kernel_rfl)
theorem Q5b:∀ x3_1 x5 x6 x11_1 x12_1 x13_1 x21 x22 x23 s_3,Q0W x3_1 x5 x6 x11_1 x12_1 x13_1 x21 x22 x23 s_3 =
 bn Q2 .lss x23 x22 λv24=>
 condS v24 (
 ix Za x21 x23 λv25=>
 ld Za s_3 v25 λv26=>
 bx Za v26 λc_1=>
 pZ Za c_1 λc8=>
 gC QA 2 c8 λv29=>
 bs QA [v29] λv30=>
 ca ZC [v30] s_3 λv31 s_4=>
 bind1 (max2 x6 v31) λv32=>
 nx x23 λv33=>
 Q0W x3_1 x5 v32 x11_1 x12_1 x13_1 x21 x22 v33 s_4) (
 gC Qx 4 x5 λv35=>
 ln Qx v35 λv36=>
 Q05 x3_1 x6 x11_1 x12_1 x13_1 v35 v36 (iv 0) s_3):=by intros;unfold Q0W;exact (Qb _ _ _ _ _ _).trans (by kernel_rfl)
theorem Q5a:∀ x3 x11 x12 x13 s_1,ZD x3 x11 x12 x13 s_1 =
 bn Q2 .lss x13 x12 λv14=>
 condS v14 (
 ix QB x11 x13 λv15=>
 ld QB s_1 v15 λv16=>
 bx QB v16 λc=>
 pZ QB c λc5=>
 gC Q8 5 c5 λv18=>
 ca ZC [v18] s_1 λv19 s_2=>
 gC Qz 6 c5 λv21=>
 ln Qz v21 λv22=>
 Q0W x3 c5 v19 x11 x12 x13 v21 v22 (iv 0) s_2) (
 some (.ret x3,s_1)):=by intros;unfold ZD;exact (Qb _ _ _ _ _ _).trans (by kernel_rfl)
theorem Q7l(a0:AV)(s:St):cw (.f Zp) [a0] s =
 ln Qw (.val a0) λv12=>
 ZD (iv 0) (.val a0) v12 (iv 0) s:=(Q5 _ _ _).trans (by kernel_rfl)
theorem Qf1(a0:AV)(a1:AV)(s:St):cw (.f Q4r) [a0,a1] s =
 fa 6 (.val a1) λv5=>
 ld Qz s v5 λv6=>
 ix Za v6 (.val a0) λv8=>
 ld Za s v8 λv9=>
 bx Za v9 λc=>
 pZ Za c λc4=>
 gC Q1 0 c4 λv11=>
 bs Q1 [v11] λv12=>
 cn Qj [v12] s λv13 s_1=>
 gC Qq 2 c4 λv16=>
 cn Q1D [v16,(iv 2)] s_1 λv17 s_2=>
 bs Q1 [(sv [61])] λv18=>
 cn Qj [v18] s_2 λv19 s_3=>
 gC Q6 7 c4 λv22=>
 cn ZA [v22] s_3 λv23 s_4=>
 bs Qe [v13,v17,v19,v23] λv24=>
 cn Qm [v24] s_4 λv25 s_5=>
 some (.ret v25,s_5):=(Q5 _ _ _).trans (by kernel_rfl)
theorem Qhp(a0:AV)(s:St):cw (.f Q6E) [a0] s =
 bx Z1 (.val a0) λc1=>
 gC Qy 2 c1 λv4=>
 nt v4 λv5=>
 condS v5 (
 gC Q1 0 c1 λv7=>
 bs Q1 [v7] λv8=>
 ca Qj [v8] s λv9 s_1=>
 some (.ret v9,s_1)) (
 gC Q1 0 c1 λv11=>
 bs Q1 [v11,(sv [111,102])] λv12=>
 cn Qj [v12] s λv13 s_2=>
 gC Qu 3 c1 λv15=>
 cn Q06 [v15,(iv 0)] s_2 λv16 s_3=>
 bs Qe [v13,v16] λv17=>
 cn Qm [v17] s_3 λv18 s_4=>
 some (.ret v18,s_4)):=(Q5 _ _ _).trans (by kernel_rfl)
theorem Qf2(a0:AV)(s:St):cw (.f Q4s) [a0] s =
 ca Q2H [(.val a0)] s λv4 s_1=>
 bs Q1 [v4] λv5=>
 ca Qj [v5] s_1 λv6 s_2=>
 some (.ret v6,s_2):=(Q5 _ _ _).trans (by kernel_rfl)
theorem Qf3(a0:AV)(a1:AV)(s:St):cw (.f Q4t) [a0,a1] s =
 fa 4 (.val a1) λv4=>
 ld Qx s v4 λv5=>
 ix Z1 v5 (.val a0) λv7=>
 ld Z1 s v7 λv8=>
 ca Q6E [v8] s λv9 s_1=>
 some (.ret v9,s_1):=(Q5 _ _ _).trans (by kernel_rfl)
noncomputable def Q3z:Slot→Slot→Slot→St→Res:=λx0 x3 x4 s=>lpD Q6C [.seqR,.seqR,.seqL,.seqR,.block] Tryz.f92 [(0,.s x0),(3,.s x3),(4,.s x4)] s
theorem Q8e:∀ x0 x3 x4 s_1,Q3z x0 x3 x4 s_1 =
 ln Qw x0 λv7=>
 bn Q2 .lss x4 v7 λv8=>
 condS v8 (
 ix QB x0 x4 λv14=>
 ld QB s_1 v14 λv15=>
 ca Q0m [v15,(bv false)] s_1 λv16 s_2=>
 ap Qc s_2 x3 v16 λv17 s_3=>
 nx x4 λv10=>
 Q3z x0 v17 v10 s_3) (
 some (.ret x3,s_1)):=by intros;unfold Q3z;exact (Qb _ _ _ _ _ _).trans (by kernel_rfl)
theorem Qhh(a0:AV)(s:St):cw (.f Q6C) [a0] s =
 Q3z (.val a0) (.val (.nils)) (iv 0) s:=(Q5 _ _ _).trans (by kernel_rfl)
noncomputable def Q12:Slot→Slot→Slot→Slot→Slot→St→Res:=λx0_3 x3_3 x4_3 x5_2 x8 s=>lpD ZK [.seqR,.seqR,.seqL,.seqR,.block,.loop,.seqR,.seqL,.block,.seqR,.seqR,.seqR,.seqL,.seqR,.block] Tryz.f93 [(0,.s x0_3),(3,.s x3_3),(4,.s x4_3),(5,.s x5_2),(8,.s x8)] s
noncomputable def Q2o:Slot→Slot→Slot→Slot→Slot→St→Res:=λx0_2 x3_2 x4_2 x5_1 x7 s=>lpD ZK [.seqR,.seqR,.seqL,.seqR,.block,.loop,.seqR,.seqL,.block,.seqR,.seqR,.seqL,.seqR,.block] Tryz.f93 [(0,.s x0_2),(3,.s x3_2),(4,.s x4_2),(5,.s x5_1),(7,.s x7)] s
noncomputable def Q2n:Slot→Slot→Slot→Slot→Slot→St→Res:=λx0_1 x3_1 x4_1 x5 x6 s=>lpD ZK [.seqR,.seqR,.seqL,.seqR,.block,.loop,.seqR,.seqL,.block,.seqR,.seqL,.seqR,.block] Tryz.f93 [(0,.s x0_1),(3,.s x3_1),(4,.s x4_1),(5,.s x5),(6,.s x6)] s
noncomputable def ZT:Slot→Slot→Slot→St→Res:=λx0 x3 x4 s=>lpD ZK [.seqR,.seqR,.seqL,.seqR,.block] Tryz.f93 [(0,.s x0),(3,.s x3),(4,.s x4)] s
theorem Q78:∀ x0_3 x3_3 x4_3 x5_2 x8 s_8,Q12 x0_3 x3_3 x4_3 x5_2 x8 s_8 =
 ix QB x0_3 x4_3 λv84=>
 fa 4 v84 λv85=>
 ld Qx s_8 v85 λv86=>
 ln Qx v86 λv87=>
 bn Q2 .lss x8 v87 λv88=>
 condS v88 (
 ix QB x0_3 x4_3 λv93=>
 fa 4 v93 λv94=>
 ld Qx s_8 v94 λv95=>
 ix Z1 v95 x8 λv97=>
 fa 2 v97 λv98=>
 ld Qy s_8 v98 λv99=>
 condS v99 (
 ix QB x0_3 x4_3 λv103=>
 fa 4 v103 λv104=>
 ld Qx s_8 v104 λv105=>
 ix Z1 v105 x8 λv107=>
 fa 3 v107 λv108=>
 ld Qu s_8 v108 λv109=>
 ca Q0E [v109] s_8 λv110 s_9=>
 bind1 (max2 x5_2 v110) λv111=>
 nx x8 λv90=>
 Q12 x0_3 x3_3 x4_3 v111 v90 s_9) (
 nx x8 λv90_1=>
 Q12 x0_3 x3_3 x4_3 x5_2 v90_1 s_8)) (
 nx x5_2 λv114=>
 bind1 (max2 x3_3 v114) λv115=>
 nx x4_3 λv14=>
 ZT x0_3 v115 v14 s_8):=by intros;unfold Q12;exact (Qb _ _ _ _ _ _).trans (by kernel_rfl)
theorem Q77:∀ x0_2 x3_2 x4_2 x5_1 x7 s_5,Q2o x0_2 x3_2 x4_2 x5_1 x7 s_5 =
 ix QB x0_2 x4_2 λv50=>
 fa 6 v50 λv51=>
 ld Qz s_5 v51 λv52=>
 ln Qz v52 λv53=>
 bn Q2 .lss x7 v53 λv54=>
 condS v54 (
 ix QB x0_2 x4_2 λv60=>
 fa 6 v60 λv61=>
 bind1 (ldV (C.ti Qz) true s_5 v61) λv62=>
 ix Za v62 x7 λv64=>
 fa 2 v64 λv65=>
 fa 0 v65 λv66=>
 bind1 (ldV (C.ti Qq) true s_5 v66) λv67=>
 cn Zk [v67] s_5 λv68 s_6=>
 ix QB x0_2 x4_2 λv71=>
 fa 6 v71 λv72=>
 bind1 (ldV (C.ti Qz) true s_6 v72) λv73=>
 ix Za v73 x7 λv75=>
 fa 2 v75 λv76=>
 fa 5 v76 λv77=>
 bind1 (ldV (C.ti Q6) true s_6 v77) λv78=>
 cn Zj [v78] s_6 λv79 s_7=>
 bind1 (max3 x5_1 v68 v79) λv80=>
 nx x7 λv56=>
 Q2o x0_2 x3_2 x4_2 v80 v56 s_7) (
 Q12 x0_2 x3_2 x4_2 x5_1 (iv 0) s_5):=by intros;unfold Q2o;exact (Qb _ _ _ _ _ _).trans (by kernel_rfl)
theorem Q76:∀ x0_1 x3_1 x4_1 x5 x6 s_2,Q2n x0_1 x3_1 x4_1 x5 x6 s_2 =
 ix QB x0_1 x4_1 λv18=>
 fa 5 v18 λv19=>
 ld Q8 s_2 v19 λv20=>
 ln Q8 v20 λv21=>
 bn Q2 .lss x6 v21 λv22=>
 condS v22 (
 ix QB x0_1 x4_1 λv28=>
 fa 5 v28 λv29=>
 bind1 (ldV (C.ti Q8) true s_2 v29) λv30=>
 ix QA v30 x6 λv32=>
 fa 0 v32 λv33=>
 bind1 (ldV (C.ti Qq) true s_2 v33) λv34=>
 cn Zk [v34] s_2 λv35 s_3=>
 ix QB x0_1 x4_1 λv38=>
 fa 5 v38 λv39=>
 bind1 (ldV (C.ti Q8) true s_3 v39) λv40=>
 ix QA v40 x6 λv42=>
 fa 5 v42 λv43=>
 bind1 (ldV (C.ti Q6) true s_3 v43) λv44=>
 cn Zj [v44] s_3 λv45 s_4=>
 bind1 (max3 x5 v35 v45) λv46=>
 nx x6 λv24=>
 Q2n x0_1 x3_1 x4_1 v46 v24 s_4) (
 Q2o x0_1 x3_1 x4_1 x5 (iv 0) s_2):=by intros;unfold Q2n;exact (Qb _ _ _ _ _ _).trans (by kernel_rfl)
theorem Q75:∀ x0 x3 x4 s_1,ZT x0 x3 x4 s_1 =
 ln Qw x0 λv11=>
 bn Q2 .lss x4 v11 λv12=>
 condS v12 (
 Q2n x0 x3 x4 (iv 0) (iv 0) s_1) (
 some (.ret x3,s_1)):=by intros;unfold ZT;exact (Qb _ _ _ _ _ _).trans (by kernel_rfl)
theorem Q9d(a0:AV)(s:St):cw (.f ZK) [a0] s =
 ZT (.val a0) (iv 0) (iv 0) s:=(Q5 _ _ _).trans (by kernel_rfl)
noncomputable def Q4K:List Slot→Slot→Slot→Slot→Slot→St→Res:=λx1_1 x3_1 x4 x44_1 x45_1 s=>pwD Q1n [.seqR,.seqR,.seqR,.seqL,.seqR,.block,.loop,.seqR,.seqR,.seqL,.block,.seqR,.seqR] Tryz.f94 [(1,.var x1_1),(3,.s x3_1),(4,.s x4),(44,.s x44_1),(45,.s x45_1)] s
noncomputable def Q2Z:List Slot→Slot→Slot→Slot→Slot→St→Res:=λx1_3 x3_3 x5 x67_1 x68_1 s=>pwD Q1n [.seqR,.seqR,.seqR,.seqR,.seqR,.seqR,.seqL,.seqR,.block,.loop,.seqR,.seqR,.seqL,.block,.seqR,.seqR] Tryz.f94 [(1,.var x1_3),(3,.s x3_3),(5,.s x5),(67,.s x67_1),(68,.s x68_1)] s
noncomputable def Q20:List Slot→Slot→Slot→Slot→St→Res:=λx1_2 x3_2 x67 x68 s=>lpD Q1n [.seqR,.seqR,.seqR,.seqR,.seqR,.seqR,.seqL,.seqR,.block] Tryz.f94 [(1,.var x1_2),(3,.s x3_2),(67,.s x67),(68,.s x68)] s
noncomputable def Q30:List Slot→Slot→Slot→Slot→St→Res:=λx1 x3 x44 x45 s=>lpD Q1n [.seqR,.seqR,.seqR,.seqL,.seqR,.block] Tryz.f94 [(1,.var x1),(3,.s x3),(44,.s x44),(45,.s x45)] s
theorem Q7C:∀ x1_1 x3_1 x4 x44_1 x45_1 s_6,Q4K x1_1 x3_1 x4 x44_1 x45_1 s_6 =
 gC Qx 4 x1_1 λv54=>
 ix Z1 v54 x4 λv56=>
 ld Z1 s_6 v56 λv57=>
 ca Q5B [v57] s_6 λv58 s_7=>
 bn Q1 .add x3_1 v58 λv59=>
 nx x45_1 λv60=>
 Q30 x1_1 v59 x44_1 v60 s_7:=by intros;unfold Q4K;exact (QX _).trans (by kernel_rfl)
theorem Qch:∀ x1_3 x3_3 x5 x67_1 x68_1 s_9,Q2Z x1_3 x3_3 x5 x67_1 x68_1 s_9 =
 gC Qz 6 x1_3 λv76=>
 ix Za v76 x5 λv78=>
 ld Za s_9 v78 λv79=>
 bx Za v79 λc=>
 pZ Za c λc6=>
 gC Q1 0 c6 λv82=>
 bn Q1 .add x3_3 v82 λv83=>
 bn Q1 .add v83 (sv [32]) λv84=>
 gC Qq 2 c6 λv87=>
 cn Q0y [v87,(iv 2)] s_9 λv88 s_10=>
 bn Q1 .add v84 v88 λv89=>
 bn Q1 .add v89 (sv [32,61,32]) λv90=>
 gC Q6 7 c6 λv93=>
 cn Qv [v93,(iv 0)] s_10 λv94 s_11=>
 bn Q1 .add v90 v94 λv95=>
 nx x68_1 λv96=>
 Q20 x1_3 v95 x67_1 v96 s_11:=by intros;unfold Q2Z;exact (QX _).trans (by kernel_rfl)
theorem Q7E:∀ x1_2 x3_2 x67 x68 s_8,Q20 x1_2 x3_2 x67 x68 s_8 =
 bn Q2 .lss x68 x67 λv69=>
 condS v69 (
 bn Q2 .gtr x68 (iv 0) λv72=>
 condS v72 (
 bn Q1 .add x3_2 (sv [32,97,110,100,32]) λv74=>
 Q2Z x1_2 v74 x68 x67 x68 s_8) (
 Q2Z x1_2 x3_2 x68 x67 x68 s_8)) (
 some (.ret x3_2,s_8)):=by intros;unfold Q20;exact (Qb _ _ _ _ _ _).trans (by kernel_rfl)
theorem Q7D:∀ x1 x3 x44 x45 s_5,Q30 x1 x3 x44 x45 s_5 =
 bn Q2 .lss x45 x44 λv46=>
 condS v46 (
 bn Q2 .gtr x45 (iv 0) λv49=>
 condS v49 (
 bn Q1 .add x3 (sv [32,124,32]) λv51=>
 Q4K x1 v51 x45 x44 x45 s_5) (
 Q4K x1 x3 x45 x44 x45 s_5)) (
 gC Qr 0 x1 λv62=>
 bn Qr .eql v62 (iv 3) λv63=>
 condS v63 (
 some (.ret x3,s_5)) (
 gC Qz 6 x1 λv66=>
 ln Qz v66 λv67=>
 Q20 x1 (sv [102,117,110,32]) v67 (iv 0) s_5)):=by intros;unfold Q30;exact (Qb _ _ _ _ _ _).trans (by kernel_rfl)
theorem Q4J(a0:AV)(s:St):cw (.f Q1n) [a0] s =
 bx QB (.val a0) λc1=>
 gC Qr 0 c1 λv8=>
 bn Qr .eql v8 (iv 1) λv10=>
 condS v10 (
 gC Q8 5 c1 λv12=>
 ix QA v12 (iv 0) λv13=>
 fa 0 v13 λv14=>
 bind1 (ldV (C.ti Qq) true s v14) λv15=>
 cn Q0y [v15,(iv 0)] s λv16 s_1=>
 bn Q1 .add (sv [118,97,108,32]) v16 λv17=>
 bn Q1 .add v17 (sv [32,61,32]) λv18=>
 gC Q8 5 c1 λv20=>
 ix QA v20 (iv 0) λv21=>
 fa 5 v21 λv22=>
 bind1 (ldV (C.ti Q6) true s_1 v22) λv23=>
 cn Qv [v23,(iv 0)] s_1 λv24 s_2=>
 bn Q1 .add v18 v24 λv25=>
 some (.ret v25,s_2)) (
 bn Qr .eql v8 (iv 4) λv27=>
 condS v27 (
 gC Qx 4 c1 λv29=>
 ix Z1 v29 (iv 0) λv30=>
 ld Z1 s v30 λv31=>
 ca Q5B [v31] s λv32 s_3=>
 bn Q1 .add (sv [101,120,99,101,112,116,105,111,110,32]) v32 λv33=>
 some (.ret v33,s_3)) (
 gC Q2 3 c1 λv35=>
 cn Q3a [v35] s λv36 s_4=>
 bn Q1 .add (sv [100,97,116,97,116,121,112,101,32]) v36 λv37=>
 gC Q1 2 c1 λv39=>
 bn Q1 .add v37 v39 λv40=>
 bn Q1 .add v40 (sv [32,61,32]) λv41=>
 gC Qx 4 c1 λv43=>
 ln Qx v43 λv44=>
 Q30 c1 v41 v44 (iv 0) s_4)):=(Q5 _ _ _).trans (by kernel_rfl)
noncomputable def Q6e(x3:Slot)(x5:Slot):Am.Obj:=.loop .ready none Q4w [(3,.s x3),(5,.s x5)] [8] (rngAsg (codeAt [.seqR,.seqR,.seqL,.seqR,.block] (body Tryz.f95))) (rngBody (codeAt [.seqR,.seqR,.seqL,.seqR,.block] (body Tryz.f95)))
theorem QbE(x3:Slot)(x5:Slot)(y8:AV)(loc:Nat)(s_2:St):yldR C (Q6e x3 x5) loc [y8] s_2=noPan (
 bx Z2 (.val y8) λc_1=>
 pZ Z2 c_1 λc6=>
 bindS (beginL loc s_2) λs_3=>
 gA Z2 c6 λv9=>
 ca Q3q [v9] s_3 λv10 s_4=>
 condS v10 (
 ld Q2 s_4 x5 λv11=>
 nx v11 λv12=>
 bx Q2 v12 λc_2=>
 sto s_4 x5 c_2 λs_5=>
 ld Q2 s_5 x5 λv13=>
 ld Q2 s_5 x3 λv14=>
 bn Q2 .geq v13 v14 λv15=>
 condS v15 (
 bindS (setLoop loc .done (some (.exit 0)) s_5) λs_6=>
 some (.ret (bv false),s_6)) (
 bindS (setLoop loc .ready none s_5) λs_7=>
 some (.ret (bv true),s_7))) (
 ld Q2 s_4 x5 λv13_1=>
 ld Q2 s_4 x3 λv14_1=>
 bn Q2 .geq v13_1 v14_1 λv15_1=>
 condS v15_1 (
 bindS (setLoop loc .done (some (.exit 0)) s_4) λs_8=>
 some (.ret (bv false),s_8)) (
 bindS (setLoop loc .ready none s_4) λs_9=>
 some (.ret (bv true),s_9)))):=by kernel_rfl
theorem Qfb(a0:AV)(a1:AV)(s:St):cw (.f Q4w) [a0,a1] s =
 bx Q2 (.val a1) λc3=>
 bindA (avs c3) λl3=>
 bx Q2 (iv 0) λc=>
 sto (St.addLoc s (.var (List.map .val (C.ti Q2).zero))) (.val (.vp s.locs.length 0)) c λs_1=>
 rangeC C cw (.val a0) s_1.locs.length (St.addLoc s_1 (Q6e (.val (.cp l3)) (.val (.vp s.locs.length 0)))) λs_10=>
 endX s_1.locs.length s_10 (λs_11=>
 ld Q2 s_11 (.val (.vp s.locs.length 0)) λv16=>
 some (.ret v16,s_11)) (λs_12=>
 some (.ret (iv 0),s_12)) (λj s_13=>
 bif Nat.beq j 0 then (
 ld Q2 s_13 (.val (.vp s.locs.length 0)) λv16_1=>
 some (.ret v16_1,s_13)) else (
(none:Res))):=(Q5 _ _ _).trans (by kernel_rfl)
noncomputable def QH:List Slot→List Slot→Slot→Slot→St→Res:=λx1 x2 x3 x4 s=>pwD Q16 [.seqR,.seqR,.seqR,.seqR] Tryz.f96 [(1,.var x1),(2,.var x2),(3,.s x3),(4,.s x4)] s
theorem Q83:∀ x1 x2 x3 x4 s_2,QH x1 x2 x3 x4 s_2 =
 bn QI .eql x3 (iv 0) λv82=>
 condS v82 (
 bd Qi [] λv83=>
 bx Qi v83 λc=>
 pt x2 0 c λc2=>
 gA Qi c2 λv=>some (.ret v,s_2)) (
 bn QI .neq x3 (iv 8) λv86=>
 condS v86 (
 gC Q2 7 x1 λv89=>
 bd Qi [(0,QI,x3),(1,Q2,v89),(2,Q1,(sv []))] λv91=>
 bx Qi v91 λc_1=>
 pt x2 0 c_1 λc2_1=>
 gA Qi c2_1 λv=>some (.ret v,s_2)) (
 gC Q2 7 x1 λv89_1=>
 bd Qi [(0,QI,x3),(1,Q2,v89_1),(2,Q1,x4)] λv91_1=>
 bx Qi v91_1 λc_2=>
 pt x2 0 c_2 λc2_2=>
 gA Qi c2_2 λv=>some (.ret v,s_2))):=by intros;unfold QH;exact (QX _).trans (by kernel_rfl)
theorem Q9l(a0:AV)(s:St):cw (.f Q16) [a0] s =
 bx Z2 (.val a0) λc1=>
 gC Q2w 0 c1 λv17=>
 bn Q2w .neq v17 (.val (.nilp)) λv18=>
 condS v18 (
 gA Z2 c1 λv19=>
 cn Q0g [v19] s λv20 s_1=>
 gC Q2w 0 c1 λv22=>
 bind1 (nilCheckV v22) λv23=>
 fa 2 v23 λv24=>
 bind1 (ldV (C.ti Q1) true s_1 v24) λv25=>
 QH c1 ((List.map .val (C.ti Qi).zero)) v20 v25 s_1) (
 gC Q1H 2 c1 λv28=>
 bn Q1H .neq v28 (.val (.nilp)) λv29=>
 condS v29 (
 gC Q1H 2 c1 λv31=>
 bind1 (nilCheckV v31) λv32=>
 fa 0 v32 λv33=>
 ld Q1 s v33 λv34=>
 ca Q2a [v34] s λv36 s_3=>
 nt v36 λv37=>
 condS v37 (
 QH c1 ((List.map .val (C.ti Qi).zero)) (iv 8) v34 s_3) (
 QH c1 ((List.map .val (C.ti Qi).zero)) (iv 0) v34 s_3)) (
 gC Q10 3 c1 λv40=>
 bn Q10 .neq v40 (.val (.nilp)) λv41=>
 condS v41 (
 gC Q10 3 c1 λv43=>
 bind1 (nilCheckV v43) λv44=>
 bind1 (ldV (C.ti Z1) true s v44) λv45=>
 cn Q4B [v45] s λv46 s_4=>
 gC Q10 3 c1 λv48=>
 bind1 (nilCheckV v48) λv49=>
 fa 0 v49 λv50=>
 bind1 (ldV (C.ti Q1) true s_4 v50) λv51=>
 QH c1 ((List.map .val (C.ti Qi).zero)) v46 v51 s_4) (
 gC Q2x 4 c1 λv54=>
 bn Q2x .neq v54 (.val (.nilp)) λv55=>
 condS v55 (
 gC Q2x 4 c1 λv57=>
 bind1 (nilCheckV v57) λv58=>
 bind1 (ldV (C.ti Q6) true s v58) λv59=>
 cn Q4C [v59] s λv60 s_5=>
 gC Q2x 4 c1 λv62=>
 bind1 (nilCheckV v62) λv63=>
 fa 2 v63 λv64=>
 bind1 (ldV (C.ti Q1) true s_5 v64) λv65=>
 QH c1 ((List.map .val (C.ti Qi).zero)) v60 v65 s_5) (
 gC Q2y 5 c1 λv68=>
 bn Q2y .neq v68 (.val (.nilp)) λv69=>
 condS v69 (
 gC Q2y 5 c1 λv71=>
 bind1 (nilCheckV v71) λv72=>
 bind1 (ldV (C.ti Qq) true s v72) λv73=>
 cn Q2I [v73] s λv74 s_6=>
 gC Q2y 5 c1 λv76=>
 bind1 (nilCheckV v76) λv77=>
 fa 2 v77 λv78=>
 bind1 (ldV (C.ti Q1) true s_6 v78) λv79=>
 QH c1 ((List.map .val (C.ti Qi).zero)) v74 v79 s_6) (
 gC Q5G 6 c1 λv6=>
 bind1 (nilCheckV v6) λv7=>
 bind1 (ldV (C.ti Qu) true s v7) λv8=>
 cn Q1G [v8] s λv9 s_7=>
 gC Q5G 6 c1 λv11=>
 bind1 (nilCheckV v11) λv12=>
 fa 2 v12 λv13=>
 bind1 (ldV (C.ti Q1) true s_7 v13) λv14=>
 QH c1 ((List.map .val (C.ti Qi).zero)) v9 v14 s_7))))):=(Q5 _ _ _).trans (by kernel_rfl)
theorem Q8U(a0:AV)(a1:AV)(s:St):cw (.f Q2C) [a0,a1] s =
 bd QC [(0,Qn,(.val a0))] λv4=>
 ca ZF [v4,(.val a1)] s λv5 s_1=>
 rt [] s_1:=(Q5 _ _ _).trans (by kernel_rfl)
noncomputable def ZW:Slot→List Slot→Slot→Slot→St→Res:=λx1 x2 x29 x30 s=>lpD ZF [.seqR,.seqR,.seqL,.seqR,.block] Tryz.f98 [(1,.s x1),(2,.var x2),(29,.s x29),(30,.s x30)] s
theorem Q3L:∀ x1 x2 x29 x30 s_3,ZW x1 x2 x29 x30 s_3 =
 bn Q2 .lss x30 x29 λv31=>
 condS v31 (
 gA QC x2 λv33=>
 bind1 (nilCheckV x1) λv35=>
 fa 4 v35 λv36=>
 ld Q7 s_3 v36 λv37=>
 ix Q6 v37 x30 λv39=>
 cn ZF [v33,v39] s_3 λv40 s_4=>
 nt v40 λv41=>
 condS v41 (
 some (.ret (bv false),s_4)) (
 nx x30 λv42=>
 ZW x1 x2 x29 v42 s_4)) (
 gA QC x2 λv43=>
 bind1 (nilCheckV x1) λv45=>
 fa 5 v45 λv46=>
 ld Q8 s_3 v46 λv47=>
 cn Zs [v43,v47] s_3 λv48 s_5=>
 some (.ret v48,s_5)):=by intros;unfold ZW;exact (Qb _ _ _ _ _ _).trans (by kernel_rfl)
theorem Q9m(a0:AV)(a1:AV)(s:St):cw (.f ZF) [a0,a1] s =
 bx QC (.val a0) λc2=>
 gC Qn 0 c2 λv7=>
 bind1 (nilCheckV (.val a1)) λv10=>
 fa 1 v10 λv11=>
 ld Q2 s v11 λv12=>
 bd Z2 [(4,Q2x,(.val a1)),(7,Q2,v12)] λv13=>
 back (noPan (cal cw true (tgtV v7 [v13]) s)) λv14 s_1=>
 nt v14 λv15=>
 iF v15 λw=>
 bind1 (gd w (ofSlots (C.ti QC) (List.take (C.ti QC).size c2))) λv17=>
 iF v15 λw_1=>
 iF v15 λw_2=>
 bind1 (gd w_2 (nilCheckV (gdV w_1 (.val a1)))) λv19=>
 iF v15 λw_3=>
 bind1 (gd w_3 (faV 6 v19)) λv20=>
 iF v15 λw_4=>
 bind1 (gd w_4 (ldV (C.ti Qw) false s_1 v20)) λv21=>
 iF v15 λw_5=>
 back (noPan (cal cw w_5 (tgtV (.val (.fn Zc [])) [v17,v21,(bv true)]) s_1)) λv22 s_2=>
 iF v15 λw_6=>
 gN w_6 v22 λv23=>
 pk v15 (bv true) v23 λv24=>
 condS v24 (
 some (.ret (bv false),s_2)) (
 bind1 (nilCheckV (.val a1)) λv26=>
 fa 4 v26 λv27=>
 ld Q7 s_2 v27 λv28=>
 ln Q7 v28 λv29=>
 ZW (.val a1) c2 v29 (iv 0) s_2):=(Q5 _ _ _).trans (by kernel_rfl)
noncomputable def Q0u:Slot→Slot→Slot→Slot→St→Res:=λx3 x6 x7 x8 s=>lpD ZC [.seqR,.seqR,.seqL,.seqR,.block] Tryz.f99 [(3,.s x3),(6,.s x6),(7,.s x7),(8,.s x8)] s
theorem Q4T:∀ x3 x6 x7 x8 s_1,Q0u x3 x6 x7 x8 s_1 =
 bn Q2 .lss x8 x7 λv9=>
 condS v9 (
 ix QA x6 x8 λv10=>
 ld QA s_1 v10 λv11=>
 bx QA v11 λc=>
 pZ QA c λc5=>
 gC Qq 0 c5 λv14=>
 cn Q02 [v14] s_1 λv15 s_2=>
 gC Q6 5 c5 λv17=>
 cn Q01 [v17] s_2 λv18 s_3=>
 bind1 (max3 x3 v15 v18) λv19=>
 nx x8 λv20=>
 Q0u v19 x6 x7 v20 s_3) (
 some (.ret x3,s_1)):=by intros;unfold Q0u;exact (Qb _ _ _ _ _ _).trans (by kernel_rfl)
theorem Q6w(a0:AV)(s:St):cw (.f ZC) [a0] s =
 ln Q8 (.val a0) λv7=>
 Q0u (iv 0) (.val a0) v7 (iv 0) s:=(Q5 _ _ _).trans (by kernel_rfl)
noncomputable def QY:Slot→Slot→Slot→Slot→St→Res:=λx0 x1 x7 x8 s=>lpD Zb [.seqR,.seqL,.seqR,.block] Tryz.f100 [(0,.s x0),(1,.s x1),(7,.s x7),(8,.s x8)] s
theorem Q0D:∀ x0 x1 x7 x8 s_1,QY x0 x1 x7 x8 s_1 =
 bn Q2 .lss x8 x7 λv9=>
 condS v9 (
 ix Q1 x0 x8 λv14=>
 ld Q1 s_1 v14 λv15=>
 bn Q1 .eql x1 v15 λv16=>
 condS v16 (
 some (.ret x8,s_1)) (
 nx x8 λv18=>
 QY x0 x1 x7 v18 s_1)) (
 some (.ret (iv (-1)),s_1)):=by intros;unfold QY;exact (Qb _ _ _ _ _ _).trans (by kernel_rfl)
theorem Q4R(a0:AV)(a1:AV)(s:St):cw (.f Zb) [a0,a1] s =
 ln Qe (.val a0) λv7=>
 QY (.val a0) (.val a1) v7 (iv 0) s:=(Q5 _ _ _).trans (by kernel_rfl)
theorem Qhe(a0:AV)(s:St):cw (.f Q4m) [a0] s =
 ca Q5i [(.val a0)] s λv4 s_1=>
 some (.ret v4,s_1):=(Q5 _ _ _).trans (by kernel_rfl)
noncomputable def QR:Slot→Slot→Slot→Slot→St→Res:=λx6 x25 x26 x27 s=>lpD QW [.seqR,.seqR,.seqR,.seqR,.seqL,.seqR,.block] Tryz.f102 [(6,.s x6),(25,.s x25),(26,.s x26),(27,.s x27)] s
noncomputable def QQ:Slot→Slot→Slot→Slot→Slot→St→Res:=λx0 x3 x9 x10 x11 s=>lpD QW [.seqR,.seqR,.seqL,.seqR,.block] Tryz.f102 [(0,.s x0),(3,.s x3),(9,.s x9),(10,.s x10),(11,.s x11)] s
theorem Q0t:∀ x6 x25 x26 x27 s_3,QR x6 x25 x26 x27 s_3 =
 bn Q2 .lss x27 x26 λv28=>
 condS v28 (
 ix Qe x25 x27 λv29=>
 ld Qe s_3 v29 λv30=>
 ap Q1 s_3 x6 v30 λv33 s_4=>
 nx x27 λv34=>
 QR v33 x25 x26 v34 s_4) (
 some (.ret x6,s_3)):=by intros;unfold QR;exact (Qb _ _ _ _ _ _).trans (by kernel_rfl)
theorem Q0s:∀ x0 x3 x9 x10 x11 s_1,QQ x0 x3 x9 x10 x11 s_1 =
 bn Q2 .lss x11 x10 λv12=>
 condS v12 (
 ix Qe x9 x11 λv13=>
 ld Qe s_1 v13 λv14=>
 ln Qe v14 λv17=>
 bn Q2 .add x3 v17 λv18=>
 bn Q2 .lss v18 (iv 0) λv20=>
 condS v20 (
 bind1 (ifcS Q1 (sv [108,101,110,32,111,117,116,32,111,102,32,114,97,110,103,101])) λv21=>
 panK v21 s_1) (
 nx x11 λv22=>
 QQ x0 v18 x9 x10 v22 s_1)) (
 ca Q00 [(.val (.nils)),x3] s_1 λv24 s_2=>
 ln Q1p x0 λv26=>
 QR v24 x0 v26 (iv 0) s_2):=by intros;unfold QQ;exact (Qb _ _ _ _ _ _).trans (by kernel_rfl)
theorem Q4l(a0:AV)(s:St):cw (.f QW) [a0] s =
 ln Q1p (.val a0) λv10=>
 QQ (.val a0) (iv 0) (.val a0) v10 (iv 0) s:=(Q5 _ _ _).trans (by kernel_rfl)
noncomputable def Q1g:Slot→Slot→Slot→St→Res:=λx0 x1 x4 s=>pwD Q1C [.seqR,.seqR,.seqR] Tryz.f103 [(0,.s x0),(1,.s x1),(4,.s x4)] s
theorem Q9W:∀ x0 x1 x4 s_4,Q1g x0 x1 x4 s_4 =
 ld Q8 s_4 x1 λv26=>
 ix QA v26 x0 λv28=>
 fa 0 v28 λv29=>
 ld Qq s_4 v29 λv30=>
 ca Q29 [v30] s_4 λv31 s_5=>
 bs Q1 [(sv [61,62])] λv32=>
 ca Qj [v32] s_5 λv33 s_6=>
 bs Qe [v31,v33,x4] λv35=>
 ca Qm [v35] s_6 λv36 s_7=>
 some (.ret v36,s_7):=by intros;unfold Q1g;exact (QX _).trans (by kernel_rfl)
theorem Qct(a0:AV)(a1:AV)(s:St):cw (.f Q1C) [a0,a1] s =
 ld Q8 s (.val a1) λv5=>
 ix QA v5 (.val a0) λv7=>
 fa 5 v7 λv8=>
 ld Q6 s v8 λv9=>
 ca ZA [v9] s λv10 s_1=>
 bn Q2 .add (.val a0) (iv 1) λv12=>
 ld Q8 s_1 (.val a1) λv13=>
 ln Q8 v13 λv14=>
 bn Q2 .lss v12 v14 λv15=>
 iT v15 λw=>
 bind1 (gd w (ldV (C.ti Q8) false s_1 (.val a1))) λv17=>
 iT v15 λw_1=>
 iT v15 λw_2=>
 bind1 (gd w_2 (ixS (C.ti QA).size v17 (gdV w_1 (.val a0)))) λv19=>
 iT v15 λw_3=>
 bind1 (gd w_3 (faV 5 v19)) λv20=>
 iT v15 λw_4=>
 bind1 (gd w_4 (ldV (C.ti Q6) false s_1 v20)) λv21=>
 iT v15 λw_5=>
 cg w_5 Q0z [v21] s_1 λv22 s_2=>
 pk v15 v22 (bv false) λv23=>
 condS v23 (
 ca Zm [v10] s_2 λv25 s_3=>
 Q1g (.val a0) (.val a1) v25 s_3) (
 Q1g (.val a0) (.val a1) v10 s_2):=(Q5 _ _ _).trans (by kernel_rfl)
noncomputable def Q4P:List Slot→Slot→Slot→St→Res:=λx1_1 x4_1 x9 s=>pwD Q0z [.seqR,.seqL,.seqR,.block,.seqR,.els,.seqR] Tryz.f104 [(1,.var x1_1),(4,.s x4_1),(9,.s x9)] s
noncomputable def Q34:List Slot→Slot→Slot→St→Res:=λx1 x4 x5 s=>pwD Q0z [.seqR,.seqL,.seqR,.block,.seqR] Tryz.f104 [(1,.var x1),(4,.s x4),(5,.s x5)] s
theorem Q1h:∀ x1_1 x4_1 x9 s_2,Q4P x1_1 x4_1 x9 s_2 =
 condS x9 (
 gC Q7 4 x1_1 λv13=>
 gC Q7 4 x1_1 λv15=>
 ln Q7 v15 λv16=>
 bn Q2 .sub v16 (iv 1) λv17=>
 ix Q6 v13 v17 λv18=>
 ld Q6 s_2 v18 λv19=>
 ca Q0z [v19] s_2 λv20 s_3=>
 some (.ret v20,s_3)) (
 bn Q3 .eql x4_1 (iv 18) λv22=>
 condS v22 (
 gC Q7 4 x1_1 λv24=>
 ix Q6 v24 (iv 1) λv25=>
 ld Q6 s_2 v25 λv26=>
 ca Q2O [v26] s_2 λv27 s_4=>
 bn Q2 .geq v27 (iv 1) λv28=>
 iT v28 λw=>
 iT v28 λw_1=>
 gG w_1 w Q7 4 x1_1 λv31=>
 iT v28 λw_2=>
 bind1 (gd w_2 (ixS (C.ti Q6).size v31 (iv 1))) λv32=>
 iT v28 λw_3=>
 bind1 (gd w_3 (ldV (C.ti Q6) false s_4 v32)) λv33=>
 iT v28 λw_4=>
 cg w_4 Q0z [v33] s_4 λv34 s_5=>
 pk v28 v34 (bv false) λv35=>
 some (.ret v35,s_5)) (
 some (.ret (bv false),s_2))):=by intros;unfold Q4P;exact (QX _).trans (by kernel_rfl)
theorem Zr:∀ x1 x4 x5 s_1,Q34 x1 x4 x5 s_1 =
 condS x5 (
 some (.ret (bv true),s_1)) (
 bn Q3 .eql x4 (iv 12) λv10=>
 condS v10 (
 Q4P x1 x4 v10 s_1) (
 bn Q3 .eql x4 (iv 8) λv11=>
 Q4P x1 x4 v11 s_1)):=by intros;unfold Q34;exact (QX _).trans (by kernel_rfl)
theorem QgF(a0:AV)(s:St):cw (.f Q0z) [a0] s =
 bx Q6 (.val a0) λc1=>
 gC Q3 0 c1 λv4=>
 bn Q3 .eql v4 (iv 5) λv6=>
 condS v6 (
 Q34 c1 v4 v6 s) (
 bn Q3 .eql v4 (iv 9) λv7=>
 condS v7 (
 Q34 c1 v4 v7 s) (
 bn Q3 .eql v4 (iv 11) λv8=>
 Q34 c1 v4 v8 s)):=(Q5 _ _ _).trans (by kernel_rfl)
theorem Qf5(a0:AV)(s:St):cw (.f Q2O) [a0] s =
 bx Q6 (.val a0) λc1=>
 gC Q3 0 c1 λv5=>
 bn Q3 .eql v5 (iv 3) λv6=>
 iT v6 λw=>
 iT v6 λw_1=>
 gG w_1 w Q7 4 c1 λv9=>
 iT v6 λw_2=>
 gL w_2 Q7 v9 λv10=>
 iT v6 λw_3=>
 gB w_3 Q2 .gtr v10 (iv 0) λv11=>
 pk v6 v11 (bv false) λv12=>
 condS v12 (
 some (.ret (iv 8),s)) (
 gC Q3 0 c1 λv15=>
 bn Q3 .eql v15 (iv 13) λv16=>
 iT v16 λw_4=>
 iT v16 λw_5=>
 gG w_5 w_4 Q2 3 c1 λv19=>
 iT v16 λw_6=>
 gB w_6 Q2 .leq v19 (iv 2) λv20=>
 pk v16 v20 (bv false) λv21=>
 condS v21 (
 some (.ret (iv 6),s)) (
 gC Q3 0 c1 λv24=>
 bn Q3 .eql v24 (iv 13) λv25=>
 iT v25 λw_7=>
 iT v25 λw_8=>
 gG w_8 w_7 Q2 3 c1 λv28=>
 iT v25 λw_9=>
 gB w_9 Q2 .leq v28 (iv 5) λv29=>
 pk v25 v29 (bv false) λv30=>
 condS v30 (
 some (.ret (iv 7),s)) (
 gC Q3 0 c1 λv32=>
 bind1 (ixA 21 (C.ti Q2).size (.val (.cp glob1)) v32) λv33=>
 ld Q2 s v33 λv34=>
 some (.ret v34,s)))):=(Q5 _ _ _).trans (by kernel_rfl)
noncomputable def Q0G:Slot→Slot→Slot→St→Res:=λx0 x3 x4 s=>lpD Q3P [.seqR,.seqR,.seqL,.seqR,.block] Tryz.f106 [(0,.s x0),(3,.s x3),(4,.s x4)] s
theorem Q6o:∀ x0 x3 x4 s_1,Q0G x0 x3 x4 s_1 =
 ln Q03 x0 λv7=>
 bn Q2 .lss x4 v7 λv8=>
 condS v8 (
 ix Qc x0 x4 λv13=>
 fa 0 v13 λv14=>
 ld Q2 s_1 v14 λv15=>
 bn Q2 .leq v15 (iv 4) λv16=>
 condS v16 (
 nx x3 λv18=>
 nx x4 λv10=>
 Q0G x0 v18 v10 s_1) (
 nx x4 λv10_1=>
 Q0G x0 x3 v10_1 s_1)) (
 some (.ret x3,s_1)):=by intros;unfold Q0G;exact (Qb _ _ _ _ _ _).trans (by kernel_rfl)
theorem Qdh(a0:AV)(s:St):cw (.f Q3P) [a0] s =
 Q0G (.val a0) (iv 0) (iv 0) s:=(Q5 _ _ _).trans (by kernel_rfl)
theorem Qdo(a0:AV)(s:St):cw (.f Q6a) [a0] s =
 bx Qc (.val a0) λc1=>
 gC Q2 0 c1 λv5=>
 bn Q2 .eql v5 (iv 1) λv7=>
 condS v7 (
 gC QB 3 c1 λv9=>
 gC Qy 1 c1 λv11=>
 cn Q7N [v9,v11] s λv12 s_1=>
 gC Q1 5 c1 λv15=>
 rt [(some v12),(some v15)] s_1) (
 bn Q2 .eql v5 (iv 2) λv17=>
 condS v17 (
 gC Q6 10 c1 λv19=>
 cn Q7O [v19] s λv20 s_2=>
 gC Q1 12 c1 λv23=>
 rt [(some v20),(some v23)] s_2) (
 bn Q2 .eql v5 (iv 3) λv25=>
 condS v25 (
 gC Qq 17 c1 λv27=>
 cn Q7P [v27] s λv28 s_3=>
 gC Q1 19 c1 λv31=>
 rt [(some v28),(some v31)] s_3) (
 bn Q2 .eql v5 (iv 4) λv33=>
 condS v33 (
 gC Qu 22 c1 λv35=>
 cn Q8s [v35] s λv36 s_4=>
 gC Q1 24 c1 λv39=>
 rt [(some v36),(some v39)] s_4) (
 bn Q2 .eql v5 (iv 5) λv41=>
 condS v41 (
 gC Q1 26 c1 λv44=>
 ca Q1m [v44] s λv45 s_5=>
 nt v45 λv46=>
 condS v46 (
 gC Q1 26 c1 λv49=>
 rt [(some (iv 8)),(some v49)] s_5) (
 rt [(some (iv 0)),(some (sv []))] s_5)) (
 gC Qy 42 c1 λv52=>
 nt v52 λv53=>
 iT v53 λw=>
 iT v53 λw_1=>
 chkP w w_1 λ_=>
 iT v53 λw_2=>
 bind1 (gd w_2 (bif (w&&w_1) then (ofSlots (C.ti Qu) (List.take (C.ti Qu).size (List.drop 43 c1))) else none)) λv57=>
 iT v53 λw_3=>
 cg w_3 Q5g [v57] s λv58 s_6=>
 iT v53 λw_4=>
 gN w_4 v58 λv59=>
 pk v53 v59 (bv false) λv60=>
 condS v60 (
 rt [(some (iv 29)),(some (sv []))] s_6) (
 gC Q1 40 c1 λv63=>
 ca Q2G [v63] s_6 λv64 s_7=>
 nt v64 λv65=>
 condS v65 (
 gC Q1 40 c1 λv68=>
 rt [(some (iv 8)),(some v68)] s_7) (
 rt [(some (iv 0)),(some (sv []))] s_7))))))):=(Q5 _ _ _).trans (by kernel_rfl)
noncomputable def Q0F:List Slot→Slot→Slot→St→Res:=λx2_2 x5_2 x8 s=>lpD Q0m [.seqR,.seqR,.seqR,.seqR,.seqL,.seqR,.block] Tryz.f108 [(2,.var x2_2),(5,.s x5_2),(8,.s x8)] s
noncomputable def Q1Q:List Slot→Slot→Slot→St→Res:=λx2_1 x5_1 x7 s=>lpD Q0m [.seqR,.seqR,.seqR,.seqL,.seqR,.block] Tryz.f108 [(2,.var x2_1),(5,.s x5_1),(7,.s x7)] s
noncomputable def Q1P:List Slot→Slot→Slot→St→Res:=λx2 x5 x6 s=>lpD Q0m [.seqR,.seqR,.seqL,.seqR,.block] Tryz.f108 [(2,.var x2),(5,.s x5),(6,.s x6)] s
theorem Q3s:∀ x2_2 x5_2 x8 s_8,Q0F x2_2 x5_2 x8 s_8 =
 gC Qx 4 x2_2 λv64=>
 ln Qx v64 λv65=>
 bn Q2 .lss x8 v65 λv66=>
 condS v66 (
 gC Qx 4 x2_2 λv70=>
 ix Z1 v70 x8 λv72=>
 ld Z1 s_8 v72 λv73=>
 bx Z1 v73 λc=>
 pZ Z1 c λc9=>
 gA Z1 c9 λv75=>
 gC Q2 1 c9 λv77=>
 bd Qc [(0,Q2,(iv 6)),(40,Z1,v75),(2,Q2,v77)] λv78=>
 bs Qc [v78] λv79=>
 ap Qc s_8 x5_2 v79 λv80 s_9=>
 gC Qy 2 c9 λv82=>
 condS v82 (
 gC Qu 3 c9 λv85=>
 gC Q2 1 c9 λv87=>
 ca Q1w [v85,v87] s_9 λv88 s_10=>
 ap Qc s_10 v80 v88 λv89 s_11=>
 nx x8 λv68=>
 Q0F x2_2 v89 v68 s_11) (
 nx x8 λv68_1=>
 Q0F x2_2 v80 v68_1 s_9)) (
 some (.ret x5_2,s_8)):=by intros;unfold Q0F;exact (Qb _ _ _ _ _ _).trans (by kernel_rfl)
theorem Q6i:∀ x2_1 x5_1 x7 s_4,Q1Q x2_1 x5_1 x7 s_4 =
 gC Qz 6 x2_1 λv33=>
 ln Qz v33 λv34=>
 bn Q2 .lss x7 v34 λv35=>
 condS v35 (
 gC Qz 6 x2_1 λv40=>
 ix Za v40 x7 λv42=>
 ld Za s_4 v42 λv43=>
 gC Qz 6 x2_1 λv45=>
 ix Za v45 x7 λv47=>
 fa 1 v47 λv48=>
 ld Q2 s_4 v48 λv49=>
 bd Qc [(0,Q2,(iv 5)),(26,Za,v43),(2,Q2,v49)] λv50=>
 bs Qc [v50] λv51=>
 ap Qc s_4 x5_1 v51 λv52 s_5=>
 gC Qz 6 x2_1 λv55=>
 ix Za v55 x7 λv57=>
 fa 2 v57 λv58=>
 ld QA s_5 v58 λv59=>
 ca Q1v [v59] s_5 λv60 s_6=>
 ap Qc s_6 v52 v60 λv61 s_7=>
 nx x7 λv37=>
 Q1Q x2_1 v61 v37 s_7) (
 Q0F x2_1 x5_1 (iv 0) s_4):=by intros;unfold Q1Q;exact (Qb _ _ _ _ _ _).trans (by kernel_rfl)
theorem Q6h:∀ x2 x5 x6 s_1,Q1P x2 x5 x6 s_1 =
 gC Q8 5 x2 λv18=>
 ln Q8 v18 λv19=>
 bn Q2 .lss x6 v19 λv20=>
 condS v20 (
 gC Q8 5 x2 λv25=>
 ix QA v25 x6 λv27=>
 ld QA s_1 v27 λv28=>
 ca Q1v [v28] s_1 λv29 s_2=>
 ap Qc s_2 x5 v29 λv30 s_3=>
 nx x6 λv22=>
 Q1P x2 v30 v22 s_3) (
 Q1Q x2 x5 (iv 0) s_1):=by intros;unfold Q1P;exact (Qb _ _ _ _ _ _).trans (by kernel_rfl)
theorem Qdb(a0:AV)(a1:AV)(s:St):cw (.f Q0m) [a0,a1] s =
 bx QB (.val a0) λc2=>
 gA QB c2 λv10=>
 gC Q2 1 c2 λv12=>
 bd Qc [(0,Q2,(iv 1)),(3,QB,v10),(2,Q2,v12),(1,Qy,(.val a1))] λv14=>
 bs Qc [v14] λv15=>
 Q1P c2 v15 (iv 0) s:=(Q5 _ _ _).trans (by kernel_rfl)
theorem Qca(a0:AV)(s:St):cw (.f Q1v) [a0] s =
 bx QA (.val a0) λc1=>
 gC Qq 0 c1 λv4=>
 cn Q0X [v4] s λv5 s_1=>
 gC Q6 5 c1 λv7=>
 cn Q0n [v7] s_1 λv8 s_2=>
 ap Qc s_2 v5 v8 λv9 s_3=>
 some (.ret v9,s_3):=(Q5 _ _ _).trans (by kernel_rfl)
noncomputable def Q2m:Slot→Slot→Slot→St→Res:=λx0_1 x3_1 x4 s=>lpD Q0J [.seqR,.seqR,.seqR,.seqR,.seqL,.seqR,.block] Tryz.f110 [(0,.s x0_1),(3,.s x3_1),(4,.s x4)] s
noncomputable def Q3T:Slot→Slot→St→Res:=λx0 x3 s=>pwD Q0J [.seqR,.seqR,.seqR] Tryz.f110 [(0,.s x0),(3,.s x3)] s
theorem Q45:∀ x0_1 x3_1 x4 s_2,Q2m x0_1 x3_1 x4 s_2 =
 bn Z5 .gtr x3_1 (.val (.int .u64 0)) λv20=>
 condS v20 (
 bn Z5 .rem x3_1 (.val (.int .u64 10)) λv24=>
 bn Z5 .add (.val (.int .u64 48)) v24 λv25=>
 bind1 (convS (C.ti Z5) (C.ti Qg) v25) λv26=>
 bs Qg [v26] λv27=>
 bind1 (convS (C.ti QM) (C.ti Q1) v27 (C.ti Qg).k) λv28=>
 bn Q1 .add v28 x4 λv30=>
 bn Z5 .quo x3_1 (.val (.int .u64 10)) λv22=>
 Q2m x0_1 v22 v30 s_2) (
 bn Q2 .lss x0_1 (iv 0) λv32=>
 condS v32 (
 bn Q1 .add (sv [45]) x4 λv34=>
 some (.ret v34,s_2)) (
 some (.ret x4,s_2))):=by intros;unfold Q2m;exact (Qb _ _ _ _ _ _).trans (by kernel_rfl)
theorem Qbf:∀ x0 x3 s_1,Q3T x0 x3 s_1 =
 bn Z5 .rem x3 (.val (.int .u64 10)) λv12=>
 bn Z5 .add (.val (.int .u64 48)) v12 λv13=>
 bind1 (convS (C.ti Z5) (C.ti Qg) v13) λv14=>
 bs Qg [v14] λv15=>
 bind1 (convS (C.ti QM) (C.ti Q1) v15 (C.ti Qg).k) λv16=>
 bn Z5 .quo x3 (.val (.int .u64 10)) λv18=>
 Q2m x0 v18 v16 s_1:=by intros;unfold Q3T;exact (QX _).trans (by kernel_rfl)
theorem QeN(a0:AV)(s:St):cw (.f Q0J) [a0] s =
 bind1 (convS (C.ti Q2) (C.ti Z5) (.val a0)) λv6=>
 bn Q2 .lss (.val a0) (iv 0) λv8=>
 condS v8 (
 bind1 (unS .neg v6) λv10=>
 Q3T (.val a0) v10 s) (
 Q3T (.val a0) v6 s):=(Q5 _ _ _).trans (by kernel_rfl)
theorem Qcn(a0:AV)(a1:AV)(s:St):cw (.f Z7) [a0,a1] s =
 condS (.val a1) (
 bn Q1 .add (sv [40]) (.val a0) λv7=>
 bn Q1 .add v7 (sv [41]) λv8=>
 some (.ret v8,s)) (
 some (.ret (.val a0),s)):=(Q5 _ _ _).trans (by kernel_rfl)
noncomputable def Q0I:List Slot→Slot→Slot→St→Res:=λx1_1 x4_1 x18 s=>pwD Zz [.seqR,.seqL,.seqR,.block,.seqR,.els,.seqR,.els,.seqR,.els,.seqR,.els,.seqR,.els,.seqR] Tryz.f112 [(1,.var x1_1),(4,.s x4_1),(18,.s x18)] s
noncomputable def Q0H:List Slot→Slot→Slot→St→Res:=λx1 x4 x5 s=>pwD Zz [.seqR,.seqL,.seqR,.block,.seqR] Tryz.f112 [(1,.var x1),(4,.s x4),(5,.s x5)] s
theorem QP:∀ x1_1 x4_1 x18 s_2,Q0I x1_1 x4_1 x18 s_2 =
 condS x18 (
 some (.ret (iv 8),s_2)) (
 bn Q3 .eql x4_1 (iv 13) λv24=>
 condS v24 (
 gC Q2 3 x1_1 λv26=>
 bn Q2 .geq v26 (iv 6) λv27=>
 condS v27 (
 some (.ret (iv 5),s_2)) (
 gC Q2 3 x1_1 λv29=>
 bn Q2 .leq v29 (iv 2) λv30=>
 condS v30 (
 some (.ret (iv 6),s_2)) (
 some (.ret (iv 7),s_2)))) (
 gC Q3 0 x1_1 λv32=>
 bn Q3 .eql v32 (iv 3) λv33=>
 iT v33 λw=>
 iT v33 λw_1=>
 gG w_1 w Q7 4 x1_1 λv36=>
 iT v33 λw_2=>
 gL w_2 Q7 v36 λv37=>
 iT v33 λw_3=>
 gB w_3 Q2 .gtr v37 (iv 0) λv38=>
 pk v33 v38 (bv false) λv39=>
 condS v39 (
 some (.ret (iv 8),s_2)) (
 some (.ret (iv 9),s_2)))):=by intros;unfold Q0I;exact (QX _).trans (by kernel_rfl)
theorem Qt:∀ x1 x4 x5 s_1,Q0H x1 x4 x5 s_1 =
 condS x5 (
 some (.ret (iv 0),s_1)) (
 bn Q3 .eql x4 (iv 18) λv11=>
 condS v11 (
 some (.ret (iv 1),s_1)) (
 bn Q3 .eql x4 (iv 11) λv13=>
 condS v13 (
 some (.ret (iv 2),s_1)) (
 bn Q3 .eql x4 (iv 15) λv15=>
 condS v15 (
 some (.ret (iv 3),s_1)) (
 bn Q3 .eql x4 (iv 14) λv17=>
 condS v17 (
 some (.ret (iv 4),s_1)) (
 bn Q3 .eql x4 (iv 6) λv19=>
 condS v19 (
 Q0I x1 x4 v19 s_1) (
 bn Q3 .eql x4 (iv 16) λv20=>
 condS v20 (
 Q0I x1 x4 v20 s_1) (
 bn Q3 .eql x4 (iv 17) λv21=>
 condS v21 (
 Q0I x1 x4 v21 s_1) (
 bn Q3 .eql x4 (iv 19) λv22=>
 Q0I x1 x4 v22 s_1)))))))):=by intros;unfold Q0H;exact (QX _).trans (by kernel_rfl)
theorem Qdq(a0:AV)(s:St):cw (.f Zz) [a0] s =
 bx Q6 (.val a0) λc1=>
 gC Q3 0 c1 λv4=>
 bn Q3 .eql v4 (iv 12) λv6=>
 condS v6 (
 Q0H c1 v4 v6 s) (
 bn Q3 .eql v4 (iv 5) λv7=>
 condS v7 (
 Q0H c1 v4 v7 s) (
 bn Q3 .eql v4 (iv 8) λv8=>
 condS v8 (
 Q0H c1 v4 v8 s) (
 bn Q3 .eql v4 (iv 9) λv9=>
 Q0H c1 v4 v9 s))):=(Q5 _ _ _).trans (by kernel_rfl)
noncomputable def Q3W:List Slot→Slot→Slot→St→Res:=λx1_1 x4_1 x9 s=>pwD Q0a [.seqR,.seqL,.seqR,.block,.seqR,.els,.seqR] Tryz.f113 [(1,.var x1_1),(4,.s x4_1),(9,.s x9)] s
noncomputable def Q2q:List Slot→Slot→Slot→St→Res:=λx1 x4 x5 s=>pwD Q0a [.seqR,.seqL,.seqR,.block,.seqR] Tryz.f113 [(1,.var x1),(4,.s x4),(5,.s x5)] s
theorem Q0Q:∀ x1_1 x4_1 x9 s_2,Q3W x1_1 x4_1 x9 s_2 =
 condS x9 (
 gC Q7 4 x1_1 λv13=>
 gC Q7 4 x1_1 λv15=>
 ln Q7 v15 λv16=>
 bn Q2 .sub v16 (iv 1) λv17=>
 ix Q6 v13 v17 λv18=>
 ld Q6 s_2 v18 λv19=>
 ca Q0a [v19] s_2 λv20 s_3=>
 some (.ret v20,s_3)) (
 bn Q3 .eql x4_1 (iv 18) λv22=>
 condS v22 (
 gC Q7 4 x1_1 λv24=>
 ix Q6 v24 (iv 1) λv25=>
 ld Q6 s_2 v25 λv26=>
 ca Zz [v26] s_2 λv27 s_4=>
 bn Q2 .gtr v27 (iv 0) λv28=>
 iT v28 λw=>
 iT v28 λw_1=>
 gG w_1 w Q7 4 x1_1 λv31=>
 iT v28 λw_2=>
 bind1 (gd w_2 (ixS (C.ti Q6).size v31 (iv 1))) λv32=>
 iT v28 λw_3=>
 bind1 (gd w_3 (ldV (C.ti Q6) false s_4 v32)) λv33=>
 iT v28 λw_4=>
 cg w_4 Q0a [v33] s_4 λv34 s_5=>
 pk v28 v34 (bv false) λv35=>
 some (.ret v35,s_5)) (
 some (.ret (bv false),s_2))):=by intros;unfold Q3W;exact (QX _).trans (by kernel_rfl)
theorem Ze:∀ x1 x4 x5 s_1,Q2q x1 x4 x5 s_1 =
 condS x5 (
 some (.ret (bv true),s_1)) (
 bn Q3 .eql x4 (iv 12) λv10=>
 condS v10 (
 Q3W x1 x4 v10 s_1) (
 bn Q3 .eql x4 (iv 8) λv11=>
 Q3W x1 x4 v11 s_1)):=by intros;unfold Q2q;exact (QX _).trans (by kernel_rfl)
theorem QeV(a0:AV)(s:St):cw (.f Q0a) [a0] s =
 bx Q6 (.val a0) λc1=>
 gC Q3 0 c1 λv4=>
 bn Q3 .eql v4 (iv 5) λv6=>
 condS v6 (
 Q2q c1 v4 v6 s) (
 bn Q3 .eql v4 (iv 9) λv7=>
 condS v7 (
 Q2q c1 v4 v7 s) (
 bn Q3 .eql v4 (iv 11) λv8=>
 Q2q c1 v4 v8 s)):=(Q5 _ _ _).trans (by kernel_rfl)
theorem Qhk(a0:AV)(s:St):cw (.f Q6D) [a0] s =
 bs Q1 [(sv []),(sv [43]),(sv [45]),(sv [42]),(sv [100,105,118]),(sv [109,111,100]),(sv [61]),(sv [60,62]),(sv [60]),(sv [60,61])] λv4=>
 ix Q1 v4 (.val a0) λv7=>
 ld Q1 s v7 λv8=>
 bn Q1 .add (sv [32]) v8 λv9=>
 bn Q1 .add v9 (sv [32]) λv10=>
 some (.ret v10,s):=(Q5 _ _ _).trans (by kernel_rfl)
theorem Qax(a0:AV)(a1:AV)(s:St):cw (.f Q3Z) [a0,a1] s =
 bd QC [(0,Qn,(.val a0))] λv4=>
 ca Zd [v4,(.val a1)] s λv5 s_1=>
 rt [] s_1:=(Q5 _ _ _).trans (by kernel_rfl)
noncomputable def ZX:Slot→List Slot→Slot→Slot→St→Res:=λx1 x2 x20 x21 s=>lpD Zd [.seqR,.seqR,.seqL,.seqR,.block] Tryz.f116 [(1,.s x1),(2,.var x2),(20,.s x20),(21,.s x21)] s
theorem Q3M:∀ x1 x2 x20 x21 s_2,ZX x1 x2 x20 x21 s_2 =
 bn Q2 .lss x21 x20 λv22=>
 condS v22 (
 gA QC x2 λv24=>
 bind1 (nilCheckV x1) λv26=>
 fa 4 v26 λv27=>
 ld Qp s_2 v27 λv28=>
 ix Qq v28 x21 λv30=>
 cn Zd [v24,v30] s_2 λv31 s_3=>
 nt v31 λv32=>
 condS v32 (
 some (.ret (bv false),s_3)) (
 nx x21 λv33=>
 ZX x1 x2 x20 v33 s_3)) (
 some (.ret (bv true),s_2)):=by intros;unfold ZX;exact (Qb _ _ _ _ _ _).trans (by kernel_rfl)
theorem Q9n(a0:AV)(a1:AV)(s:St):cw (.f Zd) [a0,a1] s =
 bx QC (.val a0) λc2=>
 gC Qn 0 c2 λv7=>
 bind1 (nilCheckV (.val a1)) λv10=>
 fa 1 v10 λv11=>
 ld Q2 s v11 λv12=>
 bd Z2 [(5,Q2y,(.val a1)),(7,Q2,v12)] λv13=>
 back (noPan (cal cw true (tgtV v7 [v13]) s)) λv14 s_1=>
 nt v14 λv15=>
 condS v15 (
 some (.ret (bv false),s_1)) (
 bind1 (nilCheckV (.val a1)) λv17=>
 fa 4 v17 λv18=>
 ld Qp s_1 v18 λv19=>
 ln Qp v19 λv20=>
 ZX (.val a1) c2 v20 (iv 0) s_1):=(Q5 _ _ _).trans (by kernel_rfl)
theorem Qcx(a0:AV)(a1:AV)(s:St):cw (.f Q1E) [a0,a1] s =
 fa 4 (.val a1) λv4=>
 ld Qp s v4 λv5=>
 ix Qq v5 (.val a0) λv7=>
 ld Qq s v7 λv8=>
 ca Q29 [v8] s λv9 s_1=>
 some (.ret v9,s_1):=(Q5 _ _ _).trans (by kernel_rfl)
theorem Qat(a0:AV)(s:St):cw (.f Q3Y) [a0] s =
 bx Qq (.val a0) λc1=>
 gC Qd 0 c1 λv4=>
 bn Qd .eql v4 (iv 6) λv5=>
 condS v5 (
 some (.ret (iv 0),s)) (
 gC Qd 0 c1 λv7=>
 bn Qd .eql v7 (iv 4) λv8=>
 iT v8 λw=>
 iT v8 λw_1=>
 gG w_1 w Qp 4 c1 λv11=>
 iT v8 λw_2=>
 gL w_2 Qp v11 λv12=>
 iT v8 λw_3=>
 gB w_3 Q2 .gtr v12 (iv 0) λv13=>
 pk v8 v13 (bv false) λv14=>
 condS v14 (
 some (.ret (iv 1),s)) (
 some (.ret (iv 2),s))):=(Q5 _ _ _).trans (by kernel_rfl)
noncomputable def Z6:Slot→Slot→Slot→Slot→St→Res:=λx0 x1 x7 x8 s=>lpD ZJ [.seqR,.seqL,.seqR,.block] Tryz.f123 [(0,.s x0),(1,.s x1),(7,.s x7),(8,.s x8)] s
theorem Q1u:∀ x0 x1 x7 x8 s_1,Z6 x0 x1 x7 x8 s_1 =
 bn Q2 .lss x8 x7 λv9=>
 condS v9 (
 ix Qu x0 x8 λv14=>
 ld Qu s_1 v14 λv15=>
 back (cal cw true (tgtV x1 [v15]) s_1) λv16 s_2=>
 condS v16 (
 some (.ret x8,s_2)) (
 nx x8 λv18=>
 Z6 x0 x1 x7 v18 s_2)) (
 some (.ret (iv (-1)),s_1)):=by intros;unfold Z6;exact (Qb _ _ _ _ _ _).trans (by kernel_rfl)
theorem Q6d(a0:AV)(a1:AV)(s:St):cw (.f ZJ) [a0,a1] s =
 ln Ql (.val a0) λv7=>
 Z6 (.val a0) (.val a1) v7 (iv 0) s:=(Q5 _ _ _).trans (by kernel_rfl)
theorem Qbx(a0:AV)(s:St):cw (.f Q4q) [a0] s =
 bx Qu (.val a0) λc1=>
 gC Qs 0 c1 λv4=>
 bn Qs .eql v4 (iv 2) λv5=>
 iT v5 λw=>
 iT v5 λw_1=>
 gG w_1 w Q1 2 c1 λv8=>
 iT v5 λw_2=>
 gB w_2 Q1 .eql v8 (sv [45,62]) λv9=>
 pk v5 v9 (bv false) λv10=>
 condS v10 (
 some (.ret (iv 0),s)) (
 gC Qs 0 c1 λv12=>
 bn Qs .eql v12 (iv 2) λv13=>
 iT v13 λw_3=>
 iT v13 λw_4=>
 gG w_4 w_3 Q1 2 c1 λv16=>
 iT v13 λw_5=>
 gB w_5 Q1 .eql v16 (sv [42]) λv17=>
 pk v13 v17 (bv false) λv18=>
 condS v18 (
 some (.ret (iv 1),s)) (
 some (.ret (iv 2),s))):=(Q5 _ _ _).trans (by kernel_rfl)
theorem Qaz(a0:AV)(a1:AV)(s:St):cw (.f Q40) [a0,a1] s =
 bd QC [(0,Qn,(.val a0))] λv4=>
 ld Qw s (.val a1) λv5=>
 ca Zc [v4,v5,(bv false)] s λv6 s_1=>
 rt [] s_1:=(Q5 _ _ _).trans (by kernel_rfl)
noncomputable def ZV:Slot→Slot→List Slot→Slot→Slot→Slot→Slot→Slot→St→Res:=λx1_2 x2_2 x3_2 x8_1 x14_2 x15_2 x80 x81 s=>lpD Zc [.seqR,.seqL,.seqR,.block,.loop,.seqR,.seqR,.seqL,.block,.seqR,.seqR,.seqR,.seqR,.seqR,.block] Tryz.f127 [(1,.s x1_2),(2,.s x2_2),(3,.var x3_2),(8,.s x8_1),(14,.s x14_2),(15,.s x15_2),(80,.s x80),(81,.s x81)] s
noncomputable def ZU:Slot→Slot→List Slot→Slot→Slot→Slot→Slot→Slot→St→Res:=λx1_1 x2_1 x3_1 x8 x14_1 x15_1 x45 x46 s=>lpD Zc [.seqR,.seqL,.seqR,.block,.loop,.seqR,.seqR,.seqL,.block,.seqR,.seqR,.seqR,.seqL,.seqR,.block] Tryz.f127 [(1,.s x1_1),(2,.s x2_1),(3,.var x3_1),(8,.s x8),(14,.s x14_1),(15,.s x15_1),(45,.s x45),(46,.s x46)] s
noncomputable def Z9:Slot→Slot→List Slot→Slot→Slot→St→Res:=λx1 x2 x3 x14 x15 s=>lpD Zc [.seqR,.seqL,.seqR,.block] Tryz.f127 [(1,.s x1),(2,.s x2),(3,.var x3),(14,.s x14),(15,.s x15)] s
theorem Q3K:∀ x1_2 x2_2 x3_2 x8_1 x14_2 x15_2 x80 x81 s_7,ZV x1_2 x2_2 x3_2 x8_1 x14_2 x15_2 x80 x81 s_7 =
 bn Q2 .lss x81 x80 λv82=>
 condS v82 (
 bind1 (nilCheckV x8_1) λv85=>
 fa 4 v85 λv86=>
 ld Qx s_7 v86 λv87=>
 ix Z1 v87 x81 λv89=>
 gC Qn 0 x3_2 λv91=>
 bind1 (nilCheckV v89) λv94=>
 fa 1 v94 λv95=>
 ld Q2 s_7 v95 λv96=>
 bd Z2 [(3,Q10,v89),(7,Q2,v96)] λv97=>
 back (noPan (cal cw true (tgtV v91 [v97]) s_7)) λv98 s_8=>
 nt v98 λv99=>
 iF v99 λw_15=>
 iF v99 λw_16=>
 bind1 (gd w_16 (nilCheckV (gdV w_15 v89))) λv102=>
 iF v99 λw_17=>
 bind1 (gd w_17 (faV 2 v102)) λv103=>
 iF v99 λw_18=>
 bind1 (gd w_18 (ldV (C.ti Qy) false s_8 v103)) λv104=>
 iF v99 λw_19=>
 bindB (Slot.isB (gdV w_19 v104) true) λw_20=>
 bind1 (gd w_20 (ofSlots (C.ti QC) (List.take (C.ti QC).size x3_2))) λv106=>
 bindB (Slot.isB (gdV w_19 v104) true) λw_21=>
 bindB (Slot.isB (gdV w_19 v104) true) λw_22=>
 bind1 (gd w_22 (nilCheckV (gdV w_21 v89))) λv108=>
 bindB (Slot.isB (gdV w_19 v104) true) λw_23=>
 bind1 (gd w_23 (faV 3 v108)) λv109=>
 bindB (Slot.isB (gdV w_19 v104) true) λw_24=>
 bindB (Slot.isB (gdV w_19 v104) true) λw_25=>
 bind1 (gd w_25 (nilCheckV (gdV w_24 v89))) λv111=>
 bindB (Slot.isB (gdV w_19 v104) true) λw_26=>
 bind1 (gd w_26 (faV 1 v111)) λv112=>
 bindB (Slot.isB (gdV w_19 v104) true) λw_27=>
 bind1 (gd w_27 (ldV (C.ti Q2) false s_8 v112)) λv113=>
 bindB (Slot.isB (gdV w_19 v104) true) λw_28=>
 back (noPan (cal cw w_28 (tgtV (.val (.fn Zt [])) [v106,v109,v113]) s_8)) λv114 s_9=>
 bindB (Slot.isB (gdV w_19 v104) true) λw_29=>
 gN w_29 v114 λv115=>
 iF v99 λw_30=>
 bind1 (gd w_30 (pickS (gdV w_19 v104) v115 (bv false))) λv116=>
 pk v99 (bv true) v116 λv117=>
 condS v117 (
 some (.ret (bv false),s_9)) (
 nx x81 λv118=>
 ZV x1_2 x2_2 x3_2 x8_1 x14_2 x15_2 x80 v118 s_9)) (
 nx x15_2 λv119=>
 Z9 x1_2 x2_2 x3_2 x14_2 v119 s_7):=by intros;unfold ZV;exact (Qb _ _ _ _ _ _).trans (by kernel_rfl)
theorem Q3J:∀ x1_1 x2_1 x3_1 x8 x14_1 x15_1 x45 x46 s_4,ZU x1_1 x2_1 x3_1 x8 x14_1 x15_1 x45 x46 s_4 =
 bn Q2 .lss x46 x45 λv47=>
 condS v47 (
 bind1 (nilCheckV x8) λv50=>
 fa 6 v50 λv51=>
 ld Qz s_4 v51 λv52=>
 ix Za v52 x46 λv54=>
 gC Qn 0 x3_1 λv56=>
 bind1 (nilCheckV v54) λv59=>
 fa 1 v59 λv60=>
 ld Q2 s_4 v60 λv61=>
 bd Z2 [(2,Q1H,v54),(7,Q2,v61)] λv62=>
 back (noPan (cal cw true (tgtV v56 [v62]) s_4)) λv63 s_5=>
 nt v63 λv64=>
 iF v64 λw_7=>
 bind1 (gd w_7 (ofSlots (C.ti QC) (List.take (C.ti QC).size x3_1))) λv66=>
 iF v64 λw_8=>
 iF v64 λw_9=>
 bind1 (gd w_9 (nilCheckV (gdV w_8 v54))) λv68=>
 iF v64 λw_10=>
 bind1 (gd w_10 (faV 2 v68)) λv69=>
 iF v64 λw_11=>
 bind1 (gd w_11 (ldV (C.ti QA) false s_5 v69)) λv70=>
 iF v64 λw_12=>
 bind1 (gd w_12 (bslF (C.ti QA).size [v70])) λv71=>
 iF v64 λw_13=>
 back (noPan (cal cw w_13 (tgtV (.val (.fn Zs [])) [v66,v71]) s_5)) λv72 s_6=>
 iF v64 λw_14=>
 gN w_14 v72 λv73=>
 pk v64 (bv true) v73 λv74=>
 condS v74 (
 some (.ret (bv false),s_6)) (
 nx x46 λv75=>
 ZU x1_1 x2_1 x3_1 x8 x14_1 x15_1 x45 v75 s_6)) (
 bind1 (nilCheckV x8) λv77=>
 fa 4 v77 λv78=>
 ld Qx s_4 v78 λv79=>
 ln Qx v79 λv80=>
 ZV x1_1 x2_1 x3_1 x8 x14_1 x15_1 v80 (iv 0) s_4):=by intros;unfold ZU;exact (Qb _ _ _ _ _ _).trans (by kernel_rfl)
theorem Q3I:∀ x1 x2 x3 x14 x15 s_1,Z9 x1 x2 x3 x14 x15 s_1 =
 bn Q2 .lss x15 x14 λv16=>
 condS v16 (
 ix QB x1 x15 λv20=>
 gC Qn 0 x3 λv22=>
 bind1 (nilCheckV v20) λv26=>
 fa 1 v26 λv27=>
 ld Q2 s_1 v27 λv28=>
 bd Z2 [(0,Q2w,v20),(1,Qy,x2),(7,Q2,v28)] λv29=>
 back (noPan (cal cw true (tgtV v22 [v29]) s_1)) λv30 s_2=>
 nt v30 λv31=>
 iF v31 λw=>
 bind1 (gd w (ofSlots (C.ti QC) (List.take (C.ti QC).size x3))) λv33=>
 iF v31 λw_1=>
 iF v31 λw_2=>
 bind1 (gd w_2 (nilCheckV (gdV w_1 v20))) λv35=>
 iF v31 λw_3=>
 bind1 (gd w_3 (faV 5 v35)) λv36=>
 iF v31 λw_4=>
 bind1 (gd w_4 (ldV (C.ti Q8) false s_2 v36)) λv37=>
 iF v31 λw_5=>
 back (noPan (cal cw w_5 (tgtV (.val (.fn Zs [])) [v33,v37]) s_2)) λv38 s_3=>
 iF v31 λw_6=>
 gN w_6 v38 λv39=>
 pk v31 (bv true) v39 λv40=>
 condS v40 (
 some (.ret (bv false),s_3)) (
 bind1 (nilCheckV v20) λv42=>
 fa 6 v42 λv43=>
 ld Qz s_3 v43 λv44=>
 ln Qz v44 λv45=>
 ZU x1 x2 x3 v20 x14 x15 v45 (iv 0) s_3)) (
 some (.ret (bv true),s_1)):=by intros;unfold Z9;exact (Qb _ _ _ _ _ _).trans (by kernel_rfl)
theorem Q5d(a0:AV)(a1:AV)(a2:AV)(s:St):cw (.f Zc) [a0,a1,a2] s =
 bx QC (.val a0) λc3=>
 ln Qw (.val a1) λv14=>
 Z9 (.val a1) (.val a2) c3 v14 (iv 0) s:=(Q5 _ _ _).trans (by kernel_rfl)
noncomputable def Q25:Slot→Slot→Slot→Slot→St→Res:=λx3 x7 x8 x9 s=>lpD Q0Z [.seqR,.seqR,.seqL,.seqR,.block] Tryz.f128 [(3,.s x3),(7,.s x7),(8,.s x8),(9,.s x9)] s
theorem Q6z:∀ x3 x7 x8 x9 s_1,Q25 x3 x7 x8 x9 s_1 =
 bn Q2 .lss x9 x8 λv10=>
 condS v10 (
 ix Qu x7 x9 λv11=>
 ld Qu s_1 v11 λv12=>
 bx Qu v12 λc=>
 pZ Qu c λc5=>
 gA Qu c5 λv14=>
 ca Q0Z [v14] s_1 λv15 s_2=>
 bind1 (max2 x3 v15) λv16=>
 nx x9 λv17=>
 Q25 v16 x7 x8 v17 s_2) (
 nx x3 λv19=>
 some (.ret v19,s_1)):=by intros;unfold Q25;exact (Qb _ _ _ _ _ _).trans (by kernel_rfl)
theorem QdD(a0:AV)(s:St):cw (.f Q0Z) [a0] s =
 bx Qu (.val a0) λc1=>
 gC Ql 3 c1 λv7=>
 ln Ql v7 λv8=>
 Q25 (iv 0) v7 v8 (iv 0) s:=(Q5 _ _ _).trans (by kernel_rfl)
noncomputable def Q1a:List Slot→Slot→Slot→St→Res:=λx1 x3 x4 s=>lpD Q0E [.seqR,.seqR,.seqL,.seqR,.block] Tryz.f130 [(1,.var x1),(3,.s x3),(4,.s x4)] s
theorem Q5V:∀ x1 x3 x4 s_1,Q1a x1 x3 x4 s_1 =
 gC Ql 3 x1 λv7=>
 ln Ql v7 λv8=>
 bn Q2 .lss x4 v8 λv9=>
 condS v9 (
 gC Ql 3 x1 λv14=>
 ix Qu v14 x4 λv16=>
 ld Qu s_1 v16 λv17=>
 ca Q0E [v17] s_1 λv18 s_2=>
 bind1 (max2 x3 v18) λv19=>
 nx x4 λv11=>
 Q1a x1 v19 v11 s_2) (
 nx x3 λv21=>
 some (.ret v21,s_1)):=by intros;unfold Q1a;exact (Qb _ _ _ _ _ _).trans (by kernel_rfl)
theorem Qcc(a0:AV)(s:St):cw (.f Q0E) [a0] s =
 bx Qu (.val a0) λc1=>
 Q1a c1 (iv 0) (iv 0) s:=(Q5 _ _ _).trans (by kernel_rfl)
theorem Qgv(a0:AV)(s:St):cw (.f Q5B) [a0] s =
 bx Z1 (.val a0) λc1=>
 gC Qy 2 c1 λv4=>
 condS v4 (
 gC Q1 0 c1 λv6=>
 bn Q1 .add v6 (sv [32,111,102,32]) λv7=>
 gC Qu 3 c1 λv9=>
 cn ZE [v9] s λv10 s_1=>
 bn Q1 .add v7 v10 λv11=>
 some (.ret v11,s_1)) (
 gC Q1 0 c1 λv13=>
 some (.ret v13,s)):=(Q5 _ _ _).trans (by kernel_rfl)
noncomputable def Q0j:Slot→Slot→Slot→Slot→St→Res:=λx0 x3 x7 x8 s=>lpD Q3a [.seqR,.seqR,.seqR,.seqL,.seqR,.block] Tryz.f132 [(0,.s x0),(3,.s x3),(7,.s x7),(8,.s x8)] s
theorem Q5Z:∀ x0 x3 x7 x8 s_1,Q0j x0 x3 x7 x8 s_1 =
 bn Q2 .lss x8 x7 λv9=>
 condS v9 (
 bn Q2 .gtr x8 (iv 0) λv12=>
 condS v12 (
 bn Q1 .add x3 (sv [44,32]) λv14=>
 bn Q1 .add v14 (sv [39]) λv16=>
 ca Q3v [x8] s_1 λv18 s_2=>
 bn Q1 .add v16 v18 λv19=>
 nx x8 λv20=>
 Q0j x0 v19 x7 v20 s_2) (
 bn Q1 .add x3 (sv [39]) λv16_1=>
 ca Q3v [x8] s_1 λv18_1 s_3=>
 bn Q1 .add v16_1 v18_1 λv19_1=>
 nx x8 λv20_1=>
 Q0j x0 v19_1 x7 v20_1 s_3)) (
 bn Q2 .gtr x0 (iv 1) λv23=>
 ca Z7 [x3,v23] s_1 λv24 s_4=>
 bn Q1 .add v24 (sv [32]) λv25=>
 some (.ret v25,s_4)):=by intros;unfold Q0j;exact (Qb _ _ _ _ _ _).trans (by kernel_rfl)
theorem Qcl(a0:AV)(s:St):cw (.f Q3a) [a0] s =
 bn Q2 .eql (.val a0) (iv 0) λv6=>
 condS v6 (
 some (.ret (sv []),s)) (
 Q0j (.val a0) (sv []) (.val a0) (iv 0) s):=(Q5 _ _ _).trans (by kernel_rfl)
theorem Qa5(a0:AV)(s:St):cw (.f Q3q) [a0] s =
 bx Z2 (.val a0) λc1=>
 gC Q1H 2 c1 λv4=>
 bn Q1H .eql v4 (.val (.nilp)) λv5=>
 iT v5 λw=>
 iT v5 λw_1=>
 gG w_1 w Q10 3 c1 λv8=>
 iT v5 λw_2=>
 gB w_2 Q10 .eql v8 (.val (.nilp)) λv9=>
 pk v5 v9 (bv false) λv10=>
 some (.ret v10,s):=(Q5 _ _ _).trans (by kernel_rfl)
noncomputable def QZ:List Slot→Slot→Slot→Slot→Slot→St→Res:=λx1 x3 x5 x7 x8 s=>pwD Q0g [.seqR,.seqR,.seqR,.seqR,.seqR] Tryz.f134 [(1,.var x1),(3,.s x3),(5,.s x5),(7,.s x7),(8,.s x8)] s
theorem Q6L:∀ x1 x3 x5 x7 x8 s_1,QZ x1 x3 x5 x7 x8 s_1 =
 nt x8 λv91=>
 iF v91 λw_9=>
 iF v91 λw_10=>
 gG w_10 w_9 Qy 1 x1 λv94=>
 iF v91 λw_11=>
 bindB (Slot.isB (gdV w_11 v94) true) λw_12=>
 bindB (Slot.isB (gdV w_11 v94) true) λw_13=>
 bind1 (gd w_13 (nilCheckV (gdV w_12 x3))) λv97=>
 bindB (Slot.isB (gdV w_11 v94) true) λw_14=>
 bind1 (gd w_14 (faV 0 v97)) λv98=>
 bindB (Slot.isB (gdV w_11 v94) true) λw_15=>
 bind1 (gd w_15 (ldV (C.ti Qr) false s_1 v98)) λv99=>
 bindB (Slot.isB (gdV w_11 v94) true) λw_16=>
 gB w_16 Qr .neq v99 (iv 1) λv100=>
 iF v91 λw_17=>
 bind1 (gd w_17 (pickS (gdV w_11 v94) v100 (bv false))) λv101=>
 iF v91 λw_18=>
 bindB (Slot.isB (gdV w_18 v101) true) λw_19=>
 bindB (Slot.isB (gdV w_18 v101) true) λw_20=>
 bind1 (gd w_20 (nilCheckV (gdV w_19 x3))) λv104=>
 bindB (Slot.isB (gdV w_18 v101) true) λw_21=>
 bind1 (gd w_21 (faV 0 v104)) λv105=>
 bindB (Slot.isB (gdV w_18 v101) true) λw_22=>
 bind1 (gd w_22 (ldV (C.ti Qr) false s_1 v105)) λv106=>
 bindB (Slot.isB (gdV w_18 v101) true) λw_23=>
 gB w_23 Qr .neq v106 (iv 2) λv107=>
 iF v91 λw_24=>
 bind1 (gd w_24 (pickS (gdV w_18 v101) v107 (bv false))) λv108=>
 pk v91 (bv true) v108 λv109=>
 condS v109 (
 some (.ret (iv 29),s_1)) (
 bind1 (nilCheckV x3) λv111=>
 fa 0 v111 λv112=>
 ld Qr s_1 v112 λv113=>
 bn Qr .eql v113 (iv 1) λv115=>
 condS v115 (
 bind1 (nilCheckV x3) λv117=>
 fa 5 v117 λv118=>
 ld Q8 s_1 v118 λv119=>
 ln Q8 v119 λv120=>
 bn Q2 .eql v120 (iv 1) λv121=>
 nt v121 λv165=>
 condS v165 (
 some (.ret (iv 19),s_1)) (
 some (.ret (iv 0),s_1))) (
 bn Qr .eql v113 (iv 2) λv123=>
 condS v123 (
 nt x5 λv165_1=>
 condS v165_1 (
 some (.ret (iv 19),s_1)) (
 some (.ret (iv 0),s_1))) (
 bn Qr .eql v113 (iv 3) λv126=>
 condS v126 (
 bind1 (nilCheckV x3) λv128=>
 fa 2 v128 λv129=>
 ld Q1 s_1 v129 λv130=>
 ca Q2a [v130] s_1 λv131 s_2=>
 nt v131 λv132=>
 condS v132 (
 some (.ret (iv 8),s_2)) (
 bind1 (nilCheckV x3) λv134=>
 fa 3 v134 λv135=>
 ld Q2 s_2 v135 λv136=>
 bn Q2 .geq v136 (iv 0) λv137=>
 iT v137 λw_25=>
 iT v137 λw_26=>
 bind1 (gd w_26 (nilCheckV (gdV w_25 x3))) λv140=>
 iT v137 λw_27=>
 bind1 (gd w_27 (faV 3 v140)) λv141=>
 iT v137 λw_28=>
 bind1 (gd w_28 (ldV (C.ti Q2) false s_2 v141)) λv142=>
 iT v137 λw_29=>
 gB w_29 Q2 .leq v142 (iv 8) λv143=>
 pk v137 v143 (bv false) λv144=>
 iT v144 λw_30=>
 pk v144 (gdV w_30 x7) (bv false) λv147=>
 iT v147 λw_31=>
 iT v147 λw_32=>
 bind1 (gd w_32 (nilCheckV (gdV w_31 x3))) λv150=>
 iT v147 λw_33=>
 bind1 (gd w_33 (faV 4 v150)) λv151=>
 iT v147 λw_34=>
 bind1 (gd w_34 (ldV (C.ti Qx) false s_2 v151)) λv152=>
 iT v147 λw_35=>
 gL w_35 Qx v152 λv153=>
 iT v147 λw_36=>
 gB w_36 Q2 .leq v153 (iv 64) λv154=>
 pk v147 v154 (bv false) λv155=>
 nt v155 λv165_2=>
 condS v165_2 (
 some (.ret (iv 19),s_2)) (
 some (.ret (iv 0),s_2)))) (
 bn Qr .eql v113 (iv 4) λv157=>
 condS v157 (
 bind1 (nilCheckV x3) λv159=>
 fa 4 v159 λv160=>
 ld Qx s_1 v160 λv161=>
 ln Qx v161 λv162=>
 bn Q2 .eql v162 (iv 1) λv163=>
 nt v163 λv165_3=>
 condS v165_3 (
 some (.ret (iv 19),s_1)) (
 some (.ret (iv 0),s_1))) (
 bind1 (unS .not (bv true)) λv165_4=>
 condS v165_4 (
 some (.ret (iv 19),s_1)) (
 some (.ret (iv 0),s_1))))))):=by intros;unfold QZ;exact (QX _).trans (by kernel_rfl)
theorem Q82(a0:AV)(s:St):cw (.f Q0g) [a0] s =
 bx Z2 (.val a0) λc1=>
 gC Q2w 0 c1 λv11=>
 bind1 (nilCheckV v11) λv13=>
 fa 5 v13 λv14=>
 ld Q8 s v14 λv15=>
 ln Q8 v15 λv16=>
 bn Q2 .gtr v16 (iv 0) λv17=>
 bind1 (nilCheckV v11) λv19=>
 fa 6 v19 λv20=>
 ld Qz s v20 λv21=>
 ln Qz v21 λv22=>
 bn Q2 .gtr v22 (iv 0) λv23=>
 bind1 (nilCheckV v11) λv25=>
 fa 2 v25 λv26=>
 ld Q1 s v26 λv27=>
 bn Q1 .neq v27 (sv []) λv28=>
 iF v28 λw=>
 iF v28 λw_1=>
 bind1 (gd w_1 (nilCheckV (gdV w v11))) λv31=>
 iF v28 λw_2=>
 bind1 (gd w_2 (faV 3 v31)) λv32=>
 iF v28 λw_3=>
 bind1 (gd w_3 (ldV (C.ti Q2) false s v32)) λv33=>
 iF v28 λw_4=>
 gB w_4 Q2 .neq v33 (iv 0) λv34=>
 pk v28 (bv true) v34 λv35=>
 bind1 (nilCheckV v11) λv37=>
 fa 4 v37 λv38=>
 ld Qx s v38 λv39=>
 ln Qx v39 λv40=>
 bn Q2 .gtr v40 (iv 0) λv41=>
 bind1 (nilCheckV v11) λv43=>
 fa 0 v43 λv44=>
 ld Qr s v44 λv45=>
 bn Qr .eql v45 (iv 1) λv47=>
 condS v47 (
 nt v23 λv49=>
 iT v49 λw_5=>
 iT v49 λw_6=>
 bind1 (gd w_6 (unS .not (gdV w_5 v35))) λv52=>
 pk v49 v52 (bv false) λv53=>
 iT v53 λw_7=>
 iT v53 λw_8=>
 bind1 (gd w_8 (unS .not (gdV w_7 v41))) λv56=>
 pk v53 v56 (bv false) λv57=>
 QZ c1 v11 v23 v41 v57 s) (
 bn Qr .eql v45 (iv 2) λv59=>
 condS v59 (
 nt v17 λv61=>
 iT v61 λw_37=>
 iT v61 λw_38=>
 bind1 (gd w_38 (unS .not (gdV w_37 v35))) λv64=>
 pk v61 v64 (bv false) λv65=>
 iT v65 λw_39=>
 iT v65 λw_40=>
 bind1 (gd w_40 (unS .not (gdV w_39 v41))) λv68=>
 pk v65 v68 (bv false) λv69=>
 QZ c1 v11 v23 v41 v69 s) (
 bn Qr .eql v45 (iv 3) λv71=>
 condS v71 (
 nt v17 λv73=>
 iT v73 λw_41=>
 iT v73 λw_42=>
 bind1 (gd w_42 (unS .not (gdV w_41 v23))) λv76=>
 pk v73 v76 (bv false) λv77=>
 QZ c1 v11 v23 v41 v77 s) (
 bn Qr .eql v45 (iv 4) λv79=>
 condS v79 (
 nt v17 λv81=>
 iT v81 λw_43=>
 iT v81 λw_44=>
 bind1 (gd w_44 (unS .not (gdV w_43 v23))) λv84=>
 pk v81 v84 (bv false) λv85=>
 iT v85 λw_45=>
 iT v85 λw_46=>
 bind1 (gd w_46 (unS .not (gdV w_45 v35))) λv88=>
 pk v85 v88 (bv false) λv89=>
 QZ c1 v11 v23 v41 v89 s) (
 QZ c1 v11 v23 v41 (bv false) s)))):=(Q5 _ _ _).trans (by kernel_rfl)
theorem Qhs(a0:AV)(s:St):cw (.f Q2a) [a0] s =
 bn Q1 .neq (.val a0) (sv []) λv4=>
 iT v4 λw=>
 iT v4 λw_1=>
 bind1 (gd w_1 (indexS (C.ti Q1) (C.ti T_0) (gdV w (.val a0)) (iv 0))) λv7=>
 iT v4 λw_2=>
 cg w_2 Q4A [v7] s λv8 s_1=>
 pk v4 v8 (bv false) λv9=>
 iT v9 λw_3=>
 iT v9 λw_4=>
 cg w_4 Q4z [(gdV w_3 (.val a0))] s_1 λv12 s_2=>
 pk v9 v12 (bv false) λv13=>
 iT v13 λw_5=>
 iT v13 λw_6=>
 gB w_6 Q1 .add (sv [32]) (gdV w_5 (.val a0)) λv16=>
 iT v13 λw_7=>
 gB w_7 Q1 .add v16 (sv [32]) λv17=>
 iT v13 λw_8=>
 cg w_8 Q2R [(.val (.str QbM)),v17] s_2 λv18 s_3=>
 iT v13 λw_9=>
 gN w_9 v18 λv19=>
 pk v13 v19 (bv false) λv20=>
 some (.ret v20,s_3):=(Q5 _ _ _).trans (by kernel_rfl)
theorem QbG(a0:AV)(s:St):cw (.f Q4B) [a0] s =
 bx Z1 (.val a0) λc1=>
 gC Qu 3 c1 λv5=>
 bx Qu v5 λc=>
 pZ Qu c λc3=>
 gC Qy 2 c1 λv8=>
 nt v8 λv9=>
 iT v9 λw=>
 iT v9 λw_1=>
 gG w_1 w Qs 0 c3 λv12=>
 iT v9 λw_2=>
 gB w_2 Qs .neq v12 (iv 0) λv13=>
 iT v9 λw_3=>
 bindB (Slot.isB (gdV w_3 v13) false) λw_4=>
 bindB (Slot.isB (gdV w_3 v13) false) λw_5=>
 gG w_5 w_4 Q2 1 c3 λv16=>
 bindB (Slot.isB (gdV w_3 v13) false) λw_6=>
 gB w_6 Q2 .neq v16 (iv 0) λv17=>
 iT v9 λw_7=>
 bind1 (gd w_7 (pickS (gdV w_3 v13) (bv true) v17)) λv18=>
 iT v9 λw_8=>
 bindB (Slot.isB (gdV w_8 v18) false) λw_9=>
 bindB (Slot.isB (gdV w_8 v18) false) λw_10=>
 gG w_10 w_9 Q1 2 c3 λv21=>
 bindB (Slot.isB (gdV w_8 v18) false) λw_11=>
 gB w_11 Q1 .neq v21 (sv []) λv22=>
 iT v9 λw_12=>
 bind1 (gd w_12 (pickS (gdV w_8 v18) (bv true) v22)) λv23=>
 iT v9 λw_13=>
 bindB (Slot.isB (gdV w_13 v23) false) λw_14=>
 bindB (Slot.isB (gdV w_13 v23) false) λw_15=>
 gG w_15 w_14 Ql 3 c3 λv26=>
 bindB (Slot.isB (gdV w_13 v23) false) λw_16=>
 gL w_16 Ql v26 λv27=>
 bindB (Slot.isB (gdV w_13 v23) false) λw_17=>
 gB w_17 Q2 .gtr v27 (iv 0) λv28=>
 iT v9 λw_18=>
 bind1 (gd w_18 (pickS (gdV w_13 v23) (bv true) v28)) λv29=>
 pk v9 v29 (bv false) λv30=>
 condS v30 (
 some (.ret (iv 29),s)) (
 gC Q1 0 c1 λv33=>
 ca Q3d [v33] s λv34 s_1=>
 nt v34 λv35=>
 condS v35 (
 some (.ret (iv 8),s_1)) (
 some (.ret (iv 0),s_1))):=(Q5 _ _ _).trans (by kernel_rfl)
theorem QbH(a0:AV)(s:St):cw (.f Q4C) [a0] s =
 bindL (boxCells (C.ti Q6) (.val a0)) λc1=>
 bind1 (ofSlots (C.ti Q3) (List.take (C.ti Q3).size (List.drop 0 c1))) λv7=>
 back (cal cw true (tgtV (.val (.fn Q93 [])) [v7]) s) λv8 s_1=>
 bind1 (extractS v8 0) λv9=>
 bind1 (extractS v8 1) λv10=>
 bindL (boxCells (C.ti Q0) v9) λc=>
 bindL (putAt (List.map .val (C.ti Q0).zero) 0 c) λc3=>
 bind1 (unS .not v10) λv13=>
 bindB (Slot.isB v13 false) λw=>
 bindB (Slot.isB v13 false) λw_1=>
 bind1 (gd w_1 (bif w then (ofSlots (C.ti Qy) (List.take (C.ti Qy).size (List.drop 0 c3))) else none)) λv16=>
 bindB (Slot.isB v13 false) λw_2=>
 bind1 (gd w_2 (unS .not v16)) λv17=>
 bindB (Slot.isB v13 false) λw_3=>
 bindB (Slot.isB (gdV w_3 v17) true) λw_4=>
 bindB (Slot.isB (gdV w_3 v17) true) λw_5=>
 bind1 (gd w_5 (bif w_4 then (ofSlots (C.ti Q1) (List.take (C.ti Q1).size (List.drop 2 c1))) else none)) λv20=>
 bindB (Slot.isB (gdV w_3 v17) true) λw_6=>
 bind1 (gd w_6 (binS (C.ti Q1) .neq v20 (.val (.str [])))) λv21=>
 bindB (Slot.isB v13 false) λw_7=>
 bind1 (gd w_7 (pickS (gdV w_3 v17) v21 (.val (.bool false)))) λv22=>
 bind1 (pickS v13 (.val (.bool true)) v22) λv23=>
 bindB (Slot.isB v23 false) λw_8=>
 bindB (Slot.isB v23 false) λw_9=>
 bind1 (gd w_9 (bif w_8 then (ofSlots (C.ti Qy) (List.take (C.ti Qy).size (List.drop 1 c3))) else none)) λv26=>
 bindB (Slot.isB v23 false) λw_10=>
 bind1 (gd w_10 (unS .not v26)) λv27=>
 bindB (Slot.isB v23 false) λw_11=>
 bindB (Slot.isB (gdV w_11 v27) true) λw_12=>
 bindB (Slot.isB (gdV w_11 v27) true) λw_13=>
 bind1 (gd w_13 (bif w_12 then (ofSlots (C.ti Q2) (List.take (C.ti Q2).size (List.drop 3 c1))) else none)) λv30=>
 bindB (Slot.isB (gdV w_11 v27) true) λw_14=>
 bind1 (gd w_14 (binS (C.ti Q2) .neq v30 (.val (.int .i64 0)))) λv31=>
 bindB (Slot.isB v23 false) λw_15=>
 bind1 (gd w_15 (pickS (gdV w_11 v27) v31 (.val (.bool false)))) λv32=>
 bind1 (pickS v23 (.val (.bool true)) v32) λv33=>
 bindB (Slot.isB v33 false) λw_16=>
 bindB (Slot.isB v33 false) λw_17=>
 bind1 (gd w_17 (bif w_16 then (ofSlots (C.ti Qy) (List.take (C.ti Qy).size (List.drop 2 c3))) else none)) λv36=>
 bindB (Slot.isB v33 false) λw_18=>
 bind1 (gd w_18 (unS .not v36)) λv37=>
 bindB (Slot.isB v33 false) λw_19=>
 bindB (Slot.isB (gdV w_19 v37) true) λw_20=>
 bindB (Slot.isB (gdV w_19 v37) true) λw_21=>
 bind1 (gd w_21 (bif w_20 then (ofSlots (C.ti Q8) (List.take (C.ti Q8).size (List.drop 5 c1))) else none)) λv40=>
 bindB (Slot.isB (gdV w_19 v37) true) λw_22=>
 bind1 (gd w_22 (lenS (C.ti Q8) v40)) λv41=>
 bindB (Slot.isB (gdV w_19 v37) true) λw_23=>
 bind1 (gd w_23 (binS (C.ti Q2) .gtr v41 (.val (.int .i64 0)))) λv42=>
 bindB (Slot.isB v33 false) λw_24=>
 bind1 (gd w_24 (pickS (gdV w_19 v37) v42 (.val (.bool false)))) λv43=>
 bind1 (pickS v33 (.val (.bool true)) v43) λv44=>
 bindB (Slot.isB v44 false) λw_25=>
 bindB (Slot.isB v44 false) λw_26=>
 bind1 (gd w_26 (bif w_25 then (ofSlots (C.ti Qy) (List.take (C.ti Qy).size (List.drop 3 c3))) else none)) λv47=>
 bindB (Slot.isB v44 false) λw_27=>
 bind1 (gd w_27 (unS .not v47)) λv48=>
 bindB (Slot.isB v44 false) λw_28=>
 bindB (Slot.isB (gdV w_28 v48) true) λw_29=>
 bindB (Slot.isB (gdV w_28 v48) true) λw_30=>
 bind1 (gd w_30 (bif w_29 then (ofSlots (C.ti Qw) (List.take (C.ti Qw).size (List.drop 6 c1))) else none)) λv51=>
 bindB (Slot.isB (gdV w_28 v48) true) λw_31=>
 bind1 (gd w_31 (lenS (C.ti Qw) v51)) λv52=>
 bindB (Slot.isB (gdV w_28 v48) true) λw_32=>
 bind1 (gd w_32 (binS (C.ti Q2) .gtr v52 (.val (.int .i64 0)))) λv53=>
 bindB (Slot.isB v44 false) λw_33=>
 bind1 (gd w_33 (pickS (gdV w_28 v48) v53 (.val (.bool false)))) λv54=>
 bind1 (pickS v44 (.val (.bool true)) v54) λv55=>
 bindB (Slot.isB v55 false) λw_34=>
 bindB (Slot.isB v55 false) λw_35=>
 bind1 (gd w_35 (bif w_34 then (ofSlots (C.ti Q2) (List.take (C.ti Q2).size (List.drop 5 c3))) else none)) λv58=>
 bindB (Slot.isB v55 false) λw_36=>
 bind1 (gd w_36 (binS (C.ti Q2) .eql v58 (.val (.int .i64 0)))) λv59=>
 bindB (Slot.isB v55 false) λw_37=>
 bindB (Slot.isB (gdV w_37 v59) true) λw_38=>
 bindB (Slot.isB (gdV w_37 v59) true) λw_39=>
 bind1 (gd w_39 (bif w_38 then (ofSlots (C.ti Q7) (List.take (C.ti Q7).size (List.drop 4 c1))) else none)) λv62=>
 bindB (Slot.isB (gdV w_37 v59) true) λw_40=>
 bind1 (gd w_40 (lenS (C.ti Q7) v62)) λv63=>
 bindB (Slot.isB (gdV w_37 v59) true) λw_41=>
 bind1 (gd w_41 (binS (C.ti Q2) .gtr v63 (.val (.int .i64 0)))) λv64=>
 bindB (Slot.isB v55 false) λw_42=>
 bind1 (gd w_42 (pickS (gdV w_37 v59) v64 (.val (.bool false)))) λv65=>
 bind1 (pickS v55 (.val (.bool true)) v65) λv66=>
 condS v66 (
 some (.ret (.val (.int .i64 29)),s_1)) (
 bind1 (ofSlots (C.ti Q3) (List.take (C.ti Q3).size (List.drop 0 c1))) λv69=>
 bind1 (binS (C.ti Q3) .eql v69 (.val (.int .i64 2))) λv70=>
 bindB (Slot.isB v70 true) λw_43=>
 bindB (Slot.isB v70 true) λw_44=>
 bind1 (gd w_44 (bif w_43 then (ofSlots (C.ti Q1) (List.take (C.ti Q1).size (List.drop 2 c1))) else none)) λv73=>
 bindB (Slot.isB v70 true) λw_45=>
 back (cal cw w_45 (tgtV (.val (.fn Q2a [])) [v73]) s_1) λv74 s_2=>
 bindB (Slot.isB v70 true) λw_46=>
 bind1 (gd w_46 (unS .not v74)) λv75=>
 bind1 (pickS v70 v75 (.val (.bool false))) λv76=>
 bindB (Slot.isB v76 false) λw_47=>
 bindB (Slot.isB v76 false) λw_48=>
 bind1 (gd w_48 (bif w_47 then (ofSlots (C.ti Q3) (List.take (C.ti Q3).size (List.drop 0 c1))) else none)) λv79=>
 bindB (Slot.isB v76 false) λw_49=>
 bind1 (gd w_49 (binS (C.ti Q3) .eql v79 (.val (.int .i64 3)))) λv80=>
 bindB (Slot.isB v76 false) λw_50=>
 bindB (Slot.isB (gdV w_50 v80) true) λw_51=>
 bindB (Slot.isB (gdV w_50 v80) true) λw_52=>
 bind1 (gd w_52 (bif w_51 then (ofSlots (C.ti Q1) (List.take (C.ti Q1).size (List.drop 2 c1))) else none)) λv83=>
 bindB (Slot.isB (gdV w_50 v80) true) λw_53=>
 back (cal cw w_53 (tgtV (.val (.fn Q15 [])) [v83]) s_2) λv84 s_3=>
 bindB (Slot.isB (gdV w_50 v80) true) λw_54=>
 bind1 (gd w_54 (unS .not v84)) λv85=>
 bindB (Slot.isB v76 false) λw_55=>
 bind1 (gd w_55 (pickS (gdV w_50 v80) v85 (.val (.bool false)))) λv86=>
 bind1 (pickS v76 (.val (.bool true)) v86) λv87=>
 condS v87 (
 some (.ret (.val (.int .i64 8)),s_3)) (
 bind1 (ofSlots (C.ti Q3) (List.take (C.ti Q3).size (List.drop 0 c1))) λv90=>
 bind1 (binS (C.ti Q3) .eql v90 (.val (.int .i64 1))) λv91=>
 bindB (Slot.isB v91 true) λw_56=>
 bindB (Slot.isB v91 true) λw_57=>
 bind1 (gd w_57 (bif w_56 then (ofSlots (C.ti Q2) (List.take (C.ti Q2).size (List.drop 3 c1))) else none)) λv94=>
 bindB (Slot.isB v91 true) λw_58=>
 back (cal cw w_58 (tgtV (.val (.fn Q4y [])) [v94]) s_3) λv95 s_4=>
 bindB (Slot.isB v91 true) λw_59=>
 bind1 (gd w_59 (unS .not v95)) λv96=>
 bind1 (pickS v91 v96 (.val (.bool false))) λv97=>
 bindB (Slot.isB v97 false) λw_60=>
 bindB (Slot.isB v97 false) λw_61=>
 bind1 (gd w_61 (bif w_60 then (ofSlots (C.ti Q3) (List.take (C.ti Q3).size (List.drop 0 c1))) else none)) λv100=>
 bindB (Slot.isB v97 false) λw_62=>
 bind1 (gd w_62 (binS (C.ti Q3) .eql v100 (.val (.int .i64 13)))) λv101=>
 bindB (Slot.isB v97 false) λw_63=>
 bindB (Slot.isB (gdV w_63 v101) true) λw_64=>
 bindB (Slot.isB (gdV w_63 v101) true) λw_65=>
 bind1 (gd w_65 (bif w_64 then (ofSlots (C.ti Q2) (List.take (C.ti Q2).size (List.drop 3 c1))) else none)) λv104=>
 bindB (Slot.isB (gdV w_63 v101) true) λw_66=>
 bind1 (gd w_66 (binS (C.ti Q2) .lss v104 (.val (.int .i64 1)))) λv105=>
 bindB (Slot.isB (gdV w_63 v101) true) λw_67=>
 bindB (Slot.isB (gdV w_67 v105) false) λw_68=>
 bindB (Slot.isB (gdV w_67 v105) false) λw_69=>
 bind1 (gd w_69 (bif w_68 then (ofSlots (C.ti Q2) (List.take (C.ti Q2).size (List.drop 3 c1))) else none)) λv108=>
 bindB (Slot.isB (gdV w_67 v105) false) λw_70=>
 bind1 (gd w_70 (binS (C.ti Q2) .gtr v108 (.val (.int .i64 9)))) λv109=>
 bindB (Slot.isB (gdV w_63 v101) true) λw_71=>
 bind1 (gd w_71 (pickS (gdV w_67 v105) (.val (.bool true)) v109)) λv110=>
 bindB (Slot.isB v97 false) λw_72=>
 bind1 (gd w_72 (pickS (gdV w_63 v101) v110 (.val (.bool false)))) λv111=>
 bind1 (pickS v97 (.val (.bool true)) v111) λv112=>
 condS v112 (
 some (.ret (.val (.int .i64 2)),s_4)) (
 bind1 (ofSlots (C.ti Q7) (List.take (C.ti Q7).size (List.drop 4 c1))) λv115=>
 bind1 (lenS (C.ti Q7) v115) λv116=>
 bind1 (ofSlots (C.ti Q2) (List.take (C.ti Q2).size (List.drop 4 c3))) λv118=>
 bind1 (binS (C.ti Q2) .lss v116 v118) λv119=>
 bindB (Slot.isB v119 false) λw_73=>
 bindB (Slot.isB v119 false) λw_74=>
 bind1 (gd w_74 (bif w_73 then (ofSlots (C.ti Q7) (List.take (C.ti Q7).size (List.drop 4 c1))) else none)) λv122=>
 bindB (Slot.isB v119 false) λw_75=>
 bind1 (gd w_75 (lenS (C.ti Q7) v122)) λv123=>
 bindB (Slot.isB v119 false) λw_76=>
 bindB (Slot.isB v119 false) λw_77=>
 bind1 (gd w_77 (bif w_76 then (ofSlots (C.ti Q2) (List.take (C.ti Q2).size (List.drop 5 c3))) else none)) λv125=>
 bindB (Slot.isB v119 false) λw_78=>
 bind1 (gd w_78 (binS (C.ti Q2) .gtr v123 v125)) λv126=>
 bind1 (pickS v119 (.val (.bool true)) v126) λv127=>
 bindB (Slot.isB v127 false) λw_79=>
 bindB (Slot.isB v127 false) λw_80=>
 bind1 (gd w_80 (bif w_79 then (ofSlots (C.ti Qy) (List.take (C.ti Qy).size (List.drop 2 c3))) else none)) λv130=>
 bindB (Slot.isB v127 false) λw_81=>
 bindB (Slot.isB (gdV w_81 v130) true) λw_82=>
 bindB (Slot.isB (gdV w_81 v130) true) λw_83=>
 bind1 (gd w_83 (bif w_82 then (ofSlots (C.ti Q8) (List.take (C.ti Q8).size (List.drop 5 c1))) else none)) λv133=>
 bindB (Slot.isB (gdV w_81 v130) true) λw_84=>
 bind1 (gd w_84 (lenS (C.ti Q8) v133)) λv134=>
 bindB (Slot.isB (gdV w_81 v130) true) λw_85=>
 bind1 (gd w_85 (binS (C.ti Q2) .eql v134 (.val (.int .i64 0)))) λv135=>
 bindB (Slot.isB v127 false) λw_86=>
 bind1 (gd w_86 (pickS (gdV w_81 v130) v135 (.val (.bool false)))) λv136=>
 bind1 (pickS v127 (.val (.bool true)) v136) λv137=>
 bindB (Slot.isB v137 false) λw_87=>
 bindB (Slot.isB v137 false) λw_88=>
 bind1 (gd w_88 (bif w_87 then (ofSlots (C.ti Qy) (List.take (C.ti Qy).size (List.drop 3 c3))) else none)) λv140=>
 bindB (Slot.isB v137 false) λw_89=>
 bindB (Slot.isB (gdV w_89 v140) true) λw_90=>
 bindB (Slot.isB (gdV w_89 v140) true) λw_91=>
 bind1 (gd w_91 (bif w_90 then (ofSlots (C.ti Qw) (List.take (C.ti Qw).size (List.drop 6 c1))) else none)) λv143=>
 bindB (Slot.isB (gdV w_89 v140) true) λw_92=>
 bind1 (gd w_92 (lenS (C.ti Qw) v143)) λv144=>
 bindB (Slot.isB (gdV w_89 v140) true) λw_93=>
 bind1 (gd w_93 (binS (C.ti Q2) .eql v144 (.val (.int .i64 0)))) λv145=>
 bindB (Slot.isB v137 false) λw_94=>
 bind1 (gd w_94 (pickS (gdV w_89 v140) v145 (.val (.bool false)))) λv146=>
 bind1 (pickS v137 (.val (.bool true)) v146) λv147=>
 condS v147 (
 some (.ret (.val (.int .i64 19)),s_4)) (
 some (.ret (.val (.int .i64 0)),s_4))))):=(Q5 _ _ _).trans (by kernel_rfl)
end Go.Proofs.YtgfhplcmcdimiaaGreatDoor