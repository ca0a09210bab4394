/- A part of the proof: G3. -/
import Derived.Test.YtobelgghegmhhaaGreatDoorM4
set_option linter.unusedVariables false
set_option linter.unusedSimpArgs false
namespace Go.Proofs.YtobelgghegmhhaaGreatDoor
open Go Go.Am
set_option linter.unusedVariables false
theorem Q5I (a0 : AV) (s : St) : cw (.f Q6h) [a0] s =
 bind1 (binS (C.ti Q4) .eql (.val a0) (.val (.int .i64 1))) fun v6 =>
 condS v6 (
 bindL (boxCells (C.ti Qj) (.val (.bool true))) fun c =>
 bindL (putAt (List.map .val (C.ti Q0).zero) 1 c) fun c2 =>
 bind1 (ofSlots (C.ti Q0) (List.take (C.ti Q0).size c2)) fun v58 =>
 bindL (boxCells (C.ti Q0) v58) fun c_1 =>
 bindL (putAt c2 0 c_1) fun c2_1 =>
 bind1 (tupS [(ofSlots (C.ti Q0) (List.take (C.ti Q0).size c2_1)), (some (.val (.bool true)))]) fun v => some (.ret v, s)) (
 bind1 (binS (C.ti Q4) .eql (.val a0) (.val (.int .i64 2))) fun v8 =>
 condS v8 (
 bindL (boxCells (C.ti Qj) (.val (.bool true))) fun c_2 =>
 bindL (putAt (List.map .val (C.ti Q0).zero) 0 c_2) fun c2_2 =>
 bind1 (ofSlots (C.ti Q0) (List.take (C.ti Q0).size c2_2)) fun v58_1 =>
 bindL (boxCells (C.ti Q0) v58_1) fun c_3 =>
 bindL (putAt c2_2 0 c_3) fun c2_3 =>
 bind1 (tupS [(ofSlots (C.ti Q0) (List.take (C.ti Q0).size c2_3)), (some (.val (.bool true)))]) fun v => some (.ret v, s)) (
 bind1 (binS (C.ti Q4) .eql (.val a0) (.val (.int .i64 3))) fun v10 =>
 condS v10 (
 bindL (boxCells (C.ti Qj) (.val (.bool true))) fun c_4 =>
 bindL (putAt (List.map .val (C.ti Q0).zero) 0 c_4) fun c2_4 =>
 bindL (boxCells (C.ti Q1) (.val (.int .i64 1))) fun c_5 =>
 bindL (putAt c2_4 5 c_5) fun c2_5 =>
 bind1 (ofSlots (C.ti Q0) (List.take (C.ti Q0).size c2_5)) fun v58_2 =>
 bindL (boxCells (C.ti Q0) v58_2) fun c_6 =>
 bindL (putAt c2_5 0 c_6) fun c2_6 =>
 bind1 (tupS [(ofSlots (C.ti Q0) (List.take (C.ti Q0).size c2_6)), (some (.val (.bool true)))]) fun v => some (.ret v, s)) (
 bind1 (binS (C.ti Q4) .eql (.val a0) (.val (.int .i64 4))) fun v12 =>
 condS v12 (
 bindL (boxCells (C.ti Q1) (.val (.int .i64 2))) fun c_7 =>
 bindL (putAt (List.map .val (C.ti Q0).zero) 4 c_7) fun c2_7 =>
 bindL (boxCells (C.ti Q1) (.val (.int .i64 8))) fun c_8 =>
 bindL (putAt c2_7 5 c_8) fun c2_8 =>
 bind1 (ofSlots (C.ti Q0) (List.take (C.ti Q0).size c2_8)) fun v58_3 =>
 bindL (boxCells (C.ti Q0) v58_3) fun c_9 =>
 bindL (putAt c2_8 0 c_9) fun c2_9 =>
 bind1 (tupS [(ofSlots (C.ti Q0) (List.take (C.ti Q0).size c2_9)), (some (.val (.bool true)))]) fun v => some (.ret v, s)) (
 bind1 (binS (C.ti Q4) .eql (.val a0) (.val (.int .i64 5))) fun v14 =>
 condS v14 (
 bindL (boxCells (C.ti Qj) (.val (.bool true))) fun c_10 =>
 bindL (putAt (List.map .val (C.ti Q0).zero) 2 c_10) fun c2_10 =>
 bind1 (ofSlots (C.ti Q0) (List.take (C.ti Q0).size c2_10)) fun v58_4 =>
 bindL (boxCells (C.ti Q0) v58_4) fun c_11 =>
 bindL (putAt c2_10 0 c_11) fun c2_11 =>
 bind1 (tupS [(ofSlots (C.ti Q0) (List.take (C.ti Q0).size c2_11)), (some (.val (.bool true)))]) fun v => some (.ret v, s)) (
 bind1 (binS (C.ti Q4) .eql (.val a0) (.val (.int .i64 10))) fun v16 =>
 condS v16 (
 bindL (boxCells (C.ti Q1) (.val (.int .i64 2))) fun c_12 =>
 bindL (putAt (List.map .val (C.ti Q0).zero) 4 c_12) fun c2_12 =>
 bindL (boxCells (C.ti Q1) (.val (.int .i64 4611686018427387904))) fun c_13 =>
 bindL (putAt c2_12 5 c_13) fun c2_13 =>
 bind1 (ofSlots (C.ti Q0) (List.take (C.ti Q0).size c2_13)) fun v58_5 =>
 bindL (boxCells (C.ti Q0) v58_5) fun c_14 =>
 bindL (putAt c2_13 0 c_14) fun c2_14 =>
 bind1 (tupS [(ofSlots (C.ti Q0) (List.take (C.ti Q0).size c2_14)), (some (.val (.bool true)))]) fun v => some (.ret v, s)) (
 bind1 (binS (C.ti Q4) .eql (.val a0) (.val (.int .i64 8))) fun v18 =>
 condS v18 (
 bindL (boxCells (C.ti Q1) (.val (.int .i64 3))) fun c_15 =>
 bindL (putAt (List.map .val (C.ti Q0).zero) 4 c_15) fun c2_15 =>
 bindL (boxCells (C.ti Q1) (.val (.int .i64 3))) fun c_16 =>
 bindL (putAt c2_15 5 c_16) fun c2_16 =>
 bind1 (ofSlots (C.ti Q0) (List.take (C.ti Q0).size c2_16)) fun v58_6 =>
 bindL (boxCells (C.ti Q0) v58_6) fun c_17 =>
 bindL (putAt c2_16 0 c_17) fun c2_17 =>
 bind1 (tupS [(ofSlots (C.ti Q0) (List.take (C.ti Q0).size c2_17)), (some (.val (.bool true)))]) fun v => some (.ret v, s)) (
 bind1 (binS (C.ti Q4) .eql (.val a0) (.val (.int .i64 7))) fun v20 =>
 condS v20 (
 bindL (boxCells (C.ti Qj) (.val (.bool true))) fun c_18 =>
 bindL (putAt (List.map .val (C.ti Q0).zero) 3 c_18) fun c2_18 =>
 bindL (boxCells (C.ti Q1) (.val (.int .i64 1))) fun c_19 =>
 bindL (putAt c2_18 4 c_19) fun c2_19 =>
 bindL (boxCells (C.ti Q1) (.val (.int .i64 1))) fun c_20 =>
 bindL (putAt c2_19 5 c_20) fun c2_20 =>
 bind1 (ofSlots (C.ti Q0) (List.take (C.ti Q0).size c2_20)) fun v58_7 =>
 bindL (boxCells (C.ti Q0) v58_7) fun c_21 =>
 bindL (putAt c2_20 0 c_21) fun c2_21 =>
 bind1 (tupS [(ofSlots (C.ti Q0) (List.take (C.ti Q0).size c2_21)), (some (.val (.bool true)))]) fun v => some (.ret v, s)) (
 bind1 (binS (C.ti Q4) .eql (.val a0) (.val (.int .i64 9))) fun v22 =>
 condS v22 (
 condS v22 (
 bindL (boxCells (C.ti Qj) (.val (.bool true))) fun c_22 =>
 bindL (putAt (List.map .val (C.ti Q0).zero) 2 c_22) fun c2_22 =>
 bindL (boxCells (C.ti Q1) (.val (.int .i64 1))) fun c_23 =>
 bindL (putAt c2_22 4 c_23) fun c2_23 =>
 bindL (boxCells (C.ti Q1) (.val (.int .i64 1))) fun c_24 =>
 bindL (putAt c2_23 5 c_24) fun c2_24 =>
 bind1 (ofSlots (C.ti Q0) (List.take (C.ti Q0).size c2_24)) fun v58_8 =>
 bindL (boxCells (C.ti Q0) v58_8) fun c_25 =>
 bindL (putAt c2_24 0 c_25) fun c2_25 =>
 bind1 (tupS [(ofSlots (C.ti Q0) (List.take (C.ti Q0).size c2_25)), (some (.val (.bool true)))]) fun v => some (.ret v, s)) (
 bind1 (binS (C.ti Q4) .eql (.val a0) (.val (.int .i64 12))) fun v25 =>
 condS v25 (
 condS v25 (
 bindL (boxCells (C.ti Q1) (.val (.int .i64 1))) fun c_26 =>
 bindL (putAt (List.map .val (C.ti Q0).zero) 4 c_26) fun c2_26 =>
 bindL (boxCells (C.ti Q1) (.val (.int .i64 1))) fun c_27 =>
 bindL (putAt c2_26 5 c_27) fun c2_27 =>
 bind1 (ofSlots (C.ti Q0) (List.take (C.ti Q0).size c2_27)) fun v58_9 =>
 bindL (boxCells (C.ti Q0) v58_9) fun c_28 =>
 bindL (putAt c2_27 0 c_28) fun c2_28 =>
 bind1 (tupS [(ofSlots (C.ti Q0) (List.take (C.ti Q0).size c2_28)), (some (.val (.bool true)))]) fun v => some (.ret v, s)) (
 bind1 (binS (C.ti Q4) .eql (.val a0) (.val (.int .i64 13))) fun v30 =>
 condS v30 (
 bindL (boxCells (C.ti Qj) (.val (.bool true))) fun c_29 =>
 bindL (putAt (List.map .val (C.ti Q0).zero) 1 c_29) fun c2_29 =>
 bindL (boxCells (C.ti Q1) (.val (.int .i64 2))) fun c_30 =>
 bindL (putAt c2_29 4 c_30) fun c2_30 =>
 bindL (boxCells (C.ti Q1) (.val (.int .i64 2))) fun c_31 =>
 bindL (putAt c2_30 5 c_31) fun c2_31 =>
 bind1 (ofSlots (C.ti Q0) (List.take (C.ti Q0).size c2_31)) fun v58_10 =>
 bindL (boxCells (C.ti Q0) v58_10) fun c_32 =>
 bindL (putAt c2_31 0 c_32) fun c2_32 =>
 bind1 (tupS [(ofSlots (C.ti Q0) (List.take (C.ti Q0).size c2_32)), (some (.val (.bool true)))]) fun v => some (.ret v, s)) (
 bind1 (binS (C.ti Q4) .eql (.val a0) (.val (.int .i64 6))) fun v32 =>
 condS v32 (
 condS v32 (
 bindL (boxCells (C.ti Q1) (.val (.int .i64 2))) fun c_33 =>
 bindL (putAt (List.map .val (C.ti Q0).zero) 4 c_33) fun c2_33 =>
 bindL (boxCells (C.ti Q1) (.val (.int .i64 2))) fun c_34 =>
 bindL (putAt c2_33 5 c_34) fun c2_34 =>
 bind1 (ofSlots (C.ti Q0) (List.take (C.ti Q0).size c2_34)) fun v58_11 =>
 bindL (boxCells (C.ti Q0) v58_11) fun c_35 =>
 bindL (putAt c2_34 0 c_35) fun c2_35 =>
 bind1 (tupS [(ofSlots (C.ti Q0) (List.take (C.ti Q0).size c2_35)), (some (.val (.bool true)))]) fun v => some (.ret v, s)) (
 bind1 (binS (C.ti Q4) .eql (.val a0) (.val (.int .i64 20))) fun v37 =>
 condS v37 (
 bind1 (ofSlots (C.ti Q0) (List.take (C.ti Q0).size (List.map .val (C.ti Q0).zero))) fun v58_12 =>
 bindL (boxCells (C.ti Q0) v58_12) fun c_36 =>
 bindL (putAt (List.map .val (C.ti Q0).zero) 0 c_36) fun c2_36 =>
 bind1 (tupS [(ofSlots (C.ti Q0) (List.take (C.ti Q0).size c2_36)), (some (.val (.bool true)))]) fun v => some (.ret v, s)) (
 bind1 (ofSlots (C.ti Q0) (List.take (C.ti Q0).size (List.map .val (C.ti Q0).zero))) fun v58_13 =>
 bindL (boxCells (C.ti Q0) v58_13) fun c_37 =>
 bindL (putAt (List.map .val (C.ti Q0).zero) 0 c_37) fun c2_37 =>
 bind1 (tupS [(ofSlots (C.ti Q0) (List.take (C.ti Q0).size c2_37)), (some (.val (.bool false)))]) fun v => some (.ret v, s)))) (
 bind1 (binS (C.ti Q4) .eql (.val a0) (.val (.int .i64 14))) fun v33 =>
 condS v33 (
 condS v33 (
 bindL (boxCells (C.ti Q1) (.val (.int .i64 2))) fun c_38 =>
 bindL (putAt (List.map .val (C.ti Q0).zero) 4 c_38) fun c2_38 =>
 bindL (boxCells (C.ti Q1) (.val (.int .i64 2))) fun c_39 =>
 bindL (putAt c2_38 5 c_39) fun c2_39 =>
 bind1 (ofSlots (C.ti Q0) (List.take (C.ti Q0).size c2_39)) fun v58_14 =>
 bindL (boxCells (C.ti Q0) v58_14) fun c_40 =>
 bindL (putAt c2_39 0 c_40) fun c2_40 =>
 bind1 (tupS [(ofSlots (C.ti Q0) (List.take (C.ti Q0).size c2_40)), (some (.val (.bool true)))]) fun v => some (.ret v, s)) (
 bind1 (binS (C.ti Q4) .eql (.val a0) (.val (.int .i64 20))) fun v37_1 =>
 condS v37_1 (
 bind1 (ofSlots (C.ti Q0) (List.take (C.ti Q0).size (List.map .val (C.ti Q0).zero))) fun v58_15 =>
 bindL (boxCells (C.ti Q0) v58_15) fun c_41 =>
 bindL (putAt (List.map .val (C.ti Q0).zero) 0 c_41) fun c2_41 =>
 bind1 (tupS [(ofSlots (C.ti Q0) (List.take (C.ti Q0).size c2_41)), (some (.val (.bool true)))]) fun v => some (.ret v, s)) (
 bind1 (ofSlots (C.ti Q0) (List.take (C.ti Q0).size (List.map .val (C.ti Q0).zero))) fun v58_16 =>
 bindL (boxCells (C.ti Q0) v58_16) fun c_42 =>
 bindL (putAt (List.map .val (C.ti Q0).zero) 0 c_42) fun c2_42 =>
 bind1 (tupS [(ofSlots (C.ti Q0) (List.take (C.ti Q0).size c2_42)), (some (.val (.bool false)))]) fun v => some (.ret v, s)))) (
 bind1 (binS (C.ti Q4) .eql (.val a0) (.val (.int .i64 15))) fun v34 =>
 condS v34 (
 condS v34 (
 bindL (boxCells (C.ti Q1) (.val (.int .i64 2))) fun c_43 =>
 bindL (putAt (List.map .val (C.ti Q0).zero) 4 c_43) fun c2_43 =>
 bindL (boxCells (C.ti Q1) (.val (.int .i64 2))) fun c_44 =>
 bindL (putAt c2_43 5 c_44) fun c2_44 =>
 bind1 (ofSlots (C.ti Q0) (List.take (C.ti Q0).size c2_44)) fun v58_17 =>
 bindL (boxCells (C.ti Q0) v58_17) fun c_45 =>
 bindL (putAt c2_44 0 c_45) fun c2_45 =>
 bind1 (tupS [(ofSlots (C.ti Q0) (List.take (C.ti Q0).size c2_45)), (some (.val (.bool true)))]) fun v => some (.ret v, s)) (
 bind1 (binS (C.ti Q4) .eql (.val a0) (.val (.int .i64 20))) fun v37_2 =>
 condS v37_2 (
 bind1 (ofSlots (C.ti Q0) (List.take (C.ti Q0).size (List.map .val (C.ti Q0).zero))) fun v58_18 =>
 bindL (boxCells (C.ti Q0) v58_18) fun c_46 =>
 bindL (putAt (List.map .val (C.ti Q0).zero) 0 c_46) fun c2_46 =>
 bind1 (tupS [(ofSlots (C.ti Q0) (List.take (C.ti Q0).size c2_46)), (some (.val (.bool true)))]) fun v => some (.ret v, s)) (
 bind1 (ofSlots (C.ti Q0) (List.take (C.ti Q0).size (List.map .val (C.ti Q0).zero))) fun v58_19 =>
 bindL (boxCells (C.ti Q0) v58_19) fun c_47 =>
 bindL (putAt (List.map .val (C.ti Q0).zero) 0 c_47) fun c2_47 =>
 bind1 (tupS [(ofSlots (C.ti Q0) (List.take (C.ti Q0).size c2_47)), (some (.val (.bool false)))]) fun v => some (.ret v, s)))) (
 bind1 (binS (C.ti Q4) .eql (.val a0) (.val (.int .i64 18))) fun v35 =>
 condS v35 (
 bindL (boxCells (C.ti Q1) (.val (.int .i64 2))) fun c_48 =>
 bindL (putAt (List.map .val (C.ti Q0).zero) 4 c_48) fun c2_48 =>
 bindL (boxCells (C.ti Q1) (.val (.int .i64 2))) fun c_49 =>
 bindL (putAt c2_48 5 c_49) fun c2_49 =>
 bind1 (ofSlots (C.ti Q0) (List.take (C.ti Q0).size c2_49)) fun v58_20 =>
 bindL (boxCells (C.ti Q0) v58_20) fun c_50 =>
 bindL (putAt c2_49 0 c_50) fun c2_50 =>
 bind1 (tupS [(ofSlots (C.ti Q0) (List.take (C.ti Q0).size c2_50)), (some (.val (.bool true)))]) fun v => some (.ret v, s)) (
 bind1 (binS (C.ti Q4) .eql (.val a0) (.val (.int .i64 20))) fun v37_3 =>
 condS v37_3 (
 bind1 (ofSlots (C.ti Q0) (List.take (C.ti Q0).size (List.map .val (C.ti Q0).zero))) fun v58_21 =>
 bindL (boxCells (C.ti Q0) v58_21) fun c_51 =>
 bindL (putAt (List.map .val (C.ti Q0).zero) 0 c_51) fun c2_51 =>
 bind1 (tupS [(ofSlots (C.ti Q0) (List.take (C.ti Q0).size c2_51)), (some (.val (.bool true)))]) fun v => some (.ret v, s)) (
 bind1 (ofSlots (C.ti Q0) (List.take (C.ti Q0).size (List.map .val (C.ti Q0).zero))) fun v58_22 =>
 bindL (boxCells (C.ti Q0) v58_22) fun c_52 =>
 bindL (putAt (List.map .val (C.ti Q0).zero) 0 c_52) fun c2_52 =>
 bind1 (tupS [(ofSlots (C.ti Q0) (List.take (C.ti Q0).size c2_52)), (some (.val (.bool false)))]) fun v => some (.ret v, s))))))))) (
 bind1 (binS (C.ti Q4) .eql (.val a0) (.val (.int .i64 16))) fun v26 =>
 condS v26 (
 condS v26 (
 bindL (boxCells (C.ti Q1) (.val (.int .i64 1))) fun c_53 =>
 bindL (putAt (List.map .val (C.ti Q0).zero) 4 c_53) fun c2_53 =>
 bindL (boxCells (C.ti Q1) (.val (.int .i64 1))) fun c_54 =>
 bindL (putAt c2_53 5 c_54) fun c2_54 =>
 bind1 (ofSlots (C.ti Q0) (List.take (C.ti Q0).size c2_54)) fun v58_23 =>
 bindL (boxCells (C.ti Q0) v58_23) fun c_55 =>
 bindL (putAt c2_54 0 c_55) fun c2_55 =>
 bind1 (tupS [(ofSlots (C.ti Q0) (List.take (C.ti Q0).size c2_55)), (some (.val (.bool true)))]) fun v => some (.ret v, s)) (
 bind1 (binS (C.ti Q4) .eql (.val a0) (.val (.int .i64 13))) fun v30_1 =>
 condS v30_1 (
 bindL (boxCells (C.ti Qj) (.val (.bool true))) fun c_56 =>
 bindL (putAt (List.map .val (C.ti Q0).zero) 1 c_56) fun c2_56 =>
 bindL (boxCells (C.ti Q1) (.val (.int .i64 2))) fun c_57 =>
 bindL (putAt c2_56 4 c_57) fun c2_57 =>
 bindL (boxCells (C.ti Q1) (.val (.int .i64 2))) fun c_58 =>
 bindL (putAt c2_57 5 c_58) fun c2_58 =>
 bind1 (ofSlots (C.ti Q0) (List.take (C.ti Q0).size c2_58)) fun v58_24 =>
 bindL (boxCells (C.ti Q0) v58_24) fun c_59 =>
 bindL (putAt c2_58 0 c_59) fun c2_59 =>
 bind1 (tupS [(ofSlots (C.ti Q0) (List.take (C.ti Q0).size c2_59)), (some (.val (.bool true)))]) fun v => some (.ret v, s)) (
 bind1 (binS (C.ti Q4) .eql (.val a0) (.val (.int .i64 6))) fun v32_1 =>
 condS v32_1 (
 condS v32_1 (
 bindL (boxCells (C.ti Q1) (.val (.int .i64 2))) fun c_60 =>
 bindL (putAt (List.map .val (C.ti Q0).zero) 4 c_60) fun c2_60 =>
 bindL (boxCells (C.ti Q1) (.val (.int .i64 2))) fun c_61 =>
 bindL (putAt c2_60 5 c_61) fun c2_61 =>
 bind1 (ofSlots (C.ti Q0) (List.take (C.ti Q0).size c2_61)) fun v58_25 =>
 bindL (boxCells (C.ti Q0) v58_25) fun c_62 =>
 bindL (putAt c2_61 0 c_62) fun c2_62 =>
 bind1 (tupS [(ofSlots (C.ti Q0) (List.take (C.ti Q0).size c2_62)), (some (.val (.bool true)))]) fun v => some (.ret v, s)) (
 bind1 (binS (C.ti Q4) .eql (.val a0) (.val (.int .i64 20))) fun v37_4 =>
 condS v37_4 (
 bind1 (ofSlots (C.ti Q0) (List.take (C.ti Q0).size (List.map .val (C.ti Q0).zero))) fun v58_26 =>
 bindL (boxCells (C.ti Q0) v58_26) fun c_63 =>
 bindL (putAt (List.map .val (C.ti Q0).zero) 0 c_63) fun c2_63 =>
 bind1 (tupS [(ofSlots (C.ti Q0) (List.take (C.ti Q0).size c2_63)), (some (.val (.bool true)))]) fun v => some (.ret v, s)) (
 bind1 (ofSlots (C.ti Q0) (List.take (C.ti Q0).size (List.map .val (C.ti Q0).zero))) fun v58_27 =>
 bindL (boxCells (C.ti Q0) v58_27) fun c_64 =>
 bindL (putAt (List.map .val (C.ti Q0).zero) 0 c_64) fun c2_64 =>
 bind1 (tupS [(ofSlots (C.ti Q0) (List.take (C.ti Q0).size c2_64)), (some (.val (.bool false)))]) fun v => some (.ret v, s)))) (
 bind1 (binS (C.ti Q4) .eql (.val a0) (.val (.int .i64 14))) fun v33_1 =>
 condS v33_1 (
 condS v33_1 (
 bindL (boxCells (C.ti Q1) (.val (.int .i64 2))) fun c_65 =>
 bindL (putAt (List.map .val (C.ti Q0).zero) 4 c_65) fun c2_65 =>
 bindL (boxCells (C.ti Q1) (.val (.int .i64 2))) fun c_66 =>
 bindL (putAt c2_65 5 c_66) fun c2_66 =>
 bind1 (ofSlots (C.ti Q0) (List.take (C.ti Q0).size c2_66)) fun v58_28 =>
 bindL (boxCells (C.ti Q0) v58_28) fun c_67 =>
 bindL (putAt c2_66 0 c_67) fun c2_67 =>
 bind1 (tupS [(ofSlots (C.ti Q0) (List.take (C.ti Q0).size c2_67)), (some (.val (.bool true)))]) fun v => some (.ret v, s)) (
 bind1 (binS (C.ti Q4) .eql (.val a0) (.val (.int .i64 20))) fun v37_5 =>
 condS v37_5 (
 bind1 (ofSlots (C.ti Q0) (List.take (C.ti Q0).size (List.map .val (C.ti Q0).zero))) fun v58_29 =>
 bindL (boxCells (C.ti Q0) v58_29) fun c_68 =>
 bindL (putAt (List.map .val (C.ti Q0).zero) 0 c_68) fun c2_68 =>
 bind1 (tupS [(ofSlots (C.ti Q0) (List.take (C.ti Q0).size c2_68)), (some (.val (.bool true)))]) fun v => some (.ret v, s)) (
 bind1 (ofSlots (C.ti Q0) (List.take (C.ti Q0).size (List.map .val (C.ti Q0).zero))) fun v58_30 =>
 bindL (boxCells (C.ti Q0) v58_30) fun c_69 =>
 bindL (putAt (List.map .val (C.ti Q0).zero) 0 c_69) fun c2_69 =>
 bind1 (tupS [(ofSlots (C.ti Q0) (List.take (C.ti Q0).size c2_69)), (some (.val (.bool false)))]) fun v => some (.ret v, s)))) (
 bind1 (binS (C.ti Q4) .eql (.val a0) (.val (.int .i64 15))) fun v34_1 =>
 condS v34_1 (
 condS v34_1 (
 bindL (boxCells (C.ti Q1) (.val (.int .i64 2))) fun c_70 =>
 bindL (putAt (List.map .val (C.ti Q0).zero) 4 c_70) fun c2_70 =>
 bindL (boxCells (C.ti Q1) (.val (.int .i64 2))) fun c_71 =>
 bindL (putAt c2_70 5 c_71) fun c2_71 =>
 bind1 (ofSlots (C.ti Q0) (List.take (C.ti Q0).size c2_71)) fun v58_31 =>
 bindL (boxCells (C.ti Q0) v58_31) fun c_72 =>
 bindL (putAt c2_71 0 c_72) fun c2_72 =>
 bind1 (tupS [(ofSlots (C.ti Q0) (List.take (C.ti Q0).size c2_72)), (some (.val (.bool true)))]) fun v => some (.ret v, s)) (
 bind1 (binS (C.ti Q4) .eql (.val a0) (.val (.int .i64 20))) fun v37_6 =>
 condS v37_6 (
 bind1 (ofSlots (C.ti Q0) (List.take (C.ti Q0).size (List.map .val (C.ti Q0).zero))) fun v58_32 =>
 bindL (boxCells (C.ti Q0) v58_32) fun c_73 =>
 bindL (putAt (List.map .val (C.ti Q0).zero) 0 c_73) fun c2_73 =>
 bind1 (tupS [(ofSlots (C.ti Q0) (List.take (C.ti Q0).size c2_73)), (some (.val (.bool true)))]) fun v => some (.ret v, s)) (
 bind1 (ofSlots (C.ti Q0) (List.take (C.ti Q0).size (List.map .val (C.ti Q0).zero))) fun v58_33 =>
 bindL (boxCells (C.ti Q0) v58_33) fun c_74 =>
 bindL (putAt (List.map .val (C.ti Q0).zero) 0 c_74) fun c2_74 =>
 bind1 (tupS [(ofSlots (C.ti Q0) (List.take (C.ti Q0).size c2_74)), (some (.val (.bool false)))]) fun v => some (.ret v, s)))) (
 bind1 (binS (C.ti Q4) .eql (.val a0) (.val (.int .i64 18))) fun v35_1 =>
 condS v35_1 (
 bindL (boxCells (C.ti Q1) (.val (.int .i64 2))) fun c_75 =>
 bindL (putAt (List.map .val (C.ti Q0).zero) 4 c_75) fun c2_75 =>
 bindL (boxCells (C.ti Q1) (.val (.int .i64 2))) fun c_76 =>
 bindL (putAt c2_75 5 c_76) fun c2_76 =>
 bind1 (ofSlots (C.ti Q0) (List.take (C.ti Q0).size c2_76)) fun v58_34 =>
 bindL (boxCells (C.ti Q0) v58_34) fun c_77 =>
 bindL (putAt c2_76 0 c_77) fun c2_77 =>
 bind1 (tupS [(ofSlots (C.ti Q0) (List.take (C.ti Q0).size c2_77)), (some (.val (.bool true)))]) fun v => some (.ret v, s)) (
 bind1 (binS (C.ti Q4) .eql (.val a0) (.val (.int .i64 20))) fun v37_7 =>
 condS v37_7 (
 bind1 (ofSlots (C.ti Q0) (List.take (C.ti Q0).size (List.map .val (C.ti Q0).zero))) fun v58_35 =>
 bindL (boxCells (C.ti Q0) v58_35) fun c_78 =>
 bindL (putAt (List.map .val (C.ti Q0).zero) 0 c_78) fun c2_78 =>
 bind1 (tupS [(ofSlots (C.ti Q0) (List.take (C.ti Q0).size c2_78)), (some (.val (.bool true)))]) fun v => some (.ret v, s)) (
 bind1 (ofSlots (C.ti Q0) (List.take (C.ti Q0).size (List.map .val (C.ti Q0).zero))) fun v58_36 =>
 bindL (boxCells (C.ti Q0) v58_36) fun c_79 =>
 bindL (putAt (List.map .val (C.ti Q0).zero) 0 c_79) fun c2_79 =>
 bind1 (tupS [(ofSlots (C.ti Q0) (List.take (C.ti Q0).size c2_79)), (some (.val (.bool false)))]) fun v => some (.ret v, s))))))))) (
 bind1 (binS (C.ti Q4) .eql (.val a0) (.val (.int .i64 17))) fun v27 =>
 condS v27 (
 condS v27 (
 bindL (boxCells (C.ti Q1) (.val (.int .i64 1))) fun c_80 =>
 bindL (putAt (List.map .val (C.ti Q0).zero) 4 c_80) fun c2_80 =>
 bindL (boxCells (C.ti Q1) (.val (.int .i64 1))) fun c_81 =>
 bindL (putAt c2_80 5 c_81) fun c2_81 =>
 bind1 (ofSlots (C.ti Q0) (List.take (C.ti Q0).size c2_81)) fun v58_37 =>
 bindL (boxCells (C.ti Q0) v58_37) fun c_82 =>
 bindL (putAt c2_81 0 c_82) fun c2_82 =>
 bind1 (tupS [(ofSlots (C.ti Q0) (List.take (C.ti Q0).size c2_82)), (some (.val (.bool true)))]) fun v => some (.ret v, s)) (
 bind1 (binS (C.ti Q4) .eql (.val a0) (.val (.int .i64 13))) fun v30_2 =>
 condS v30_2 (
 bindL (boxCells (C.ti Qj) (.val (.bool true))) fun c_83 =>
 bindL (putAt (List.map .val (C.ti Q0).zero) 1 c_83) fun c2_83 =>
 bindL (boxCells (C.ti Q1) (.val (.int .i64 2))) fun c_84 =>
 bindL (putAt c2_83 4 c_84) fun c2_84 =>
 bindL (boxCells (C.ti Q1) (.val (.int .i64 2))) fun c_85 =>
 bindL (putAt c2_84 5 c_85) fun c2_85 =>
 bind1 (ofSlots (C.ti Q0) (List.take (C.ti Q0).size c2_85)) fun v58_38 =>
 bindL (boxCells (C.ti Q0) v58_38) fun c_86 =>
 bindL (putAt c2_85 0 c_86) fun c2_86 =>
 bind1 (tupS [(ofSlots (C.ti Q0) (List.take (C.ti Q0).size c2_86)), (some (.val (.bool true)))]) fun v => some (.ret v, s)) (
 bind1 (binS (C.ti Q4) .eql (.val a0) (.val (.int .i64 6))) fun v32_2 =>
 condS v32_2 (
 condS v32_2 (
 bindL (boxCells (C.ti Q1) (.val (.int .i64 2))) fun c_87 =>
 bindL (putAt (List.map .val (C.ti Q0).zero) 4 c_87) fun c2_87 =>
 bindL (boxCells (C.ti Q1) (.val (.int .i64 2))) fun c_88 =>
 bindL (putAt c2_87 5 c_88) fun c2_88 =>
 bind1 (ofSlots (C.ti Q0) (List.take (C.ti Q0).size c2_88)) fun v58_39 =>
 bindL (boxCells (C.ti Q0) v58_39) fun c_89 =>
 bindL (putAt c2_88 0 c_89) fun c2_89 =>
 bind1 (tupS [(ofSlots (C.ti Q0) (List.take (C.ti Q0).size c2_89)), (some (.val (.bool true)))]) fun v => some (.ret v, s)) (
 bind1 (binS (C.ti Q4) .eql (.val a0) (.val (.int .i64 20))) fun v37_8 =>
 condS v37_8 (
 bind1 (ofSlots (C.ti Q0) (List.take (C.ti Q0).size (List.map .val (C.ti Q0).zero))) fun v58_40 =>
 bindL (boxCells (C.ti Q0) v58_40) fun c_90 =>
 bindL (putAt (List.map .val (C.ti Q0).zero) 0 c_90) fun c2_90 =>
 bind1 (tupS [(ofSlots (C.ti Q0) (List.take (C.ti Q0).size c2_90)), (some (.val (.bool true)))]) fun v => some (.ret v, s)) (
 bind1 (ofSlots (C.ti Q0) (List.take (C.ti Q0).size (List.map .val (C.ti Q0).zero))) fun v58_41 =>
 bindL (boxCells (C.ti Q0) v58_41) fun c_91 =>
 bindL (putAt (List.map .val (C.ti Q0).zero) 0 c_91) fun c2_91 =>
 bind1 (tupS [(ofSlots (C.ti Q0) (List.take (C.ti Q0).size c2_91)), (some (.val (.bool false)))]) fun v => some (.ret v, s)))) (
 bind1 (binS (C.ti Q4) .eql (.val a0) (.val (.int .i64 14))) fun v33_2 =>
 condS v33_2 (
 condS v33_2 (
 bindL (boxCells (C.ti Q1) (.val (.int .i64 2))) fun c_92 =>
 bindL (putAt (List.map .val (C.ti Q0).zero) 4 c_92) fun c2_92 =>
 bindL (boxCells (C.ti Q1) (.val (.int .i64 2))) fun c_93 =>
 bindL (putAt c2_92 5 c_93) fun c2_93 =>
 bind1 (ofSlots (C.ti Q0) (List.take (C.ti Q0).size c2_93)) fun v58_42 =>
 bindL (boxCells (C.ti Q0) v58_42) fun c_94 =>
 bindL (putAt c2_93 0 c_94) fun c2_94 =>
 bind1 (tupS [(ofSlots (C.ti Q0) (List.take (C.ti Q0).size c2_94)), (some (.val (.bool true)))]) fun v => some (.ret v, s)) (
 bind1 (binS (C.ti Q4) .eql (.val a0) (.val (.int .i64 20))) fun v37_9 =>
 condS v37_9 (
 bind1 (ofSlots (C.ti Q0) (List.take (C.ti Q0).size (List.map .val (C.ti Q0).zero))) fun v58_43 =>
 bindL (boxCells (C.ti Q0) v58_43) fun c_95 =>
 bindL (putAt (List.map .val (C.ti Q0).zero) 0 c_95) fun c2_95 =>
 bind1 (tupS [(ofSlots (C.ti Q0) (List.take (C.ti Q0).size c2_95)), (some (.val (.bool true)))]) fun v => some (.ret v, s)) (
 bind1 (ofSlots (C.ti Q0) (List.take (C.ti Q0).size (List.map .val (C.ti Q0).zero))) fun v58_44 =>
 bindL (boxCells (C.ti Q0) v58_44) fun c_96 =>
 bindL (putAt (List.map .val (C.ti Q0).zero) 0 c_96) fun c2_96 =>
 bind1 (tupS [(ofSlots (C.ti Q0) (List.take (C.ti Q0).size c2_96)), (some (.val (.bool false)))]) fun v => some (.ret v, s)))) (
 bind1 (binS (C.ti Q4) .eql (.val a0) (.val (.int .i64 15))) fun v34_2 =>
 condS v34_2 (
 condS v34_2 (
 bindL (boxCells (C.ti Q1) (.val (.int .i64 2))) fun c_97 =>
 bindL (putAt (List.map .val (C.ti Q0).zero) 4 c_97) fun c2_97 =>
 bindL (boxCells (C.ti Q1) (.val (.int .i64 2))) fun c_98 =>
 bindL (putAt c2_97 5 c_98) fun c2_98 =>
 bind1 (ofSlots (C.ti Q0) (List.take (C.ti Q0).size c2_98)) fun v58_45 =>
 bindL (boxCells (C.ti Q0) v58_45) fun c_99 =>
 bindL (putAt c2_98 0 c_99) fun c2_99 =>
 bind1 (tupS [(ofSlots (C.ti Q0) (List.take (C.ti Q0).size c2_99)), (some (.val (.bool true)))]) fun v => some (.ret v, s)) (
 bind1 (binS (C.ti Q4) .eql (.val a0) (.val (.int .i64 20))) fun v37_10 =>
 condS v37_10 (
 bind1 (ofSlots (C.ti Q0) (List.take (C.ti Q0).size (List.map .val (C.ti Q0).zero))) fun v58_46 =>
 bindL (boxCells (C.ti Q0) v58_46) fun c_100 =>
 bindL (putAt (List.map .val (C.ti Q0).zero) 0 c_100) fun c2_100 =>
 bind1 (tupS [(ofSlots (C.ti Q0) (List.take (C.ti Q0).size c2_100)), (some (.val (.bool true)))]) fun v => some (.ret v, s)) (
 bind1 (ofSlots (C.ti Q0) (List.take (C.ti Q0).size (List.map .val (C.ti Q0).zero))) fun v58_47 =>
 bindL (boxCells (C.ti Q0) v58_47) fun c_101 =>
 bindL (putAt (List.map .val (C.ti Q0).zero) 0 c_101) fun c2_101 =>
 bind1 (tupS [(ofSlots (C.ti Q0) (List.take (C.ti Q0).size c2_101)), (some (.val (.bool false)))]) fun v => some (.ret v, s)))) (
 bind1 (binS (C.ti Q4) .eql (.val a0) (.val (.int .i64 18))) fun v35_2 =>
 condS v35_2 (
 bindL (boxCells (C.ti Q1) (.val (.int .i64 2))) fun c_102 =>
 bindL (putAt (List.map .val (C.ti Q0).zero) 4 c_102) fun c2_102 =>
 bindL (boxCells (C.ti Q1) (.val (.int .i64 2))) fun c_103 =>
 bindL (putAt c2_102 5 c_103) fun c2_103 =>
 bind1 (ofSlots (C.ti Q0) (List.take (C.ti Q0).size c2_103)) fun v58_48 =>
 bindL (boxCells (C.ti Q0) v58_48) fun c_104 =>
 bindL (putAt c2_103 0 c_104) fun c2_104 =>
 bind1 (tupS [(ofSlots (C.ti Q0) (List.take (C.ti Q0).size c2_104)), (some (.val (.bool true)))]) fun v => some (.ret v, s)) (
 bind1 (binS (C.ti Q4) .eql (.val a0) (.val (.int .i64 20))) fun v37_11 =>
 condS v37_11 (
 bind1 (ofSlots (C.ti Q0) (List.take (C.ti Q0).size (List.map .val (C.ti Q0).zero))) fun v58_49 =>
 bindL (boxCells (C.ti Q0) v58_49) fun c_105 =>
 bindL (putAt (List.map .val (C.ti Q0).zero) 0 c_105) fun c2_105 =>
 bind1 (tupS [(ofSlots (C.ti Q0) (List.take (C.ti Q0).size c2_105)), (some (.val (.bool true)))]) fun v => some (.ret v, s)) (
 bind1 (ofSlots (C.ti Q0) (List.take (C.ti Q0).size (List.map .val (C.ti Q0).zero))) fun v58_50 =>
 bindL (boxCells (C.ti Q0) v58_50) fun c_106 =>
 bindL (putAt (List.map .val (C.ti Q0).zero) 0 c_106) fun c2_106 =>
 bind1 (tupS [(ofSlots (C.ti Q0) (List.take (C.ti Q0).size c2_106)), (some (.val (.bool false)))]) fun v => some (.ret v, s))))))))) (
 bind1 (binS (C.ti Q4) .eql (.val a0) (.val (.int .i64 19))) fun v28 =>
 condS v28 (
 bindL (boxCells (C.ti Q1) (.val (.int .i64 1))) fun c_107 =>
 bindL (putAt (List.map .val (C.ti Q0).zero) 4 c_107) fun c2_107 =>
 bindL (boxCells (C.ti Q1) (.val (.int .i64 1))) fun c_108 =>
 bindL (putAt c2_107 5 c_108) fun c2_108 =>
 bind1 (ofSlots (C.ti Q0) (List.take (C.ti Q0).size c2_108)) fun v58_51 =>
 bindL (boxCells (C.ti Q0) v58_51) fun c_109 =>
 bindL (putAt c2_108 0 c_109) fun c2_109 =>
 bind1 (tupS [(ofSlots (C.ti Q0) (List.take (C.ti Q0).size c2_109)), (some (.val (.bool true)))]) fun v => some (.ret v, s)) (
 bind1 (binS (C.ti Q4) .eql (.val a0) (.val (.int .i64 13))) fun v30_3 =>
 condS v30_3 (
 bindL (boxCells (C.ti Qj) (.val (.bool true))) fun c_110 =>
 bindL (putAt (List.map .val (C.ti Q0).zero) 1 c_110) fun c2_110 =>
 bindL (boxCells (C.ti Q1) (.val (.int .i64 2))) fun c_111 =>
 bindL (putAt c2_110 4 c_111) fun c2_111 =>
 bindL (boxCells (C.ti Q1) (.val (.int .i64 2))) fun c_112 =>
 bindL (putAt c2_111 5 c_112) fun c2_112 =>
 bind1 (ofSlots (C.ti Q0) (List.take (C.ti Q0).size c2_112)) fun v58_52 =>
 bindL (boxCells (C.ti Q0) v58_52) fun c_113 =>
 bindL (putAt c2_112 0 c_113) fun c2_113 =>
 bind1 (tupS [(ofSlots (C.ti Q0) (List.take (C.ti Q0).size c2_113)), (some (.val (.bool true)))]) fun v => some (.ret v, s)) (
 bind1 (binS (C.ti Q4) .eql (.val a0) (.val (.int .i64 6))) fun v32_3 =>
 condS v32_3 (
 condS v32_3 (
 bindL (boxCells (C.ti Q1) (.val (.int .i64 2))) fun c_114 =>
 bindL (putAt (List.map .val (C.ti Q0).zero) 4 c_114) fun c2_114 =>
 bindL (boxCells (C.ti Q1) (.val (.int .i64 2))) fun c_115 =>
 bindL (putAt c2_114 5 c_115) fun c2_115 =>
 bind1 (ofSlots (C.ti Q0) (List.take (C.ti Q0).size c2_115)) fun v58_53 =>
 bindL (boxCells (C.ti Q0) v58_53) fun c_116 =>
 bindL (putAt c2_115 0 c_116) fun c2_116 =>
 bind1 (tupS [(ofSlots (C.ti Q0) (List.take (C.ti Q0).size c2_116)), (some (.val (.bool true)))]) fun v => some (.ret v, s)) (
 bind1 (binS (C.ti Q4) .eql (.val a0) (.val (.int .i64 20))) fun v37_12 =>
 condS v37_12 (
 bind1 (ofSlots (C.ti Q0) (List.take (C.ti Q0).size (List.map .val (C.ti Q0).zero))) fun v58_54 =>
 bindL (boxCells (C.ti Q0) v58_54) fun c_117 =>
 bindL (putAt (List.map .val (C.ti Q0).zero) 0 c_117) fun c2_117 =>
 bind1 (tupS [(ofSlots (C.ti Q0) (List.take (C.ti Q0).size c2_117)), (some (.val (.bool true)))]) fun v => some (.ret v, s)) (
 bind1 (ofSlots (C.ti Q0) (List.take (C.ti Q0).size (List.map .val (C.ti Q0).zero))) fun v58_55 =>
 bindL (boxCells (C.ti Q0) v58_55) fun c_118 =>
 bindL (putAt (List.map .val (C.ti Q0).zero) 0 c_118) fun c2_118 =>
 bind1 (tupS [(ofSlots (C.ti Q0) (List.take (C.ti Q0).size c2_118)), (some (.val (.bool false)))]) fun v => some (.ret v, s)))) (
 bind1 (binS (C.ti Q4) .eql (.val a0) (.val (.int .i64 14))) fun v33_3 =>
 condS v33_3 (
 condS v33_3 (
 bindL (boxCells (C.ti Q1) (.val (.int .i64 2))) fun c_119 =>
 bindL (putAt (List.map .val (C.ti Q0).zero) 4 c_119) fun c2_119 =>
 bindL (boxCells (C.ti Q1) (.val (.int .i64 2))) fun c_120 =>
 bindL (putAt c2_119 5 c_120) fun c2_120 =>
 bind1 (ofSlots (C.ti Q0) (List.take (C.ti Q0).size c2_120)) fun v58_56 =>
 bindL (boxCells (C.ti Q0) v58_56) fun c_121 =>
 bindL (putAt c2_120 0 c_121) fun c2_121 =>
 bind1 (tupS [(ofSlots (C.ti Q0) (List.take (C.ti Q0).size c2_121)), (some (.val (.bool true)))]) fun v => some (.ret v, s)) (
 bind1 (binS (C.ti Q4) .eql (.val a0) (.val (.int .i64 20))) fun v37_13 =>
 condS v37_13 (
 bind1 (ofSlots (C.ti Q0) (List.take (C.ti Q0).size (List.map .val (C.ti Q0).zero))) fun v58_57 =>
 bindL (boxCells (C.ti Q0) v58_57) fun c_122 =>
 bindL (putAt (List.map .val (C.ti Q0).zero) 0 c_122) fun c2_122 =>
 bind1 (tupS [(ofSlots (C.ti Q0) (List.take (C.ti Q0).size c2_122)), (some (.val (.bool true)))]) fun v => some (.ret v, s)) (
 bind1 (ofSlots (C.ti Q0) (List.take (C.ti Q0).size (List.map .val (C.ti Q0).zero))) fun v58_58 =>
 bindL (boxCells (C.ti Q0) v58_58) fun c_123 =>
 bindL (putAt (List.map .val (C.ti Q0).zero) 0 c_123) fun c2_123 =>
 bind1 (tupS [(ofSlots (C.ti Q0) (List.take (C.ti Q0).size c2_123)), (some (.val (.bool false)))]) fun v => some (.ret v, s)))) (
 bind1 (binS (C.ti Q4) .eql (.val a0) (.val (.int .i64 15))) fun v34_3 =>
 condS v34_3 (
 condS v34_3 (
 bindL (boxCells (C.ti Q1) (.val (.int .i64 2))) fun c_124 =>
 bindL (putAt (List.map .val (C.ti Q0).zero) 4 c_124) fun c2_124 =>
 bindL (boxCells (C.ti Q1) (.val (.int .i64 2))) fun c_125 =>
 bindL (putAt c2_124 5 c_125) fun c2_125 =>
 bind1 (ofSlots (C.ti Q0) (List.take (C.ti Q0).size c2_125)) fun v58_59 =>
 bindL (boxCells (C.ti Q0) v58_59) fun c_126 =>
 bindL (putAt c2_125 0 c_126) fun c2_126 =>
 bind1 (tupS [(ofSlots (C.ti Q0) (List.take (C.ti Q0).size c2_126)), (some (.val (.bool true)))]) fun v => some (.ret v, s)) (
 bind1 (binS (C.ti Q4) .eql (.val a0) (.val (.int .i64 20))) fun v37_14 =>
 condS v37_14 (
 bind1 (ofSlots (C.ti Q0) (List.take (C.ti Q0).size (List.map .val (C.ti Q0).zero))) fun v58_60 =>
 bindL (boxCells (C.ti Q0) v58_60) fun c_127 =>
 bindL (putAt (List.map .val (C.ti Q0).zero) 0 c_127) fun c2_127 =>
 bind1 (tupS [(ofSlots (C.ti Q0) (List.take (C.ti Q0).size c2_127)), (some (.val (.bool true)))]) fun v => some (.ret v, s)) (
 bind1 (ofSlots (C.ti Q0) (List.take (C.ti Q0).size (List.map .val (C.ti Q0).zero))) fun v58_61 =>
 bindL (boxCells (C.ti Q0) v58_61) fun c_128 =>
 bindL (putAt (List.map .val (C.ti Q0).zero) 0 c_128) fun c2_128 =>
 bind1 (tupS [(ofSlots (C.ti Q0) (List.take (C.ti Q0).size c2_128)), (some (.val (.bool false)))]) fun v => some (.ret v, s)))) (
 bind1 (binS (C.ti Q4) .eql (.val a0) (.val (.int .i64 18))) fun v35_3 =>
 condS v35_3 (
 bindL (boxCells (C.ti Q1) (.val (.int .i64 2))) fun c_129 =>
 bindL (putAt (List.map .val (C.ti Q0).zero) 4 c_129) fun c2_129 =>
 bindL (boxCells (C.ti Q1) (.val (.int .i64 2))) fun c_130 =>
 bindL (putAt c2_129 5 c_130) fun c2_130 =>
 bind1 (ofSlots (C.ti Q0) (List.take (C.ti Q0).size c2_130)) fun v58_62 =>
 bindL (boxCells (C.ti Q0) v58_62) fun c_131 =>
 bindL (putAt c2_130 0 c_131) fun c2_131 =>
 bind1 (tupS [(ofSlots (C.ti Q0) (List.take (C.ti Q0).size c2_131)), (some (.val (.bool true)))]) fun v => some (.ret v, s)) (
 bind1 (binS (C.ti Q4) .eql (.val a0) (.val (.int .i64 20))) fun v37_15 =>
 condS v37_15 (
 bind1 (ofSlots (C.ti Q0) (List.take (C.ti Q0).size (List.map .val (C.ti Q0).zero))) fun v58_63 =>
 bindL (boxCells (C.ti Q0) v58_63) fun c_132 =>
 bindL (putAt (List.map .val (C.ti Q0).zero) 0 c_132) fun c2_132 =>
 bind1 (tupS [(ofSlots (C.ti Q0) (List.take (C.ti Q0).size c2_132)), (some (.val (.bool true)))]) fun v => some (.ret v, s)) (
 bind1 (ofSlots (C.ti Q0) (List.take (C.ti Q0).size (List.map .val (C.ti Q0).zero))) fun v58_64 =>
 bindL (boxCells (C.ti Q0) v58_64) fun c_133 =>
 bindL (putAt (List.map .val (C.ti Q0).zero) 0 c_133) fun c2_133 =>
 bind1 (tupS [(ofSlots (C.ti Q0) (List.take (C.ti Q0).size c2_133)), (some (.val (.bool false)))]) fun v => some (.ret v, s))))))))))))) (
 bind1 (binS (C.ti Q4) .eql (.val a0) (.val (.int .i64 11))) fun v23 =>
 condS v23 (
 bindL (boxCells (C.ti Qj) (.val (.bool true))) fun c_134 =>
 bindL (putAt (List.map .val (C.ti Q0).zero) 2 c_134) fun c2_134 =>
 bindL (boxCells (C.ti Q1) (.val (.int .i64 1))) fun c_135 =>
 bindL (putAt c2_134 4 c_135) fun c2_135 =>
 bindL (boxCells (C.ti Q1) (.val (.int .i64 1))) fun c_136 =>
 bindL (putAt c2_135 5 c_136) fun c2_136 =>
 bind1 (ofSlots (C.ti Q0) (List.take (C.ti Q0).size c2_136)) fun v58_65 =>
 bindL (boxCells (C.ti Q0) v58_65) fun c_137 =>
 bindL (putAt c2_136 0 c_137) fun c2_137 =>
 bind1 (tupS [(ofSlots (C.ti Q0) (List.take (C.ti Q0).size c2_137)), (some (.val (.bool true)))]) fun v => some (.ret v, s)) (
 bind1 (binS (C.ti Q4) .eql (.val a0) (.val (.int .i64 12))) fun v25_1 =>
 condS v25_1 (
 condS v25_1 (
 bindL (boxCells (C.ti Q1) (.val (.int .i64 1))) fun c_138 =>
 bindL (putAt (List.map .val (C.ti Q0).zero) 4 c_138) fun c2_138 =>
 bindL (boxCells (C.ti Q1) (.val (.int .i64 1))) fun c_139 =>
 bindL (putAt c2_138 5 c_139) fun c2_139 =>
 bind1 (ofSlots (C.ti Q0) (List.take (C.ti Q0).size c2_139)) fun v58_66 =>
 bindL (boxCells (C.ti Q0) v58_66) fun c_140 =>
 bindL (putAt c2_139 0 c_140) fun c2_140 =>
 bind1 (tupS [(ofSlots (C.ti Q0) (List.take (C.ti Q0).size c2_140)), (some (.val (.bool true)))]) fun v => some (.ret v, s)) (
 bind1 (binS (C.ti Q4) .eql (.val a0) (.val (.int .i64 13))) fun v30_4 =>
 condS v30_4 (
 bindL (boxCells (C.ti Qj) (.val (.bool true))) fun c_141 =>
 bindL (putAt (List.map .val (C.ti Q0).zero) 1 c_141) fun c2_141 =>
 bindL (boxCells (C.ti Q1) (.val (.int .i64 2))) fun c_142 =>
 bindL (putAt c2_141 4 c_142) fun c2_142 =>
 bindL (boxCells (C.ti Q1) (.val (.int .i64 2))) fun c_143 =>
 bindL (putAt c2_142 5 c_143) fun c2_143 =>
 bind1 (ofSlots (C.ti Q0) (List.take (C.ti Q0).size c2_143)) fun v58_67 =>
 bindL (boxCells (C.ti Q0) v58_67) fun c_144 =>
 bindL (putAt c2_143 0 c_144) fun c2_144 =>
 bind1 (tupS [(ofSlots (C.ti Q0) (List.take (C.ti Q0).size c2_144)), (some (.val (.bool true)))]) fun v => some (.ret v, s)) (
 bind1 (binS (C.ti Q4) .eql (.val a0) (.val (.int .i64 6))) fun v32_4 =>
 condS v32_4 (
 condS v32_4 (
 bindL (boxCells (C.ti Q1) (.val (.int .i64 2))) fun c_145 =>
 bindL (putAt (List.map .val (C.ti Q0).zero) 4 c_145) fun c2_145 =>
 bindL (boxCells (C.ti Q1) (.val (.int .i64 2))) fun c_146 =>
 bindL (putAt c2_145 5 c_146) fun c2_146 =>
 bind1 (ofSlots (C.ti Q0) (List.take (C.ti Q0).size c2_146)) fun v58_68 =>
 bindL (boxCells (C.ti Q0) v58_68) fun c_147 =>
 bindL (putAt c2_146 0 c_147) fun c2_147 =>
 bind1 (tupS [(ofSlots (C.ti Q0) (List.take (C.ti Q0).size c2_147)), (some (.val (.bool true)))]) fun v => some (.ret v, s)) (
 bind1 (binS (C.ti Q4) .eql (.val a0) (.val (.int .i64 20))) fun v37_16 =>
 condS v37_16 (
 bind1 (ofSlots (C.ti Q0) (List.take (C.ti Q0).size (List.map .val (C.ti Q0).zero))) fun v58_69 =>
 bindL (boxCells (C.ti Q0) v58_69) fun c_148 =>
 bindL (putAt (List.map .val (C.ti Q0).zero) 0 c_148) fun c2_148 =>
 bind1 (tupS [(ofSlots (C.ti Q0) (List.take (C.ti Q0).size c2_148)), (some (.val (.bool true)))]) fun v => some (.ret v, s)) (
 bind1 (ofSlots (C.ti Q0) (List.take (C.ti Q0).size (List.map .val (C.ti Q0).zero))) fun v58_70 =>
 bindL (boxCells (C.ti Q0) v58_70) fun c_149 =>
 bindL (putAt (List.map .val (C.ti Q0).zero) 0 c_149) fun c2_149 =>
 bind1 (tupS [(ofSlots (C.ti Q0) (List.take (C.ti Q0).size c2_149)), (some (.val (.bool false)))]) fun v => some (.ret v, s)))) (
 bind1 (binS (C.ti Q4) .eql (.val a0) (.val (.int .i64 14))) fun v33_4 =>
 condS v33_4 (
 condS v33_4 (
 bindL (boxCells (C.ti Q1) (.val (.int .i64 2))) fun c_150 =>
 bindL (putAt (List.map .val (C.ti Q0).zero) 4 c_150) fun c2_150 =>
 bindL (boxCells (C.ti Q1) (.val (.int .i64 2))) fun c_151 =>
 bindL (putAt c2_150 5 c_151) fun c2_151 =>
 bind1 (ofSlots (C.ti Q0) (List.take (C.ti Q0).size c2_151)) fun v58_71 =>
 bindL (boxCells (C.ti Q0) v58_71) fun c_152 =>
 bindL (putAt c2_151 0 c_152) fun c2_152 =>
 bind1 (tupS [(ofSlots (C.ti Q0) (List.take (C.ti Q0).size c2_152)), (some (.val (.bool true)))]) fun v => some (.ret v, s)) (
 bind1 (binS (C.ti Q4) .eql (.val a0) (.val (.int .i64 20))) fun v37_17 =>
 condS v37_17 (
 bind1 (ofSlots (C.ti Q0) (List.take (C.ti Q0).size (List.map .val (C.ti Q0).zero))) fun v58_72 =>
 bindL (boxCells (C.ti Q0) v58_72) fun c_153 =>
 bindL (putAt (List.map .val (C.ti Q0).zero) 0 c_153) fun c2_153 =>
 bind1 (tupS [(ofSlots (C.ti Q0) (List.take (C.ti Q0).size c2_153)), (some (.val (.bool true)))]) fun v => some (.ret v, s)) (
 bind1 (ofSlots (C.ti Q0) (List.take (C.ti Q0).size (List.map .val (C.ti Q0).zero))) fun v58_73 =>
 bindL (boxCells (C.ti Q0) v58_73) fun c_154 =>
 bindL (putAt (List.map .val (C.ti Q0).zero) 0 c_154) fun c2_154 =>
 bind1 (tupS [(ofSlots (C.ti Q0) (List.take (C.ti Q0).size c2_154)), (some (.val (.bool false)))]) fun v => some (.ret v, s)))) (
 bind1 (binS (C.ti Q4) .eql (.val a0) (.val (.int .i64 15))) fun v34_4 =>
 condS v34_4 (
 condS v34_4 (
 bindL (boxCells (C.ti Q1) (.val (.int .i64 2))) fun c_155 =>
 bindL (putAt (List.map .val (C.ti Q0).zero) 4 c_155) fun c2_155 =>
 bindL (boxCells (C.ti Q1) (.val (.int .i64 2))) fun c_156 =>
 bindL (putAt c2_155 5 c_156) fun c2_156 =>
 bind1 (ofSlots (C.ti Q0) (List.take (C.ti Q0).size c2_156)) fun v58_74 =>
 bindL (boxCells (C.ti Q0) v58_74) fun c_157 =>
 bindL (putAt c2_156 0 c_157) fun c2_157 =>
 bind1 (tupS [(ofSlots (C.ti Q0) (List.take (C.ti Q0).size c2_157)), (some (.val (.bool true)))]) fun v => some (.ret v, s)) (
 bind1 (binS (C.ti Q4) .eql (.val a0) (.val (.int .i64 20))) fun v37_18 =>
 condS v37_18 (
 bind1 (ofSlots (C.ti Q0) (List.take (C.ti Q0).size (List.map .val (C.ti Q0).zero))) fun v58_75 =>
 bindL (boxCells (C.ti Q0) v58_75) fun c_158 =>
 bindL (putAt (List.map .val (C.ti Q0).zero) 0 c_158) fun c2_158 =>
 bind1 (tupS [(ofSlots (C.ti Q0) (List.take (C.ti Q0).size c2_158)), (some (.val (.bool true)))]) fun v => some (.ret v, s)) (
 bind1 (ofSlots (C.ti Q0) (List.take (C.ti Q0).size (List.map .val (C.ti Q0).zero))) fun v58_76 =>
 bindL (boxCells (C.ti Q0) v58_76) fun c_159 =>
 bindL (putAt (List.map .val (C.ti Q0).zero) 0 c_159) fun c2_159 =>
 bind1 (tupS [(ofSlots (C.ti Q0) (List.take (C.ti Q0).size c2_159)), (some (.val (.bool false)))]) fun v => some (.ret v, s)))) (
 bind1 (binS (C.ti Q4) .eql (.val a0) (.val (.int .i64 18))) fun v35_4 =>
 condS v35_4 (
 bindL (boxCells (C.ti Q1) (.val (.int .i64 2))) fun c_160 =>
 bindL (putAt (List.map .val (C.ti Q0).zero) 4 c_160) fun c2_160 =>
 bindL (boxCells (C.ti Q1) (.val (.int .i64 2))) fun c_161 =>
 bindL (putAt c2_160 5 c_161) fun c2_161 =>
 bind1 (ofSlots (C.ti Q0) (List.take (C.ti Q0).size c2_161)) fun v58_77 =>
 bindL (boxCells (C.ti Q0) v58_77) fun c_162 =>
 bindL (putAt c2_161 0 c_162) fun c2_162 =>
 bind1 (tupS [(ofSlots (C.ti Q0) (List.take (C.ti Q0).size c2_162)), (some (.val (.bool true)))]) fun v => some (.ret v, s)) (
 bind1 (binS (C.ti Q4) .eql (.val a0) (.val (.int .i64 20))) fun v37_19 =>
 condS v37_19 (
 bind1 (ofSlots (C.ti Q0) (List.take (C.ti Q0).size (List.map .val (C.ti Q0).zero))) fun v58_78 =>
 bindL (boxCells (C.ti Q0) v58_78) fun c_163 =>
 bindL (putAt (List.map .val (C.ti Q0).zero) 0 c_163) fun c2_163 =>
 bind1 (tupS [(ofSlots (C.ti Q0) (List.take (C.ti Q0).size c2_163)), (some (.val (.bool true)))]) fun v => some (.ret v, s)) (
 bind1 (ofSlots (C.ti Q0) (List.take (C.ti Q0).size (List.map .val (C.ti Q0).zero))) fun v58_79 =>
 bindL (boxCells (C.ti Q0) v58_79) fun c_164 =>
 bindL (putAt (List.map .val (C.ti Q0).zero) 0 c_164) fun c2_164 =>
 bind1 (tupS [(ofSlots (C.ti Q0) (List.take (C.ti Q0).size c2_164)), (some (.val (.bool false)))]) fun v => some (.ret v, s))))))))) (
 bind1 (binS (C.ti Q4) .eql (.val a0) (.val (.int .i64 16))) fun v26_1 =>
 condS v26_1 (
 condS v26_1 (
 bindL (boxCells (C.ti Q1) (.val (.int .i64 1))) fun c_165 =>
 bindL (putAt (List.map .val (C.ti Q0).zero) 4 c_165) fun c2_165 =>
 bindL (boxCells (C.ti Q1) (.val (.int .i64 1))) fun c_166 =>
 bindL (putAt c2_165 5 c_166) fun c2_166 =>
 bind1 (ofSlots (C.ti Q0) (List.take (C.ti Q0).size c2_166)) fun v58_80 =>
 bindL (boxCells (C.ti Q0) v58_80) fun c_167 =>
 bindL (putAt c2_166 0 c_167) fun c2_167 =>
 bind1 (tupS [(ofSlots (C.ti Q0) (List.take (C.ti Q0).size c2_167)), (some (.val (.bool true)))]) fun v => some (.ret v, s)) (
 bind1 (binS (C.ti Q4) .eql (.val a0) (.val (.int .i64 13))) fun v30_5 =>
 condS v30_5 (
 bindL (boxCells (C.ti Qj) (.val (.bool true))) fun c_168 =>
 bindL (putAt (List.map .val (C.ti Q0).zero) 1 c_168) fun c2_168 =>
 bindL (boxCells (C.ti Q1) (.val (.int .i64 2))) fun c_169 =>
 bindL (putAt c2_168 4 c_169) fun c2_169 =>
 bindL (boxCells (C.ti Q1) (.val (.int .i64 2))) fun c_170 =>
 bindL (putAt c2_169 5 c_170) fun c2_170 =>
 bind1 (ofSlots (C.ti Q0) (List.take (C.ti Q0).size c2_170)) fun v58_81 =>
 bindL (boxCells (C.ti Q0) v58_81) fun c_171 =>
 bindL (putAt c2_170 0 c_171) fun c2_171 =>
 bind1 (tupS [(ofSlots (C.ti Q0) (List.take (C.ti Q0).size c2_171)), (some (.val (.bool true)))]) fun v => some (.ret v, s)) (
 bind1 (binS (C.ti Q4) .eql (.val a0) (.val (.int .i64 6))) fun v32_5 =>
 condS v32_5 (
 condS v32_5 (
 bindL (boxCells (C.ti Q1) (.val (.int .i64 2))) fun c_172 =>
 bindL (putAt (List.map .val (C.ti Q0).zero) 4 c_172) fun c2_172 =>
 bindL (boxCells (C.ti Q1) (.val (.int .i64 2))) fun c_173 =>
 bindL (putAt c2_172 5 c_173) fun c2_173 =>
 bind1 (ofSlots (C.ti Q0) (List.take (C.ti Q0).size c2_173)) fun v58_82 =>
 bindL (boxCells (C.ti Q0) v58_82) fun c_174 =>
 bindL (putAt c2_173 0 c_174) fun c2_174 =>
 bind1 (tupS [(ofSlots (C.ti Q0) (List.take (C.ti Q0).size c2_174)), (some (.val (.bool true)))]) fun v => some (.ret v, s)) (
 bind1 (binS (C.ti Q4) .eql (.val a0) (.val (.int .i64 20))) fun v37_20 =>
 condS v37_20 (
 bind1 (ofSlots (C.ti Q0) (List.take (C.ti Q0).size (List.map .val (C.ti Q0).zero))) fun v58_83 =>
 bindL (boxCells (C.ti Q0) v58_83) fun c_175 =>
 bindL (putAt (List.map .val (C.ti Q0).zero) 0 c_175) fun c2_175 =>
 bind1 (tupS [(ofSlots (C.ti Q0) (List.take (C.ti Q0).size c2_175)), (some (.val (.bool true)))]) fun v => some (.ret v, s)) (
 bind1 (ofSlots (C.ti Q0) (List.take (C.ti Q0).size (List.map .val (C.ti Q0).zero))) fun v58_84 =>
 bindL (boxCells (C.ti Q0) v58_84) fun c_176 =>
 bindL (putAt (List.map .val (C.ti Q0).zero) 0 c_176) fun c2_176 =>
 bind1 (tupS [(ofSlots (C.ti Q0) (List.take (C.ti Q0).size c2_176)), (some (.val (.bool false)))]) fun v => some (.ret v, s)))) (
 bind1 (binS (C.ti Q4) .eql (.val a0) (.val (.int .i64 14))) fun v33_5 =>
 condS v33_5 (
 condS v33_5 (
 bindL (boxCells (C.ti Q1) (.val (.int .i64 2))) fun c_177 =>
 bindL (putAt (List.map .val (C.ti Q0).zero) 4 c_177) fun c2_177 =>
 bindL (boxCells (C.ti Q1) (.val (.int .i64 2))) fun c_178 =>
 bindL (putAt c2_177 5 c_178) fun c2_178 =>
 bind1 (ofSlots (C.ti Q0) (List.take (C.ti Q0).size c2_178)) fun v58_85 =>
 bindL (boxCells (C.ti Q0) v58_85) fun c_179 =>
 bindL (putAt c2_178 0 c_179) fun c2_179 =>
 bind1 (tupS [(ofSlots (C.ti Q0) (List.take (C.ti Q0).size c2_179)), (some (.val (.bool true)))]) fun v => some (.ret v, s)) (
 bind1 (binS (C.ti Q4) .eql (.val a0) (.val (.int .i64 20))) fun v37_21 =>
 condS v37_21 (
 bind1 (ofSlots (C.ti Q0) (List.take (C.ti Q0).size (List.map .val (C.ti Q0).zero))) fun v58_86 =>
 bindL (boxCells (C.ti Q0) v58_86) fun c_180 =>
 bindL (putAt (List.map .val (C.ti Q0).zero) 0 c_180) fun c2_180 =>
 bind1 (tupS [(ofSlots (C.ti Q0) (List.take (C.ti Q0).size c2_180)), (some (.val (.bool true)))]) fun v => some (.ret v, s)) (
 bind1 (ofSlots (C.ti Q0) (List.take (C.ti Q0).size (List.map .val (C.ti Q0).zero))) fun v58_87 =>
 bindL (boxCells (C.ti Q0) v58_87) fun c_181 =>
 bindL (putAt (List.map .val (C.ti Q0).zero) 0 c_181) fun c2_181 =>
 bind1 (tupS [(ofSlots (C.ti Q0) (List.take (C.ti Q0).size c2_181)), (some (.val (.bool false)))]) fun v => some (.ret v, s)))) (
 bind1 (binS (C.ti Q4) .eql (.val a0) (.val (.int .i64 15))) fun v34_5 =>
 condS v34_5 (
 condS v34_5 (
 bindL (boxCells (C.ti Q1) (.val (.int .i64 2))) fun c_182 =>
 bindL (putAt (List.map .val (C.ti Q0).zero) 4 c_182) fun c2_182 =>
 bindL (boxCells (C.ti Q1) (.val (.int .i64 2))) fun c_183 =>
 bindL (putAt c2_182 5 c_183) fun c2_183 =>
 bind1 (ofSlots (C.ti Q0) (List.take (C.ti Q0).size c2_183)) fun v58_88 =>
 bindL (boxCells (C.ti Q0) v58_88) fun c_184 =>
 bindL (putAt c2_183 0 c_184) fun c2_184 =>
 bind1 (tupS [(ofSlots (C.ti Q0) (List.take (C.ti Q0).size c2_184)), (some (.val (.bool true)))]) fun v => some (.ret v, s)) (
 bind1 (binS (C.ti Q4) .eql (.val a0) (.val (.int .i64 20))) fun v37_22 =>
 condS v37_22 (
 bind1 (ofSlots (C.ti Q0) (List.take (C.ti Q0).size (List.map .val (C.ti Q0).zero))) fun v58_89 =>
 bindL (boxCells (C.ti Q0) v58_89) fun c_185 =>
 bindL (putAt (List.map .val (C.ti Q0).zero) 0 c_185) fun c2_185 =>
 bind1 (tupS [(ofSlots (C.ti Q0) (List.take (C.ti Q0).size c2_185)), (some (.val (.bool true)))]) fun v => some (.ret v, s)) (
 bind1 (ofSlots (C.ti Q0) (List.take (C.ti Q0).size (List.map .val (C.ti Q0).zero))) fun v58_90 =>
 bindL (boxCells (C.ti Q0) v58_90) fun c_186 =>
 bindL (putAt (List.map .val (C.ti Q0).zero) 0 c_186) fun c2_186 =>
 bind1 (tupS [(ofSlots (C.ti Q0) (List.take (C.ti Q0).size c2_186)), (some (.val (.bool false)))]) fun v => some (.ret v, s)))) (
 bind1 (binS (C.ti Q4) .eql (.val a0) (.val (.int .i64 18))) fun v35_5 =>
 condS v35_5 (
 bindL (boxCells (C.ti Q1) (.val (.int .i64 2))) fun c_187 =>
 bindL (putAt (List.map .val (C.ti Q0).zero) 4 c_187) fun c2_187 =>
 bindL (boxCells (C.ti Q1) (.val (.int .i64 2))) fun c_188 =>
 bindL (putAt c2_187 5 c_188) fun c2_188 =>
 bind1 (ofSlots (C.ti Q0) (List.take (C.ti Q0).size c2_188)) fun v58_91 =>
 bindL (boxCells (C.ti Q0) v58_91) fun c_189 =>
 bindL (putAt c2_188 0 c_189) fun c2_189 =>
 bind1 (tupS [(ofSlots (C.ti Q0) (List.take (C.ti Q0).size c2_189)), (some (.val (.bool true)))]) fun v => some (.ret v, s)) (
 bind1 (binS (C.ti Q4) .eql (.val a0) (.val (.int .i64 20))) fun v37_23 =>
 condS v37_23 (
 bind1 (ofSlots (C.ti Q0) (List.take (C.ti Q0).size (List.map .val (C.ti Q0).zero))) fun v58_92 =>
 bindL (boxCells (C.ti Q0) v58_92) fun c_190 =>
 bindL (putAt (List.map .val (C.ti Q0).zero) 0 c_190) fun c2_190 =>
 bind1 (tupS [(ofSlots (C.ti Q0) (List.take (C.ti Q0).size c2_190)), (some (.val (.bool true)))]) fun v => some (.ret v, s)) (
 bind1 (ofSlots (C.ti Q0) (List.take (C.ti Q0).size (List.map .val (C.ti Q0).zero))) fun v58_93 =>
 bindL (boxCells (C.ti Q0) v58_93) fun c_191 =>
 bindL (putAt (List.map .val (C.ti Q0).zero) 0 c_191) fun c2_191 =>
 bind1 (tupS [(ofSlots (C.ti Q0) (List.take (C.ti Q0).size c2_191)), (some (.val (.bool false)))]) fun v => some (.ret v, s))))))))) (
 bind1 (binS (C.ti Q4) .eql (.val a0) (.val (.int .i64 17))) fun v27_1 =>
 condS v27_1 (
 condS v27_1 (
 bindL (boxCells (C.ti Q1) (.val (.int .i64 1))) fun c_192 =>
 bindL (putAt (List.map .val (C.ti Q0).zero) 4 c_192) fun c2_192 =>
 bindL (boxCells (C.ti Q1) (.val (.int .i64 1))) fun c_193 =>
 bindL (putAt c2_192 5 c_193) fun c2_193 =>
 bind1 (ofSlots (C.ti Q0) (List.take (C.ti Q0).size c2_193)) fun v58_94 =>
 bindL (boxCells (C.ti Q0) v58_94) fun c_194 =>
 bindL (putAt c2_193 0 c_194) fun c2_194 =>
 bind1 (tupS [(ofSlots (C.ti Q0) (List.take (C.ti Q0).size c2_194)), (some (.val (.bool true)))]) fun v => some (.ret v, s)) (
 bind1 (binS (C.ti Q4) .eql (.val a0) (.val (.int .i64 13))) fun v30_6 =>
 condS v30_6 (
 bindL (boxCells (C.ti Qj) (.val (.bool true))) fun c_195 =>
 bindL (putAt (List.map .val (C.ti Q0).zero) 1 c_195) fun c2_195 =>
 bindL (boxCells (C.ti Q1) (.val (.int .i64 2))) fun c_196 =>
 bindL (putAt c2_195 4 c_196) fun c2_196 =>
 bindL (boxCells (C.ti Q1) (.val (.int .i64 2))) fun c_197 =>
 bindL (putAt c2_196 5 c_197) fun c2_197 =>
 bind1 (ofSlots (C.ti Q0) (List.take (C.ti Q0).size c2_197)) fun v58_95 =>
 bindL (boxCells (C.ti Q0) v58_95) fun c_198 =>
 bindL (putAt c2_197 0 c_198) fun c2_198 =>
 bind1 (tupS [(ofSlots (C.ti Q0) (List.take (C.ti Q0).size c2_198)), (some (.val (.bool true)))]) fun v => some (.ret v, s)) (
 bind1 (binS (C.ti Q4) .eql (.val a0) (.val (.int .i64 6))) fun v32_6 =>
 condS v32_6 (
 condS v32_6 (
 bindL (boxCells (C.ti Q1) (.val (.int .i64 2))) fun c_199 =>
 bindL (putAt (List.map .val (C.ti Q0).zero) 4 c_199) fun c2_199 =>
 bindL (boxCells (C.ti Q1) (.val (.int .i64 2))) fun c_200 =>
 bindL (putAt c2_199 5 c_200) fun c2_200 =>
 bind1 (ofSlots (C.ti Q0) (List.take (C.ti Q0).size c2_200)) fun v58_96 =>
 bindL (boxCells (C.ti Q0) v58_96) fun c_201 =>
 bindL (putAt c2_200 0 c_201) fun c2_201 =>
 bind1 (tupS [(ofSlots (C.ti Q0) (List.take (C.ti Q0).size c2_201)), (some (.val (.bool true)))]) fun v => some (.ret v, s)) (
 bind1 (binS (C.ti Q4) .eql (.val a0) (.val (.int .i64 20))) fun v37_24 =>
 condS v37_24 (
 bind1 (ofSlots (C.ti Q0) (List.take (C.ti Q0).size (List.map .val (C.ti Q0).zero))) fun v58_97 =>
 bindL (boxCells (C.ti Q0) v58_97) fun c_202 =>
 bindL (putAt (List.map .val (C.ti Q0).zero) 0 c_202) fun c2_202 =>
 bind1 (tupS [(ofSlots (C.ti Q0) (List.take (C.ti Q0).size c2_202)), (some (.val (.bool true)))]) fun v => some (.ret v, s)) (
 bind1 (ofSlots (C.ti Q0) (List.take (C.ti Q0).size (List.map .val (C.ti Q0).zero))) fun v58_98 =>
 bindL (boxCells (C.ti Q0) v58_98) fun c_203 =>
 bindL (putAt (List.map .val (C.ti Q0).zero) 0 c_203) fun c2_203 =>
 bind1 (tupS [(ofSlots (C.ti Q0) (List.take (C.ti Q0).size c2_203)), (some (.val (.bool false)))]) fun v => some (.ret v, s)))) (
 bind1 (binS (C.ti Q4) .eql (.val a0) (.val (.int .i64 14))) fun v33_6 =>
 condS v33_6 (
 condS v33_6 (
 bindL (boxCells (C.ti Q1) (.val (.int .i64 2))) fun c_204 =>
 bindL (putAt (List.map .val (C.ti Q0).zero) 4 c_204) fun c2_204 =>
 bindL (boxCells (C.ti Q1) (.val (.int .i64 2))) fun c_205 =>
 bindL (putAt c2_204 5 c_205) fun c2_205 =>
 bind1 (ofSlots (C.ti Q0) (List.take (C.ti Q0).size c2_205)) fun v58_99 =>
 bindL (boxCells (C.ti Q0) v58_99) fun c_206 =>
 bindL (putAt c2_205 0 c_206) fun c2_206 =>
 bind1 (tupS [(ofSlots (C.ti Q0) (List.take (C.ti Q0).size c2_206)), (some (.val (.bool true)))]) fun v => some (.ret v, s)) (
 bind1 (binS (C.ti Q4) .eql (.val a0) (.val (.int .i64 20))) fun v37_25 =>
 condS v37_25 (
 bind1 (ofSlots (C.ti Q0) (List.take (C.ti Q0).size (List.map .val (C.ti Q0).zero))) fun v58_100 =>
 bindL (boxCells (C.ti Q0) v58_100) fun c_207 =>
 bindL (putAt (List.map .val (C.ti Q0).zero) 0 c_207) fun c2_207 =>
 bind1 (tupS [(ofSlots (C.ti Q0) (List.take (C.ti Q0).size c2_207)), (some (.val (.bool true)))]) fun v => some (.ret v, s)) (
 bind1 (ofSlots (C.ti Q0) (List.take (C.ti Q0).size (List.map .val (C.ti Q0).zero))) fun v58_101 =>
 bindL (boxCells (C.ti Q0) v58_101) fun c_208 =>
 bindL (putAt (List.map .val (C.ti Q0).zero) 0 c_208) fun c2_208 =>
 bind1 (tupS [(ofSlots (C.ti Q0) (List.take (C.ti Q0).size c2_208)), (some (.val (.bool false)))]) fun v => some (.ret v, s)))) (
 bind1 (binS (C.ti Q4) .eql (.val a0) (.val (.int .i64 15))) fun v34_6 =>
 condS v34_6 (
 condS v34_6 (
 bindL (boxCells (C.ti Q1) (.val (.int .i64 2))) fun c_209 =>
 bindL (putAt (List.map .val (C.ti Q0).zero) 4 c_209) fun c2_209 =>
 bindL (boxCells (C.ti Q1) (.val (.int .i64 2))) fun c_210 =>
 bindL (putAt c2_209 5 c_210) fun c2_210 =>
 bind1 (ofSlots (C.ti Q0) (List.take (C.ti Q0).size c2_210)) fun v58_102 =>
 bindL (boxCells (C.ti Q0) v58_102) fun c_211 =>
 bindL (putAt c2_210 0 c_211) fun c2_211 =>
 bind1 (tupS [(ofSlots (C.ti Q0) (List.take (C.ti Q0).size c2_211)), (some (.val (.bool true)))]) fun v => some (.ret v, s)) (
 bind1 (binS (C.ti Q4) .eql (.val a0) (.val (.int .i64 20))) fun v37_26 =>
 condS v37_26 (
 bind1 (ofSlots (C.ti Q0) (List.take (C.ti Q0).size (List.map .val (C.ti Q0).zero))) fun v58_103 =>
 bindL (boxCells (C.ti Q0) v58_103) fun c_212 =>
 bindL (putAt (List.map .val (C.ti Q0).zero) 0 c_212) fun c2_212 =>
 bind1 (tupS [(ofSlots (C.ti Q0) (List.take (C.ti Q0).size c2_212)), (some (.val (.bool true)))]) fun v => some (.ret v, s)) (
 bind1 (ofSlots (C.ti Q0) (List.take (C.ti Q0).size (List.map .val (C.ti Q0).zero))) fun v58_104 =>
 bindL (boxCells (C.ti Q0) v58_104) fun c_213 =>
 bindL (putAt (List.map .val (C.ti Q0).zero) 0 c_213) fun c2_213 =>
 bind1 (tupS [(ofSlots (C.ti Q0) (List.take (C.ti Q0).size c2_213)), (some (.val (.bool false)))]) fun v => some (.ret v, s)))) (
 bind1 (binS (C.ti Q4) .eql (.val a0) (.val (.int .i64 18))) fun v35_6 =>
 condS v35_6 (
 bindL (boxCells (C.ti Q1) (.val (.int .i64 2))) fun c_214 =>
 bindL (putAt (List.map .val (C.ti Q0).zero) 4 c_214) fun c2_214 =>
 bindL (boxCells (C.ti Q1) (.val (.int .i64 2))) fun c_215 =>
 bindL (putAt c2_214 5 c_215) fun c2_215 =>
 bind1 (ofSlots (C.ti Q0) (List.take (C.ti Q0).size c2_215)) fun v58_105 =>
 bindL (boxCells (C.ti Q0) v58_105) fun c_216 =>
 bindL (putAt c2_215 0 c_216) fun c2_216 =>
 bind1 (tupS [(ofSlots (C.ti Q0) (List.take (C.ti Q0).size c2_216)), (some (.val (.bool true)))]) fun v => some (.ret v, s)) (
 bind1 (binS (C.ti Q4) .eql (.val a0) (.val (.int .i64 20))) fun v37_27 =>
 condS v37_27 (
 bind1 (ofSlots (C.ti Q0) (List.take (C.ti Q0).size (List.map .val (C.ti Q0).zero))) fun v58_106 =>
 bindL (boxCells (C.ti Q0) v58_106) fun c_217 =>
 bindL (putAt (List.map .val (C.ti Q0).zero) 0 c_217) fun c2_217 =>
 bind1 (tupS [(ofSlots (C.ti Q0) (List.take (C.ti Q0).size c2_217)), (some (.val (.bool true)))]) fun v => some (.ret v, s)) (
 bind1 (ofSlots (C.ti Q0) (List.take (C.ti Q0).size (List.map .val (C.ti Q0).zero))) fun v58_107 =>
 bindL (boxCells (C.ti Q0) v58_107) fun c_218 =>
 bindL (putAt (List.map .val (C.ti Q0).zero) 0 c_218) fun c2_218 =>
 bind1 (tupS [(ofSlots (C.ti Q0) (List.take (C.ti Q0).size c2_218)), (some (.val (.bool false)))]) fun v => some (.ret v, s))))))))) (
 bind1 (binS (C.ti Q4) .eql (.val a0) (.val (.int .i64 19))) fun v28_1 =>
 condS v28_1 (
 bindL (boxCells (C.ti Q1) (.val (.int .i64 1))) fun c_219 =>
 bindL (putAt (List.map .val (C.ti Q0).zero) 4 c_219) fun c2_219 =>
 bindL (boxCells (C.ti Q1) (.val (.int .i64 1))) fun c_220 =>
 bindL (putAt c2_219 5 c_220) fun c2_220 =>
 bind1 (ofSlots (C.ti Q0) (List.take (C.ti Q0).size c2_220)) fun v58_108 =>
 bindL (boxCells (C.ti Q0) v58_108) fun c_221 =>
 bindL (putAt c2_220 0 c_221) fun c2_221 =>
 bind1 (tupS [(ofSlots (C.ti Q0) (List.take (C.ti Q0).size c2_221)), (some (.val (.bool true)))]) fun v => some (.ret v, s)) (
 bind1 (binS (C.ti Q4) .eql (.val a0) (.val (.int .i64 13))) fun v30_7 =>
 condS v30_7 (
 bindL (boxCells (C.ti Qj) (.val (.bool true))) fun c_222 =>
 bindL (putAt (List.map .val (C.ti Q0).zero) 1 c_222) fun c2_222 =>
 bindL (boxCells (C.ti Q1) (.val (.int .i64 2))) fun c_223 =>
 bindL (putAt c2_222 4 c_223) fun c2_223 =>
 bindL (boxCells (C.ti Q1) (.val (.int .i64 2))) fun c_224 =>
 bindL (putAt c2_223 5 c_224) fun c2_224 =>
 bind1 (ofSlots (C.ti Q0) (List.take (C.ti Q0).size c2_224)) fun v58_109 =>
 bindL (boxCells (C.ti Q0) v58_109) fun c_225 =>
 bindL (putAt c2_224 0 c_225) fun c2_225 =>
 bind1 (tupS [(ofSlots (C.ti Q0) (List.take (C.ti Q0).size c2_225)), (some (.val (.bool true)))]) fun v => some (.ret v, s)) (
 bind1 (binS (C.ti Q4) .eql (.val a0) (.val (.int .i64 6))) fun v32_7 =>
 condS v32_7 (
 condS v32_7 (
 bindL (boxCells (C.ti Q1) (.val (.int .i64 2))) fun c_226 =>
 bindL (putAt (List.map .val (C.ti Q0).zero) 4 c_226) fun c2_226 =>
 bindL (boxCells (C.ti Q1) (.val (.int .i64 2))) fun c_227 =>
 bindL (putAt c2_226 5 c_227) fun c2_227 =>
 bind1 (ofSlots (C.ti Q0) (List.take (C.ti Q0).size c2_227)) fun v58_110 =>
 bindL (boxCells (C.ti Q0) v58_110) fun c_228 =>
 bindL (putAt c2_227 0 c_228) fun c2_228 =>
 bind1 (tupS [(ofSlots (C.ti Q0) (List.take (C.ti Q0).size c2_228)), (some (.val (.bool true)))]) fun v => some (.ret v, s)) (
 bind1 (binS (C.ti Q4) .eql (.val a0) (.val (.int .i64 20))) fun v37_28 =>
 condS v37_28 (
 bind1 (ofSlots (C.ti Q0) (List.take (C.ti Q0).size (List.map .val (C.ti Q0).zero))) fun v58_111 =>
 bindL (boxCells (C.ti Q0) v58_111) fun c_229 =>
 bindL (putAt (List.map .val (C.ti Q0).zero) 0 c_229) fun c2_229 =>
 bind1 (tupS [(ofSlots (C.ti Q0) (List.take (C.ti Q0).size c2_229)), (some (.val (.bool true)))]) fun v => some (.ret v, s)) (
 bind1 (ofSlots (C.ti Q0) (List.take (C.ti Q0).size (List.map .val (C.ti Q0).zero))) fun v58_112 =>
 bindL (boxCells (C.ti Q0) v58_112) fun c_230 =>
 bindL (putAt (List.map .val (C.ti Q0).zero) 0 c_230) fun c2_230 =>
 bind1 (tupS [(ofSlots (C.ti Q0) (List.take (C.ti Q0).size c2_230)), (some (.val (.bool false)))]) fun v => some (.ret v, s)))) (
 bind1 (binS (C.ti Q4) .eql (.val a0) (.val (.int .i64 14))) fun v33_7 =>
 condS v33_7 (
 condS v33_7 (
 bindL (boxCells (C.ti Q1) (.val (.int .i64 2))) fun c_231 =>
 bindL (putAt (List.map .val (C.ti Q0).zero) 4 c_231) fun c2_231 =>
 bindL (boxCells (C.ti Q1) (.val (.int .i64 2))) fun c_232 =>
 bindL (putAt c2_231 5 c_232) fun c2_232 =>
 bind1 (ofSlots (C.ti Q0) (List.take (C.ti Q0).size c2_232)) fun v58_113 =>
 bindL (boxCells (C.ti Q0) v58_113) fun c_233 =>
 bindL (putAt c2_232 0 c_233) fun c2_233 =>
 bind1 (tupS [(ofSlots (C.ti Q0) (List.take (C.ti Q0).size c2_233)), (some (.val (.bool true)))]) fun v => some (.ret v, s)) (
 bind1 (binS (C.ti Q4) .eql (.val a0) (.val (.int .i64 20))) fun v37_29 =>
 condS v37_29 (
 bind1 (ofSlots (C.ti Q0) (List.take (C.ti Q0).size (List.map .val (C.ti Q0).zero))) fun v58_114 =>
 bindL (boxCells (C.ti Q0) v58_114) fun c_234 =>
 bindL (putAt (List.map .val (C.ti Q0).zero) 0 c_234) fun c2_234 =>
 bind1 (tupS [(ofSlots (C.ti Q0) (List.take (C.ti Q0).size c2_234)), (some (.val (.bool true)))]) fun v => some (.ret v, s)) (
 bind1 (ofSlots (C.ti Q0) (List.take (C.ti Q0).size (List.map .val (C.ti Q0).zero))) fun v58_115 =>
 bindL (boxCells (C.ti Q0) v58_115) fun c_235 =>
 bindL (putAt (List.map .val (C.ti Q0).zero) 0 c_235) fun c2_235 =>
 bind1 (tupS [(ofSlots (C.ti Q0) (List.take (C.ti Q0).size c2_235)), (some (.val (.bool false)))]) fun v => some (.ret v, s)))) (
 bind1 (binS (C.ti Q4) .eql (.val a0) (.val (.int .i64 15))) fun v34_7 =>
 condS v34_7 (
 condS v34_7 (
 bindL (boxCells (C.ti Q1) (.val (.int .i64 2))) fun c_236 =>
 bindL (putAt (List.map .val (C.ti Q0).zero) 4 c_236) fun c2_236 =>
 bindL (boxCells (C.ti Q1) (.val (.int .i64 2))) fun c_237 =>
 bindL (putAt c2_236 5 c_237) fun c2_237 =>
 bind1 (ofSlots (C.ti Q0) (List.take (C.ti Q0).size c2_237)) fun v58_116 =>
 bindL (boxCells (C.ti Q0) v58_116) fun c_238 =>
 bindL (putAt c2_237 0 c_238) fun c2_238 =>
 bind1 (tupS [(ofSlots (C.ti Q0) (List.take (C.ti Q0).size c2_238)), (some (.val (.bool true)))]) fun v => some (.ret v, s)) (
 bind1 (binS (C.ti Q4) .eql (.val a0) (.val (.int .i64 20))) fun v37_30 =>
 condS v37_30 (
 bind1 (ofSlots (C.ti Q0) (List.take (C.ti Q0).size (List.map .val (C.ti Q0).zero))) fun v58_117 =>
 bindL (boxCells (C.ti Q0) v58_117) fun c_239 =>
 bindL (putAt (List.map .val (C.ti Q0).zero) 0 c_239) fun c2_239 =>
 bind1 (tupS [(ofSlots (C.ti Q0) (List.take (C.ti Q0).size c2_239)), (some (.val (.bool true)))]) fun v => some (.ret v, s)) (
 bind1 (ofSlots (C.ti Q0) (List.take (C.ti Q0).size (List.map .val (C.ti Q0).zero))) fun v58_118 =>
 bindL (boxCells (C.ti Q0) v58_118) fun c_240 =>
 bindL (putAt (List.map .val (C.ti Q0).zero) 0 c_240) fun c2_240 =>
 bind1 (tupS [(ofSlots (C.ti Q0) (List.take (C.ti Q0).size c2_240)), (some (.val (.bool false)))]) fun v => some (.ret v, s)))) (
 bind1 (binS (C.ti Q4) .eql (.val a0) (.val (.int .i64 18))) fun v35_7 =>
 condS v35_7 (
 bindL (boxCells (C.ti Q1) (.val (.int .i64 2))) fun c_241 =>
 bindL (putAt (List.map .val (C.ti Q0).zero) 4 c_241) fun c2_241 =>
 bindL (boxCells (C.ti Q1) (.val (.int .i64 2))) fun c_242 =>
 bindL (putAt c2_241 5 c_242) fun c2_242 =>
 bind1 (ofSlots (C.ti Q0) (List.take (C.ti Q0).size c2_242)) fun v58_119 =>
 bindL (boxCells (C.ti Q0) v58_119) fun c_243 =>
 bindL (putAt c2_242 0 c_243) fun c2_243 =>
 bind1 (tupS [(ofSlots (C.ti Q0) (List.take (C.ti Q0).size c2_243)), (some (.val (.bool true)))]) fun v => some (.ret v, s)) (
 bind1 (binS (C.ti Q4) .eql (.val a0) (.val (.int .i64 20))) fun v37_31 =>
 condS v37_31 (
 bind1 (ofSlots (C.ti Q0) (List.take (C.ti Q0).size (List.map .val (C.ti Q0).zero))) fun v58_120 =>
 bindL (boxCells (C.ti Q0) v58_120) fun c_244 =>
 bindL (putAt (List.map .val (C.ti Q0).zero) 0 c_244) fun c2_244 =>
 bind1 (tupS [(ofSlots (C.ti Q0) (List.take (C.ti Q0).size c2_244)), (some (.val (.bool true)))]) fun v => some (.ret v, s)) (
 bind1 (ofSlots (C.ti Q0) (List.take (C.ti Q0).size (List.map .val (C.ti Q0).zero))) fun v58_121 =>
 bindL (boxCells (C.ti Q0) v58_121) fun c_245 =>
 bindL (putAt (List.map .val (C.ti Q0).zero) 0 c_245) fun c2_245 =>
 bind1 (tupS [(ofSlots (C.ti Q0) (List.take (C.ti Q0).size c2_245)), (some (.val (.bool false)))]) fun v => some (.ret v, s))))))))))))))))))))) := (Q5 _ _ _).trans (by kernel_rfl)
theorem Q6z (a0 : AV) (s : St) : cw (.f Q04) [a0] s =
 ca Q1A [(.val a0)] s fun v4 s_1 =>
 iF v4 fun w =>
 iF v4 fun w_1 =>
 gB w_1 Q2 .eql (gdV w (.val a0)) (sv [116, 114, 117, 101]) fun v7 =>
 pk v4 (bv true) v7 fun v8 =>
 iF v8 fun w_2 =>
 iF v8 fun w_3 =>
 gB w_3 Q2 .eql (gdV w_2 (.val a0)) (sv [102, 97, 108, 115, 101]) fun v11 =>
 pk v8 (bv true) v11 fun v12 =>
 iF v12 fun w_4 =>
 iF v12 fun w_5 =>
 gB w_5 Q2 .eql (gdV w_4 (.val a0)) (sv [40, 41]) fun v15 =>
 pk v12 (bv true) v15 fun v16 =>
 some (.ret v16, s_1) := (Q5 _ _ _).trans (by kernel_rfl)
theorem QcM (a0 : AV) (s : St) : cw (.f Q2x) [a0] s =
 bn Q1 .geq (.val a0) (iv (-1073741824)) fun v4 =>
 iT v4 fun w =>
 iT v4 fun w_1 =>
 gB w_1 Q1 .leq (gdV w (.val a0)) (iv 1073741823) fun v7 =>
 pk v4 v7 (bv false) fun v8 =>
 some (.ret v8, s) := (Q5 _ _ _).trans (by kernel_rfl)
theorem QcL (a0 : AV) (s : St) : cw (.f Q2w) [a0] s =
 bn Q9 .geq (.val a0) (.val (.int .u8 65)) fun v4 =>
 iT v4 fun w =>
 iT v4 fun w_1 =>
 gB w_1 Q9 .leq (gdV w (.val a0)) (.val (.int .u8 90)) fun v7 =>
 pk v4 v7 (bv false) fun v8 =>
 some (.ret v8, s) := (Q5 _ _ _).trans (by kernel_rfl)
end Go.Proofs.YtobelgghegmhhaaGreatDoor