/- A part of the proof: G3. -/
import Derived.Test.YtobelgghegmhhaaGreatDoorM4
set_option linter.unusedVariables false
set_option linter.unusedSimpArgs false
namespace Go.Proofs.YtobelgghegmhhaaGreatDoor
open Go Go.Am
noncomputable def Q3:List Slot->Slot->St->Res:=λa b s=>pwD Q0U [.seqR,.seqR,.seqR] Tryz.f153 [(2,.var a),(3,.s b)] s
noncomputable def QF:List Slot->Slot->St->Res:=λa b s=>pwD Q0U [.seqR,.seqR,.seqL,.seqR,.block,.seqL,.block,.seqL,.block,.seqL,.block,.seqL,.block,.seqR] Tryz.f153 [(2,.var a),(3,.s b)] s
noncomputable def Q9:List Slot->Slot->St->Res:=λa b s=>pwD Q0U [.seqR,.seqR,.seqL,.seqR,.block,.seqL,.block,.seqL,.block,.seqR] Tryz.f153 [(2,.var a),(3,.s b)] s
theorem Q3r:∀ a c b,Q3 a c b =
 gA Q7 a λf=>
 bx Q7 f λe=>
 pt a 0 e λd=>
 rt [(ofSlots (C.ti Q7) (List.take (C.ti Q7).size d)),(some c)] b:=by intros;unfold Q3;exact (Q0b _).trans (by kernel_rfl)
theorem Q3s:∀ b c a,QF b c a =
 bx Q1 (iv 1) λf=>
 pt b 4 f λd=>
 bx Q1 (iv 1) λg=>
 pt d 5 g λe=>
 Q3 e c a:=by intros;unfold QF;exact (Q0b _).trans (by kernel_rfl)
theorem Q3t:∀ b c a,Q9 b c a =
 bx Q1 (iv 2) λf=>
 pt b 4 f λd=>
 bx Q1 (iv 2) λg=>
 pt d 5 g λe=>
 Q3 e c a:=by intros;unfold Q9;exact (Q0b _).trans (by kernel_rfl)
theorem Q51(a:AV)(s:St):cw (.f Q0U) [a] s =
 bn Q4 .eql (.val a) (iv 1) λk5=>
 condS k5 (
 bx Qd (bv true) λc=>
 bindL (putAt (List.map .val (C.ti Q7).zero) 1 c) λL=>
 Q3 L (bv true) s) (
 bn Q4 .eql (.val a) (iv 2) λk6=>
 condS k6 (
 bx Qd (bv true) λd2=>
 pZ Q7 d2 λW=>
 Q3 W (bv true) s) (
 bn Q4 .eql (.val a) (iv 3) λe8=>
 condS e8 (
 bx Qd (bv true) λe1=>
 pZ Q7 e1 λa8=>
 bx Q1 (iv 1) λe2=>
 pt a8 5 e2 λa9=>
 Q3 a9 (bv true) s) (
 bn Q4 .eql (.val a) (iv 4) λe9=>
 condS e9 (
 bx Q1 (iv 2) λe3=>
 bindL (putAt (List.map .val (C.ti Q7).zero) 4 e3) λb0=>
 bx Q1 (iv 8) λe4=>
 pt b0 5 e4 λb1=>
 Q3 b1 (bv true) s) (
 bn Q4 .eql (.val a) (iv 5) λf0=>
 condS f0 (
 bx Qd (bv true) λe5=>
 bindL (putAt (List.map .val (C.ti Q7).zero) 2 e5) λb2=>
 Q3 b2 (bv true) s) (
 bn Q4 .eql (.val a) (iv 10) λf1=>
 condS f1 (
 bx Q1 (iv 2) λe6=>
 bindL (putAt (List.map .val (C.ti Q7).zero) 4 e6) λb3=>
 bx Q1 (iv 4611686018427387904) λe7=>
 pt b3 5 e7 λb4=>
 Q3 b4 (bv true) s) (
 bn Q4 .eql (.val a) (iv 8) λf2=>
 condS f2 (
 bx Q1 (iv 3) λb5=>
 bindL (putAt (List.map .val (C.ti Q7).zero) 4 b5) λM=>
 bx Q1 (iv 3) λb6=>
 pt M 5 b6 λN=>
 Q3 N (bv true) s) (
 bn Q4 .eql (.val a) (iv 7) λf3=>
 condS f3 (
 bx Qd (bv true) λb7=>
 bindL (putAt (List.map .val (C.ti Q7).zero) 3 b7) λO=>
 bx Q1 (iv 1) λb8=>
 pt O 4 b8 λP=>
 bx Q1 (iv 1) λb9=>
 pt P 5 b9 λR=>
 Q3 R (bv true) s) (
 bn Q4 .eql (.val a) (iv 9) λb=>
 condS b (
 condS b (
 bx Qd (bv true) λd0=>
 bindL (putAt (List.map .val (C.ti Q7).zero) 2 d0) λU=>
 QF U (bv true) s) (
 bn Q4 .eql (.val a) (iv 12) λd=>
 condS d (
 condS d (
 QF ((List.map .val (C.ti Q7).zero)) (bv true) s) (
 bn Q4 .eql (.val a) (iv 13) λf7=>
 condS f7 (
 bx Qd (bv true) λd1=>
 bindL (putAt (List.map .val (C.ti Q7).zero) 1 d1) λV=>
 Q9 V (bv true) s) (
 bn Q4 .eql (.val a) (iv 6) λk=>
 condS k (
 condS k (
 Q9 ((List.map .val (C.ti Q7).zero)) (bv true) s) (
 bn Q4 .eql (.val a) (iv 20) λh3=>
 condS h3 (
 Q3 ((List.map .val (C.ti Q7).zero)) (bv true) s) (
 Q3 ((List.map .val (C.ti Q7).zero)) (bv false) s))) (
 bn Q4 .eql (.val a) (iv 14) λt=>
 condS t (
 condS t (
 Q9 ((List.map .val (C.ti Q7).zero)) (bv true) s) (
 bn Q4 .eql (.val a) (iv 20) λh4=>
 condS h4 (
 Q3 ((List.map .val (C.ti Q7).zero)) (bv true) s) (
 Q3 ((List.map .val (C.ti Q7).zero)) (bv false) s))) (
 bn Q4 .eql (.val a) (iv 15) λB=>
 condS B (
 condS B (
 Q9 ((List.map .val (C.ti Q7).zero)) (bv true) s) (
 bn Q4 .eql (.val a) (iv 20) λi5=>
 condS i5 (
 Q3 ((List.map .val (C.ti Q7).zero)) (bv true) s) (
 Q3 ((List.map .val (C.ti Q7).zero)) (bv false) s))) (
 bn Q4 .eql (.val a) (iv 18) λg5=>
 condS g5 (
 Q9 ((List.map .val (C.ti Q7).zero)) (bv true) s) (
 bn Q4 .eql (.val a) (iv 20) λj6=>
 condS j6 (
 Q3 ((List.map .val (C.ti Q7).zero)) (bv true) s) (
 Q3 ((List.map .val (C.ti Q7).zero)) (bv false) s)))))))) (
 bn Q4 .eql (.val a) (iv 16) λg=>
 condS g (
 condS g (
 QF ((List.map .val (C.ti Q7).zero)) (bv true) s) (
 bn Q4 .eql (.val a) (iv 13) λf8=>
 condS f8 (
 bx Qd (bv true) λd3=>
 bindL (putAt (List.map .val (C.ti Q7).zero) 1 d3) λY=>
 Q9 Y (bv true) s) (
 bn Q4 .eql (.val a) (iv 6) λl=>
 condS l (
 condS l (
 Q9 ((List.map .val (C.ti Q7).zero)) (bv true) s) (
 bn Q4 .eql (.val a) (iv 20) λj9=>
 condS j9 (
 Q3 ((List.map .val (C.ti Q7).zero)) (bv true) s) (
 Q3 ((List.map .val (C.ti Q7).zero)) (bv false) s))) (
 bn Q4 .eql (.val a) (iv 14) λu=>
 condS u (
 condS u (
 Q9 ((List.map .val (C.ti Q7).zero)) (bv true) s) (
 bn Q4 .eql (.val a) (iv 20) λk0=>
 condS k0 (
 Q3 ((List.map .val (C.ti Q7).zero)) (bv true) s) (
 Q3 ((List.map .val (C.ti Q7).zero)) (bv false) s))) (
 bn Q4 .eql (.val a) (iv 15) λD=>
 condS D (
 condS D (
 Q9 ((List.map .val (C.ti Q7).zero)) (bv true) s) (
 bn Q4 .eql (.val a) (iv 20) λk1=>
 condS k1 (
 Q3 ((List.map .val (C.ti Q7).zero)) (bv true) s) (
 Q3 ((List.map .val (C.ti Q7).zero)) (bv false) s))) (
 bn Q4 .eql (.val a) (iv 18) λg6=>
 condS g6 (
 Q9 ((List.map .val (C.ti Q7).zero)) (bv true) s) (
 bn Q4 .eql (.val a) (iv 20) λk2=>
 condS k2 (
 Q3 ((List.map .val (C.ti Q7).zero)) (bv true) s) (
 Q3 ((List.map .val (C.ti Q7).zero)) (bv false) s)))))))) (
 bn Q4 .eql (.val a) (iv 17) λi=>
 condS i (
 condS i (
 QF ((List.map .val (C.ti Q7).zero)) (bv true) s) (
 bn Q4 .eql (.val a) (iv 13) λf9=>
 condS f9 (
 bx Qd (bv true) λd4=>
 bindL (putAt (List.map .val (C.ti Q7).zero) 1 d4) λa1=>
 Q9 a1 (bv true) s) (
 bn Q4 .eql (.val a) (iv 6) λm=>
 condS m (
 condS m (
 Q9 ((List.map .val (C.ti Q7).zero)) (bv true) s) (
 bn Q4 .eql (.val a) (iv 20) λk3=>
 condS k3 (
 Q3 ((List.map .val (C.ti Q7).zero)) (bv true) s) (
 Q3 ((List.map .val (C.ti Q7).zero)) (bv false) s))) (
 bn Q4 .eql (.val a) (iv 14) λv=>
 condS v (
 condS v (
 Q9 ((List.map .val (C.ti Q7).zero)) (bv true) s) (
 bn Q4 .eql (.val a) (iv 20) λk4=>
 condS k4 (
 Q3 ((List.map .val (C.ti Q7).zero)) (bv true) s) (
 Q3 ((List.map .val (C.ti Q7).zero)) (bv false) s))) (
 bn Q4 .eql (.val a) (iv 15) λE=>
 condS E (
 condS E (
 Q9 ((List.map .val (C.ti Q7).zero)) (bv true) s) (
 bn Q4 .eql (.val a) (iv 20) λh5=>
 condS h5 (
 Q3 ((List.map .val (C.ti Q7).zero)) (bv true) s) (
 Q3 ((List.map .val (C.ti Q7).zero)) (bv false) s))) (
 bn Q4 .eql (.val a) (iv 18) λg7=>
 condS g7 (
 Q9 ((List.map .val (C.ti Q7).zero)) (bv true) s) (
 bn Q4 .eql (.val a) (iv 20) λh6=>
 condS h6 (
 Q3 ((List.map .val (C.ti Q7).zero)) (bv true) s) (
 Q3 ((List.map .val (C.ti Q7).zero)) (bv false) s)))))))) (
 bn Q4 .eql (.val a) (iv 19) λf5=>
 condS f5 (
 QF ((List.map .val (C.ti Q7).zero)) (bv true) s) (
 bn Q4 .eql (.val a) (iv 13) λg0=>
 condS g0 (
 bx Qd (bv true) λd5=>
 bindL (putAt (List.map .val (C.ti Q7).zero) 1 d5) λa2=>
 Q9 a2 (bv true) s) (
 bn Q4 .eql (.val a) (iv 6) λn=>
 condS n (
 condS n (
 Q9 ((List.map .val (C.ti Q7).zero)) (bv true) s) (
 bn Q4 .eql (.val a) (iv 20) λh7=>
 condS h7 (
 Q3 ((List.map .val (C.ti Q7).zero)) (bv true) s) (
 Q3 ((List.map .val (C.ti Q7).zero)) (bv false) s))) (
 bn Q4 .eql (.val a) (iv 14) λw=>
 condS w (
 condS w (
 Q9 ((List.map .val (C.ti Q7).zero)) (bv true) s) (
 bn Q4 .eql (.val a) (iv 20) λh8=>
 condS h8 (
 Q3 ((List.map .val (C.ti Q7).zero)) (bv true) s) (
 Q3 ((List.map .val (C.ti Q7).zero)) (bv false) s))) (
 bn Q4 .eql (.val a) (iv 15) λF=>
 condS F (
 condS F (
 Q9 ((List.map .val (C.ti Q7).zero)) (bv true) s) (
 bn Q4 .eql (.val a) (iv 20) λh9=>
 condS h9 (
 Q3 ((List.map .val (C.ti Q7).zero)) (bv true) s) (
 Q3 ((List.map .val (C.ti Q7).zero)) (bv false) s))) (
 bn Q4 .eql (.val a) (iv 18) λg8=>
 condS g8 (
 Q9 ((List.map .val (C.ti Q7).zero)) (bv true) s) (
 bn Q4 .eql (.val a) (iv 20) λi0=>
 condS i0 (
 Q3 ((List.map .val (C.ti Q7).zero)) (bv true) s) (
 Q3 ((List.map .val (C.ti Q7).zero)) (bv false) s)))))))))))) (
 bn Q4 .eql (.val a) (iv 11) λf4=>
 condS f4 (
 bx Qd (bv true) λd6=>
 bindL (putAt (List.map .val (C.ti Q7).zero) 2 d6) λa3=>
 QF a3 (bv true) s) (
 bn Q4 .eql (.val a) (iv 12) λe=>
 condS e (
 condS e (
 QF ((List.map .val (C.ti Q7).zero)) (bv true) s) (
 bn Q4 .eql (.val a) (iv 13) λg1=>
 condS g1 (
 bx Qd (bv true) λd7=>
 bindL (putAt (List.map .val (C.ti Q7).zero) 1 d7) λa4=>
 Q9 a4 (bv true) s) (
 bn Q4 .eql (.val a) (iv 6) λo=>
 condS o (
 condS o (
 Q9 ((List.map .val (C.ti Q7).zero)) (bv true) s) (
 bn Q4 .eql (.val a) (iv 20) λi1=>
 condS i1 (
 Q3 ((List.map .val (C.ti Q7).zero)) (bv true) s) (
 Q3 ((List.map .val (C.ti Q7).zero)) (bv false) s))) (
 bn Q4 .eql (.val a) (iv 14) λx=>
 condS x (
 condS x (
 Q9 ((List.map .val (C.ti Q7).zero)) (bv true) s) (
 bn Q4 .eql (.val a) (iv 20) λi2=>
 condS i2 (
 Q3 ((List.map .val (C.ti Q7).zero)) (bv true) s) (
 Q3 ((List.map .val (C.ti Q7).zero)) (bv false) s))) (
 bn Q4 .eql (.val a) (iv 15) λG=>
 condS G (
 condS G (
 Q9 ((List.map .val (C.ti Q7).zero)) (bv true) s) (
 bn Q4 .eql (.val a) (iv 20) λi3=>
 condS i3 (
 Q3 ((List.map .val (C.ti Q7).zero)) (bv true) s) (
 Q3 ((List.map .val (C.ti Q7).zero)) (bv false) s))) (
 bn Q4 .eql (.val a) (iv 18) λg9=>
 condS g9 (
 Q9 ((List.map .val (C.ti Q7).zero)) (bv true) s) (
 bn Q4 .eql (.val a) (iv 20) λi4=>
 condS i4 (
 Q3 ((List.map .val (C.ti Q7).zero)) (bv true) s) (
 Q3 ((List.map .val (C.ti Q7).zero)) (bv false) s)))))))) (
 bn Q4 .eql (.val a) (iv 16) λh=>
 condS h (
 condS h (
 QF ((List.map .val (C.ti Q7).zero)) (bv true) s) (
 bn Q4 .eql (.val a) (iv 13) λg2=>
 condS g2 (
 bx Qd (bv true) λd8=>
 bindL (putAt (List.map .val (C.ti Q7).zero) 1 d8) λa5=>
 Q9 a5 (bv true) s) (
 bn Q4 .eql (.val a) (iv 6) λp=>
 condS p (
 condS p (
 Q9 ((List.map .val (C.ti Q7).zero)) (bv true) s) (
 bn Q4 .eql (.val a) (iv 20) λi6=>
 condS i6 (
 Q3 ((List.map .val (C.ti Q7).zero)) (bv true) s) (
 Q3 ((List.map .val (C.ti Q7).zero)) (bv false) s))) (
 bn Q4 .eql (.val a) (iv 14) λy=>
 condS y (
 condS y (
 Q9 ((List.map .val (C.ti Q7).zero)) (bv true) s) (
 bn Q4 .eql (.val a) (iv 20) λi7=>
 condS i7 (
 Q3 ((List.map .val (C.ti Q7).zero)) (bv true) s) (
 Q3 ((List.map .val (C.ti Q7).zero)) (bv false) s))) (
 bn Q4 .eql (.val a) (iv 15) λH=>
 condS H (
 condS H (
 Q9 ((List.map .val (C.ti Q7).zero)) (bv true) s) (
 bn Q4 .eql (.val a) (iv 20) λi8=>
 condS i8 (
 Q3 ((List.map .val (C.ti Q7).zero)) (bv true) s) (
 Q3 ((List.map .val (C.ti Q7).zero)) (bv false) s))) (
 bn Q4 .eql (.val a) (iv 18) λh0=>
 condS h0 (
 Q9 ((List.map .val (C.ti Q7).zero)) (bv true) s) (
 bn Q4 .eql (.val a) (iv 20) λi9=>
 condS i9 (
 Q3 ((List.map .val (C.ti Q7).zero)) (bv true) s) (
 Q3 ((List.map .val (C.ti Q7).zero)) (bv false) s)))))))) (
 bn Q4 .eql (.val a) (iv 17) λj=>
 condS j (
 condS j (
 QF ((List.map .val (C.ti Q7).zero)) (bv true) s) (
 bn Q4 .eql (.val a) (iv 13) λg3=>
 condS g3 (
 bx Qd (bv true) λd9=>
 bindL (putAt (List.map .val (C.ti Q7).zero) 1 d9) λa6=>
 Q9 a6 (bv true) s) (
 bn Q4 .eql (.val a) (iv 6) λq=>
 condS q (
 condS q (
 Q9 ((List.map .val (C.ti Q7).zero)) (bv true) s) (
 bn Q4 .eql (.val a) (iv 20) λj0=>
 condS j0 (
 Q3 ((List.map .val (C.ti Q7).zero)) (bv true) s) (
 Q3 ((List.map .val (C.ti Q7).zero)) (bv false) s))) (
 bn Q4 .eql (.val a) (iv 14) λz=>
 condS z (
 condS z (
 Q9 ((List.map .val (C.ti Q7).zero)) (bv true) s) (
 bn Q4 .eql (.val a) (iv 20) λj1=>
 condS j1 (
 Q3 ((List.map .val (C.ti Q7).zero)) (bv true) s) (
 Q3 ((List.map .val (C.ti Q7).zero)) (bv false) s))) (
 bn Q4 .eql (.val a) (iv 15) λI=>
 condS I (
 condS I (
 Q9 ((List.map .val (C.ti Q7).zero)) (bv true) s) (
 bn Q4 .eql (.val a) (iv 20) λj2=>
 condS j2 (
 Q3 ((List.map .val (C.ti Q7).zero)) (bv true) s) (
 Q3 ((List.map .val (C.ti Q7).zero)) (bv false) s))) (
 bn Q4 .eql (.val a) (iv 18) λh1=>
 condS h1 (
 Q9 ((List.map .val (C.ti Q7).zero)) (bv true) s) (
 bn Q4 .eql (.val a) (iv 20) λj3=>
 condS j3 (
 Q3 ((List.map .val (C.ti Q7).zero)) (bv true) s) (
 Q3 ((List.map .val (C.ti Q7).zero)) (bv false) s)))))))) (
 bn Q4 .eql (.val a) (iv 19) λf6=>
 condS f6 (
 QF ((List.map .val (C.ti Q7).zero)) (bv true) s) (
 bn Q4 .eql (.val a) (iv 13) λg4=>
 condS g4 (
 bx Qd (bv true) λe0=>
 bindL (putAt (List.map .val (C.ti Q7).zero) 1 e0) λa7=>
 Q9 a7 (bv true) s) (
 bn Q4 .eql (.val a) (iv 6) λr=>
 condS r (
 condS r (
 Q9 ((List.map .val (C.ti Q7).zero)) (bv true) s) (
 bn Q4 .eql (.val a) (iv 20) λj4=>
 condS j4 (
 Q3 ((List.map .val (C.ti Q7).zero)) (bv true) s) (
 Q3 ((List.map .val (C.ti Q7).zero)) (bv false) s))) (
 bn Q4 .eql (.val a) (iv 14) λA=>
 condS A (
 condS A (
 Q9 ((List.map .val (C.ti Q7).zero)) (bv true) s) (
 bn Q4 .eql (.val a) (iv 20) λj5=>
 condS j5 (
 Q3 ((List.map .val (C.ti Q7).zero)) (bv true) s) (
 Q3 ((List.map .val (C.ti Q7).zero)) (bv false) s))) (
 bn Q4 .eql (.val a) (iv 15) λJ=>
 condS J (
 condS J (
 Q9 ((List.map .val (C.ti Q7).zero)) (bv true) s) (
 bn Q4 .eql (.val a) (iv 20) λj7=>
 condS j7 (
 Q3 ((List.map .val (C.ti Q7).zero)) (bv true) s) (
 Q3 ((List.map .val (C.ti Q7).zero)) (bv false) s))) (
 bn Q4 .eql (.val a) (iv 18) λh2=>
 condS h2 (
 Q9 ((List.map .val (C.ti Q7).zero)) (bv true) s) (
 bn Q4 .eql (.val a) (iv 20) λj8=>
 condS j8 (
 Q3 ((List.map .val (C.ti Q7).zero)) (bv true) s) (
 Q3 ((List.map .val (C.ti Q7).zero)) (bv false) s)))))))))))))))))))):=(Q5 _ _ _).trans (by kernel_rfl)
theorem Q5M(a:AV)(s:St):cw (.f Q06) [a] s =
 ca Q1v [(.val a)] s λc e=>
 iF c λw=>
 iF c λk=>
 gB k Q0 .eql (gdV w (.val a)) (sv [116,114,117,101]) λj=>
 pk c (bv true) j λd=>
 iF d λl=>
 iF d λm=>
 gB m Q0 .eql (gdV l (.val a)) (sv [102,97,108,115,101]) λg=>
 pk d (bv true) g λb=>
 iF b λn=>
 iF b λo=>
 gB o Q0 .eql (gdV n (.val a)) (sv [40,41]) λh=>
 pk b (bv true) h λi=>
 some (.ret i,e):=(Q5 _ _ _).trans (by kernel_rfl)
theorem Qbf(a:AV)(s:St):cw (.f Q2j) [a] s =
 bn Q1 .geq (.val a) (iv (-1073741824)) λb=>
 iT b λw=>
 iT b λe=>
 gB e Q1 .leq (gdV w (.val a)) (iv 1073741823) λc=>
 pk b c (bv false) λd=>
 some (.ret d,s):=(Q5 _ _ _).trans (by kernel_rfl)
theorem Qbe(a:AV)(s:St):cw (.f Q2i) [a] s =
 bn Qb .geq (.val a) (.val (.int .u8 65)) λb=>
 iT b λw=>
 iT b λe=>
 gB e Qb .leq (gdV w (.val a)) (.val (.int .u8 90)) λc=>
 pk b c (bv false) λd=>
 some (.ret d,s):=(Q5 _ _ _).trans (by kernel_rfl)
end Go.Proofs.YtobelgghegmhhaaGreatDoor