/- A part of the proof: G3. -/
import Derived.Test.YtgfhplcmcdimiaaGreatDoorM4
set_option linter.unusedVariables false
set_option linter.unusedSimpArgs false
namespace Go.Proofs.YtgfhplcmcdimiaaGreatDoor
open Go Go.Am
noncomputable def Zr:List Slot->Slot->Slot->Slot->Slot->St->Res:=λa b c d e s=>pwD Q3g [.seqR,.seqR,.seqR] Tryz.f138 [(1,.var a),(3,.s b),(4,.s c),(5,.s d),(6,.s e)] s
theorem QaB:∀ a e b x u r,Zr a e b x u r =
 nt e λm=>
 iT m λw=>
 iT m λb1=>
 gG b1 w Q0 2 a λz=>
 iT m λd1=>
 gB d1 Q0 .neq z (sv []) λA=>
 pk m A (bv false) λf=>
 iF f λd9=>
 iF f λf0=>
 bind1 (gd f0 (unS .not (gdV d9 b))) λn=>
 iF f λq=>
 bindB (Slot.isB (gdV q n) true) λf4=>
 bindB (Slot.isB (gdV q n) true) λf5=>
 gG f5 f4 Q1 3 a λB=>
 bindB (Slot.isB (gdV q n) true) λf6=>
 gB f6 Q1 .neq B (iv 0) λD=>
 iF f λf7=>
 bind1 (gd f7 (pickS (gdV q n) D (bv false))) λE=>
 pk f (bv true) E λg=>
 iF g λb2=>
 iF g λb3=>
 gB b3 Q1 .eql (gdV b2 u) (iv 0) λh=>
 iF g λk=>
 bindB (Slot.isB (gdV k h) true) λb4=>
 bindB (Slot.isB (gdV k h) true) λb5=>
 gG b5 b4 Qv 4 a λF=>
 bindB (Slot.isB (gdV k h) true) λb6=>
 gL b6 Qv F λG=>
 bindB (Slot.isB (gdV k h) true) λb7=>
 gB b7 Q1 .gtr G (iv 0) λH=>
 iF g λb8=>
 bind1 (gd b8 (pickS (gdV k h) H (bv false))) λI=>
 pk g (bv true) I λJ=>
 condS J (
 some (.ret (iv 29),r)) (
 gC Qi 0 a λL=>
 bn Qi .eql L (iv 4) λi=>
 iT i λb9=>
 iT i λd0=>
 gG d0 b9 Q0 2 a λM=>
 iT i λd2=>
 cg d2 Q1u [M] r λN y=>
 iT i λd3=>
 gN d3 N λO=>
 pk i O (bv false) λc=>
 iF c λo=>
 iF c λp=>
 bindB (Slot.isB (gdV p (gdV o e)) true) λd4=>
 bindB (Slot.isB (gdV p (gdV o e)) true) λd5=>
 gG d5 d4 Qi 0 a λP=>
 bindB (Slot.isB (gdV p (gdV o e)) true) λd6=>
 gB d6 Qi .neq P (iv 4) λR=>
 iF c λd7=>
 bind1 (gd d7 (pickS (gdV p (gdV o e)) R (bv false))) λj=>
 iF c λl=>
 bindB (Slot.isB (gdV l j) true) λd8=>
 bindB (Slot.isB (gdV l j) true) λe0=>
 gG e0 d8 Q0 2 a λU=>
 bindB (Slot.isB (gdV l j) true) λe1=>
 cg e1 Q2B [U] y λV v=>
 bindB (Slot.isB (gdV l j) true) λe2=>
 gN e2 V λW=>
 iF c λe3=>
 bind1 (gd e3 (pickS (gdV l j) W (bv false))) λY=>
 pk c (bv true) Y λa0=>
 condS a0 (
 some (.ret (iv 8),v)) (
 iT b λe4=>
 iT b λe5=>
 gG e5 e4 Q1 3 a λa1=>
 iT b λe6=>
 cg e6 Q5t [a1] v λa2 t=>
 iT b λe7=>
 gN e7 a2 λa3=>
 pk b a3 (bv false) λa4=>
 condS a4 (
 some (.ret (iv 2),t)) (
 gC Qv 4 a λa5=>
 ln Qv a5 λa6=>
 bn Q1 .lss a6 x λd=>
 iF d λe8=>
 iF d λe9=>
 gG e9 e8 Qv 4 a λa7=>
 iF d λf1=>
 gL f1 Qv a7 λa8=>
 iF d λf2=>
 iF d λf3=>
 gB f3 Q1 .gtr a8 (gdV f2 u) λa9=>
 pk d (bv true) a9 λb0=>
 condS b0 (
 some (.ret (iv 19),t)) (
 some (.ret (iv 0),t))))):=by intros;unfold Zr;exact (QM _).trans (by kernel_rfl)
theorem Qdi(c:AV)(s:St):cw (.f Q3g) [c] s =
 bx Ql (.val c) λa=>
 gC Qi 0 a λb=>
 bn Qi .eql b (iv 1) λd=>
 condS d (
 Zr a (bv false) (bv false) (iv 0) (iv 0) s) (
 bn Qi .eql b (iv 2) λe=>
 condS e (
 Zr a (bv true) (bv false) (iv 0) (iv 0) s) (
 bn Qi .eql b (iv 3) λg=>
 condS g (
 Zr a (bv false) (bv true) (iv 0) (iv 0) s) (
 bn Qi .eql b (iv 4) λh=>
 condS h (
 Zr a (bv true) (bv false) (iv 0) (iv 1) s) (
 bn Qi .eql b (iv 5) λi=>
 condS i (
 Zr a (bv false) (bv false) (iv 2) (iv 8) s) (
 bn Qi .eql b (iv 6) λj=>
 condS j (
 Zr a (bv true) (bv false) (iv 1) (iv 1) s) (
 some (.ret (iv 29),s))))))):=(Q3 _ _ _).trans (by kernel_rfl)
noncomputable def ZY:Slot->Slot->Slot->St->Res:=λa b c s=>pwD Q25 [.seqR,.seqR,.seqR,.seqR,.seqR] Tryz.f139 [(3,.s a),(4,.s b),(5,.s c)] s
noncomputable def Q0y:List Slot->Slot->Slot->Slot->Slot->Slot->St->Res:=λa b c d e f s=>pwD Q25 [.seqR,.seqR,.seqR,.seqR,.seqL,.seqR,.block,.seqR] Tryz.f139 [(1,.var a),(3,.s b),(4,.s c),(5,.s d),(56,.s e),(61,.s f)] s
theorem Qbw:∀ c d e b,ZY c d e b =
 bn Q1 .lss c d λa=>
 iF a λh=>
 iF a λi=>
 iF a λj=>
 gB j Q1 .gtr (gdV h c) (gdV i e) λf=>
 pk a (bv true) f λg=>
 condS g (
 some (.ret (iv 19),b)) (
 some (.ret (iv 0),b)):=by intros;unfold ZY;exact (QM _).trans (by kernel_rfl)
theorem Qbv:∀ f b d g c h a,Q0y f b d g c h a =
 condS h (
 ZY b d g a) (
 bn Q0 .eql c (sv [114,101,102]) λl=>
 condS l (
 ZY b (iv 1) (iv 1) a) (
 bn Q0 .eql c (sv [45,62]) λm=>
 condS m (
 ZY b (iv 2) (iv 2) a) (
 bn Q0 .eql c (sv [42]) λn=>
 condS n (
 ZY b (iv 2) (iv 8) a) (
 gC Q0 2 f λi=>
 ca Q2B [i] a λj e=>
 nt j λk=>
 condS k (
 some (.ret (iv 8),e)) (
 ZY b d (iv 8) e))))):=by intros;unfold Q0y;exact (QM _).trans (by kernel_rfl)
theorem Qep(o:AV)(s:St):cw (.f Q25) [o] s =
 bx Qo (.val o) λa=>
 gC Qn 3 a λR=>
 ln Qn R λg=>
 gC Qt 0 a λt=>
 bn Qt .eql t (iv 1) λc=>
 iT c λw=>
 iT c λU=>
 gG U w Q0 2 a λu=>
 iT c λa6=>
 gB a6 Q0 .neq u (sv []) λm=>
 iT c λn=>
 bindB (Slot.isB (gdV n m) false) λb3=>
 bindB (Slot.isB (gdV n m) false) λb4=>
 gB b4 Q1 .gtr (gdV b3 g) (iv 0) λv=>
 iT c λb5=>
 bind1 (gd b5 (pickS (gdV n m) (bv true) v)) λx=>
 pk c x (bv false) λd=>
 iF d λb6=>
 iF d λb7=>
 gG b7 b6 Qt 0 a λy=>
 iF d λb8=>
 gB b8 Qt .eql y (iv 2) λh=>
 iF d λk=>
 bindB (Slot.isB (gdV k h) true) λV=>
 bindB (Slot.isB (gdV k h) true) λW=>
 gG W V Q1 1 a λz=>
 bindB (Slot.isB (gdV k h) true) λY=>
 gB Y Q1 .neq z (iv 0) λA=>
 iF d λa1=>
 bind1 (gd a1 (pickS (gdV k h) A (bv false))) λB=>
 pk d (bv true) B λe=>
 iF e λa2=>
 iF e λa3=>
 gG a3 a2 Qt 0 a λD=>
 iF e λa4=>
 gB a4 Qt .neq D (iv 1) λi=>
 iF e λl=>
 bindB (Slot.isB (gdV l i) true) λa5=>
 bindB (Slot.isB (gdV l i) true) λa7=>
 gG a7 a5 Qt 0 a λE=>
 bindB (Slot.isB (gdV l i) true) λa8=>
 gB a8 Qt .neq E (iv 2) λF=>
 iF e λa9=>
 bind1 (gd a9 (pickS (gdV l i) F (bv false))) λG=>
 pk e (bv true) G λH=>
 condS H (
 some (.ret (iv 29),s)) (
 gC Qt 0 a λI=>
 bn Qt .eql I (iv 1) λj=>
 iT j λb0=>
 iT j λb1=>
 gG b1 b0 Q1 1 a λJ=>
 iT j λb2=>
 gB b2 Q1 .lss J (iv 0) λL=>
 pk j L (bv false) λM=>
 condS M (
 some (.ret (iv 2),s)) (
 gC Qt 0 a λN=>
 bn Qt .eql N (iv 1) λO=>
 condS O (
 some (.ret (iv 0),s)) (
 gC Q0 2 a λb=>
 bn Q0 .eql b (sv [105,110,116]) λp=>
 condS p (
 Q0y a g (iv 0) (iv 0) b p s) (
 bn Q0 .eql b (sv [98,111,111,108]) λq=>
 condS q (
 Q0y a g (iv 0) (iv 0) b q s) (
 bn Q0 .eql b (sv [117,110,105,116]) λr=>
 condS r (
 Q0y a g (iv 0) (iv 0) b r s) (
 bn Q0 .eql b (sv [101,120,110]) λP=>
 Q0y a g (iv 0) (iv 0) b P s)))))):=(Q3 _ _ _).trans (by kernel_rfl)
noncomputable def ZW:Slot->List Slot->Slot->Slot->St->Res:=λa b c d s=>lpD ZC [.seqR,.seqL,.seqR,.block] Tryz.f140 [(1,.s a),(2,.var b),(7,.s c),(8,.s d)] s
theorem Q3T:∀ c d f b e,ZW c d f b e =
 bn Q1 .lss b f λu=>
 condS u (
 gA QH d λi=>
 ix QF c b λj=>
 fa 0 j λk=>
 cn Zn [i,k] e λl h=>
 nt l λa=>
 iF a λw=>
 bind1 (gd w (ofSlots (C.ti QH) (List.take (C.ti QH).size d))) λm=>
 iF a λv=>
 iF a λx=>
 iF a λy=>
 bind1 (gd y (ixS (C.ti QF).size (gdV v c) (gdV x b))) λn=>
 iF a λz=>
 bind1 (gd z (faV 5 n)) λo=>
 iF a λA=>
 back (noPan (cal cw A (tgtV (.val (.fn ZR [])) [m,o]) h)) λp g=>
 iF a λB=>
 gN B p λq=>
 pk a (bv true) q λr=>
 condS r (
 some (.ret (bv false),g)) (
 nx b λt=>
 ZW c d f t g)) (
 some (.ret (bv true),e)):=by intros;unfold ZW;exact (Qd _ _ _ _ _ _).trans (by kernel_rfl)
theorem Q5T(b:AV)(a:AV)(s:St):cw (.f ZC) [b,a] s =
 bx QH (.val b) λc=>
 ln Qf (.val a) λd=>
 ZW (.val a) c d (iv 0) s:=(Q3 _ _ _).trans (by kernel_rfl)
theorem Qiz(V:AV)(B:AV)(s:St):cw (.f Q8X) [V,B] s =
 bx QL (.val V) λa=>
 gC Qx 0 a λa3=>
 bn Qx .eql a3 (iv 1) λc=>
 gC Qx 0 a λb9=>
 bn Qx .eql b9 (iv 2) λd=>
 gC Qx 0 a λd5=>
 bn Qx .eql d5 (iv 3) λb=>
 gC Qx 0 a λd6=>
 bn Qx .eql d6 (iv 4) λe=>
 nt c λI=>
 iT I λw=>
 iT I λg6=>
 bind1 (gd g6 (unS .not (gdV w d))) λd7=>
 pk I d7 (bv false) λJ=>
 iT J λh6=>
 iT J λi5=>
 bind1 (gd i5 (unS .not (gdV h6 b))) λd8=>
 pk J d8 (bv false) λL=>
 iT L λj5=>
 iT L λk4=>
 bind1 (gd k4 (unS .not (gdV j5 e))) λd9=>
 pk L d9 (bv false) λk=>
 iF k λR=>
 iF k λU=>
 bindB (Slot.isB (gdV U (gdV R (.val B))) true) λn0=>
 bindB (Slot.isB (gdV U (gdV R (.val B))) true) λn6=>
 bind1 (gd n6 (unS .not (gdV n0 c))) λe0=>
 iF k λg7=>
 bind1 (gd g7 (pickS (gdV U (gdV R (.val B))) e0 (bv false))) λM=>
 iF k λO=>
 bindB (Slot.isB (gdV O M) true) λg8=>
 bindB (Slot.isB (gdV O M) true) λg9=>
 bind1 (gd g9 (unS .not (gdV g8 d))) λe1=>
 iF k λh0=>
 bind1 (gd h0 (pickS (gdV O M) e1 (bv false))) λe2=>
 pk k (bv true) e2 λe3=>
 condS e3 (
 some (.ret (iv 29),s)) (
 nt c λo=>
 iT o λh1=>
 iT o λh2=>
 gG h2 h1 Qf 5 a λe4=>
 iT o λh3=>
 gL h3 Qf e4 λe5=>
 iT o λh4=>
 gB h4 Q1 .gtr e5 (iv 0) λe6=>
 pk o e6 (bv false) λp=>
 iF p λh5=>
 iF p λh7=>
 bind1 (gd h7 (unS .not (gdV h5 d))) λq=>
 iF p λu=>
 bindB (Slot.isB (gdV u q) true) λh8=>
 bindB (Slot.isB (gdV u q) true) λh9=>
 gG h9 h8 QE 6 a λe7=>
 bindB (Slot.isB (gdV u q) true) λi0=>
 gL i0 QE e7 λe8=>
 bindB (Slot.isB (gdV u q) true) λi1=>
 gB i1 Q1 .gtr e8 (iv 0) λe9=>
 iF p λi2=>
 bind1 (gd i2 (pickS (gdV u q) e9 (bv false))) λf0=>
 pk p (bv true) f0 λr=>
 iF r λi3=>
 iF r λi4=>
 bind1 (gd i4 (unS .not (gdV i3 b))) λl=>
 iF r λm=>
 bindB (Slot.isB (gdV m l) true) λi6=>
 bindB (Slot.isB (gdV m l) true) λi7=>
 gG i7 i6 Q0 2 a λf1=>
 bindB (Slot.isB (gdV m l) true) λi8=>
 gB i8 Q0 .neq f1 (sv []) λG=>
 bindB (Slot.isB (gdV m l) true) λH=>
 bindB (Slot.isB (gdV H G) false) λi9=>
 bindB (Slot.isB (gdV H G) false) λj0=>
 gG j0 i9 Q1 3 a λf2=>
 bindB (Slot.isB (gdV H G) false) λj1=>
 gB j1 Q1 .neq f2 (iv 0) λf3=>
 bindB (Slot.isB (gdV m l) true) λj2=>
 bind1 (gd j2 (pickS (gdV H G) (bv true) f3)) λf4=>
 iF r λj3=>
 bind1 (gd j3 (pickS (gdV m l) f4 (bv false))) λf5=>
 pk r (bv true) f5 λg=>
 iF g λj4=>
 iF g λj6=>
 bind1 (gd j6 (unS .not (gdV j4 b))) λN=>
 iF g λP=>
 bindB (Slot.isB (gdV P N) true) λj7=>
 bindB (Slot.isB (gdV P N) true) λj8=>
 bind1 (gd j8 (unS .not (gdV j7 e))) λf6=>
 iF g λj9=>
 bind1 (gd j9 (pickS (gdV P N) f6 (bv false))) λt=>
 iF g λv=>
 bindB (Slot.isB (gdV v t) true) λk0=>
 bindB (Slot.isB (gdV v t) true) λk1=>
 gG k1 k0 QC 4 a λf7=>
 bindB (Slot.isB (gdV v t) true) λk2=>
 gL k2 QC f7 λf8=>
 bindB (Slot.isB (gdV v t) true) λk3=>
 gB k3 Q1 .gtr f8 (iv 0) λf9=>
 iF g λk5=>
 bind1 (gd k5 (pickS (gdV v t) f9 (bv false))) λg0=>
 pk g (bv true) g0 λg1=>
 condS g1 (
 some (.ret (iv 29),s)) (
 iT b λk6=>
 iT b λk7=>
 gG k7 k6 Q0 2 a λg2=>
 iT b λk8=>
 cg k8 Q1L [g2] s λg3 W=>
 iT b λk9=>
 gN k9 g3 λg4=>
 pk b g4 (bv false) λg5=>
 condS g5 (
 some (.ret (iv 8),W)) (
 iT c λl0=>
 iT c λl1=>
 gG l1 l0 Qf 5 a λa4=>
 iT c λl2=>
 gL l2 Qf a4 λa5=>
 iT c λl3=>
 gB l3 Q1 .neq a5 (iv 1) λa6=>
 pk c a6 (bv false) λD=>
 iF D λx=>
 iF D λy=>
 bindB (Slot.isB (gdV y (gdV x d)) true) λl4=>
 bindB (Slot.isB (gdV y (gdV x d)) true) λl5=>
 gG l5 l4 QE 6 a λa7=>
 bindB (Slot.isB (gdV y (gdV x d)) true) λl6=>
 gL l6 QE a7 λa8=>
 bindB (Slot.isB (gdV y (gdV x d)) true) λl7=>
 gB l7 Q1 .lss a8 (iv 1) λa9=>
 iF D λl8=>
 bind1 (gd l8 (pickS (gdV y (gdV x d)) a9 (bv false))) λb0=>
 pk D (bv true) b0 λE=>
 iF E λh=>
 iF E λi=>
 bindB (Slot.isB (gdV i (gdV h b)) true) λl9=>
 bindB (Slot.isB (gdV i (gdV h b)) true) λm0=>
 gG m0 l9 Q1 3 a λb1=>
 bindB (Slot.isB (gdV i (gdV h b)) true) λm1=>
 cg m1 Q1t [b1,(iv 0),(iv 8)] W λb2 a2=>
 bindB (Slot.isB (gdV i (gdV h b)) true) λm2=>
 gN m2 b2 λj=>
 bindB (Slot.isB (gdV i (gdV h b)) true) λn=>
 bindB (Slot.isB (gdV n j) false) λm3=>
 bindB (Slot.isB (gdV n j) false) λm4=>
 gG m4 m3 QC 4 a λb3=>
 bindB (Slot.isB (gdV n j) false) λm5=>
 gL m5 QC b3 λb4=>
 bindB (Slot.isB (gdV n j) false) λm6=>
 cg m6 Q1t [b4,(iv 1),(iv 64)] a2 λb5 Y=>
 bindB (Slot.isB (gdV n j) false) λm7=>
 gN m7 b5 λb6=>
 bindB (Slot.isB (gdV i (gdV h b)) true) λm8=>
 bind1 (gd m8 (pickS (gdV n j) (bv true) b6)) λb7=>
 iF E λm9=>
 bind1 (gd m9 (pickS (gdV i (gdV h b)) b7 (bv false))) λb8=>
 pk E (bv true) b8 λF=>
 iF F λz=>
 iF F λA=>
 bindB (Slot.isB (gdV A (gdV z e)) true) λn1=>
 bindB (Slot.isB (gdV A (gdV z e)) true) λn2=>
 gG n2 n1 QC 4 a λd0=>
 bindB (Slot.isB (gdV A (gdV z e)) true) λn3=>
 gL n3 QC d0 λd1=>
 bindB (Slot.isB (gdV A (gdV z e)) true) λn4=>
 gB n4 Q1 .neq d1 (iv 1) λd2=>
 iF F λn5=>
 bind1 (gd n5 (pickS (gdV A (gdV z e)) d2 (bv false))) λd3=>
 pk F (bv true) d3 λd4=>
 condS d4 (
 some (.ret (iv 19),Y)) (
 some (.ret (iv 0),Y))))):=(Q3 _ _ _).trans (by kernel_rfl)
theorem QiA(U:AV)(s:St):cw (.f Q8Y) [U] s =
 bindL (boxCells (C.ti Q6) (.val U)) λb=>
 bind1 (ofSlots (C.ti Q2) (List.take (C.ti Q2).size (List.drop 0 b))) λa=>
 bind1 (binS (C.ti Q2) .lss a (.val (.int .i64 1))) λJ=>
 bindB (Slot.isB J false) λw=>
 bindB (Slot.isB J false) λh0=>
 bind1 (gd h0 (binS (C.ti Q2) .gtr (gdV w a) (.val (.int .i64 20)))) λd6=>
 bind1 (pickS J (.val (.bool true)) d6) λe1=>
 condS e1 (
 some (.ret (.val (.int .i64 29)),s)) (
 back (cal cw true (tgtV (.val (.fn Q1Z [])) [a]) s) λL V=>
 bind1 (extractS L 0) λe2=>
 bind1 (extractS L 1) λe3=>
 bind1 (extractS L 2) λc=>
 bind1 (binS (C.ti Q2) .eql a (.val (.int .i64 5))) λM=>
 bindB (Slot.isB M false) λh9=>
 bindB (Slot.isB M false) λi9=>
 bind1 (gd i9 (binS (C.ti Q2) .eql (gdV h9 a) (.val (.int .i64 9)))) λe4=>
 bind1 (pickS M (.val (.bool true)) e4) λN=>
 bindB (Slot.isB N false) λj9=>
 bindB (Slot.isB N false) λk9=>
 bind1 (gd k9 (binS (C.ti Q2) .eql (gdV j9 a) (.val (.int .i64 11)))) λe5=>
 bind1 (pickS N (.val (.bool true)) e5) λe=>
 bind1 (binS (C.ti Q2) .eql a (.val (.int .i64 2))) λO=>
 bindB (Slot.isB O false) λl9=>
 bindB (Slot.isB O false) λm9=>
 bind1 (gd m9 (binS (C.ti Q2) .eql (gdV l9 a) (.val (.int .i64 3)))) λe6=>
 bind1 (pickS O (.val (.bool true)) e6) λe7=>
 bind1 (unS .not e7) λG=>
 bindB (Slot.isB G true) λn8=>
 bindB (Slot.isB G true) λo8=>
 bind1 (gd o8 (bif n8 then (ofSlots (C.ti Q0) (List.take (C.ti Q0).size (List.drop 2 b))) else none)) λe8=>
 bindB (Slot.isB G true) λh1=>
 bind1 (gd h1 (binS (C.ti Q0) .neq e8 (.val (.str [])))) λe9=>
 bind1 (pickS G e9 (.val (.bool false))) λd=>
 bindB (Slot.isB d false) λh2=>
 bindB (Slot.isB d false) λh3=>
 bind1 (gd h3 (binS (C.ti Q2) .neq (gdV h2 a) (.val (.int .i64 1)))) λP=>
 bindB (Slot.isB d false) λR=>
 bindB (Slot.isB (gdV R P) true) λh4=>
 bindB (Slot.isB (gdV R P) true) λh5=>
 bind1 (gd h5 (binS (C.ti Q2) .neq (gdV h4 a) (.val (.int .i64 13)))) λf0=>
 bindB (Slot.isB d false) λh6=>
 bind1 (gd h6 (pickS (gdV R P) f0 (.val (.bool false)))) λH=>
 bindB (Slot.isB d false) λI=>
 bindB (Slot.isB (gdV I H) true) λh7=>
 bindB (Slot.isB (gdV I H) true) λh8=>
 bind1 (gd h8 (bif h7 then (ofSlots (C.ti Q1) (List.take (C.ti Q1).size (List.drop 3 b))) else none)) λf1=>
 bindB (Slot.isB (gdV I H) true) λi0=>
 bind1 (gd i0 (binS (C.ti Q1) .neq f1 (.val (.int .i64 0)))) λf2=>
 bindB (Slot.isB d false) λi1=>
 bind1 (gd i1 (pickS (gdV I H) f2 (.val (.bool false)))) λf3=>
 bind1 (pickS d (.val (.bool true)) f3) λl=>
 bindB (Slot.isB l false) λi2=>
 bindB (Slot.isB l false) λi3=>
 bind1 (gd i3 (unS .not (gdV i2 c))) λm=>
 bindB (Slot.isB l false) λv=>
 bindB (Slot.isB (gdV v m) true) λi4=>
 bindB (Slot.isB (gdV v m) true) λi5=>
 bind1 (gd i5 (bif i4 then (ofSlots (C.ti Q8) (List.take (C.ti Q8).size (List.drop 4 b))) else none)) λf4=>
 bindB (Slot.isB (gdV v m) true) λi6=>
 bind1 (gd i6 (lenS (C.ti Q8) f4)) λf5=>
 bindB (Slot.isB (gdV v m) true) λi7=>
 bind1 (gd i7 (binS (C.ti Q1) .gtr f5 (.val (.int .i64 0)))) λf6=>
 bindB (Slot.isB l false) λi8=>
 bind1 (gd i8 (pickS (gdV v m) f6 (.val (.bool false)))) λf7=>
 bind1 (pickS l (.val (.bool true)) f7) λn=>
 bindB (Slot.isB n false) λj0=>
 bindB (Slot.isB n false) λj1=>
 bind1 (gd j1 (unS .not (gdV j0 e))) λo=>
 bindB (Slot.isB n false) λx=>
 bindB (Slot.isB (gdV x o) true) λj2=>
 bindB (Slot.isB (gdV x o) true) λj3=>
 bind1 (gd j3 (bif j2 then (ofSlots (C.ti Qf) (List.take (C.ti Qf).size (List.drop 5 b))) else none)) λf8=>
 bindB (Slot.isB (gdV x o) true) λj4=>
 bind1 (gd j4 (lenS (C.ti Qf) f8)) λf9=>
 bindB (Slot.isB (gdV x o) true) λj5=>
 bind1 (gd j5 (binS (C.ti Q1) .gtr f9 (.val (.int .i64 0)))) λg0=>
 bindB (Slot.isB n false) λj6=>
 bind1 (gd j6 (pickS (gdV x o) g0 (.val (.bool false)))) λg1=>
 bind1 (pickS n (.val (.bool true)) g1) λp=>
 bindB (Slot.isB p false) λj7=>
 bindB (Slot.isB p false) λj8=>
 bind1 (gd j8 (binS (C.ti Q2) .neq (gdV j7 a) (.val (.int .i64 7)))) λq=>
 bindB (Slot.isB p false) λy=>
 bindB (Slot.isB (gdV y q) true) λk0=>
 bindB (Slot.isB (gdV y q) true) λk1=>
 bind1 (gd k1 (bif k0 then (ofSlots (C.ti QG) (List.take (C.ti QG).size (List.drop 6 b))) else none)) λg2=>
 bindB (Slot.isB (gdV y q) true) λk2=>
 bind1 (gd k2 (lenS (C.ti QG) g2)) λg3=>
 bindB (Slot.isB (gdV y q) true) λk3=>
 bind1 (gd k3 (binS (C.ti Q1) .gtr g3 (.val (.int .i64 0)))) λg4=>
 bindB (Slot.isB p false) λk4=>
 bind1 (gd k4 (pickS (gdV y q) g4 (.val (.bool false)))) λg5=>
 bind1 (pickS p (.val (.bool true)) g5) λg6=>
 condS g6 (
 some (.ret (.val (.int .i64 29)),V)) (
 bind1 (binS (C.ti Q2) .eql a (.val (.int .i64 2))) λr=>
 bindB (Slot.isB r true) λk5=>
 bindB (Slot.isB r true) λk6=>
 bind1 (gd k6 (bif k5 then (ofSlots (C.ti Q0) (List.take (C.ti Q0).size (List.drop 2 b))) else none)) λg7=>
 bindB (Slot.isB r true) λk7=>
 back (cal cw k7 (tgtV (.val (.fn Q1L [])) [g7]) V) λg8 a2=>
 bindB (Slot.isB r true) λk8=>
 bind1 (gd k8 (unS .not g8)) λg9=>
 bind1 (pickS r g9 (.val (.bool false))) λt=>
 bindB (Slot.isB t false) λl0=>
 bindB (Slot.isB t false) λl1=>
 bind1 (gd l1 (binS (C.ti Q2) .eql (gdV l0 a) (.val (.int .i64 3)))) λu=>
 bindB (Slot.isB t false) λz=>
 bindB (Slot.isB (gdV z u) true) λl2=>
 bindB (Slot.isB (gdV z u) true) λl3=>
 bind1 (gd l3 (bif l2 then (ofSlots (C.ti Q0) (List.take (C.ti Q0).size (List.drop 2 b))) else none)) λa4=>
 bindB (Slot.isB (gdV z u) true) λl4=>
 back (cal cw l4 (tgtV (.val (.fn Q6y [])) [a4]) a2) λa5 W=>
 bindB (Slot.isB (gdV z u) true) λl5=>
 bind1 (gd l5 (unS .not a5)) λa6=>
 bindB (Slot.isB t false) λl6=>
 bind1 (gd l6 (pickS (gdV z u) a6 (.val (.bool false)))) λa7=>
 bind1 (pickS t (.val (.bool true)) a7) λa8=>
 condS a8 (
 some (.ret (.val (.int .i64 8)),W)) (
 bind1 (binS (C.ti Q2) .eql a (.val (.int .i64 1))) λg=>
 bindB (Slot.isB g true) λl7=>
 bindB (Slot.isB g true) λl8=>
 bind1 (gd l8 (bif l7 then (ofSlots (C.ti Q1) (List.take (C.ti Q1).size (List.drop 3 b))) else none)) λa9=>
 bindB (Slot.isB g true) λm0=>
 back (cal cw m0 (tgtV (.val (.fn Q4w [])) [a9]) W) λb0 a3=>
 bindB (Slot.isB g true) λm1=>
 bind1 (gd m1 (unS .not b0)) λb1=>
 bind1 (pickS g b1 (.val (.bool false))) λh=>
 bindB (Slot.isB h false) λm2=>
 bindB (Slot.isB h false) λm3=>
 bind1 (gd m3 (binS (C.ti Q2) .eql (gdV m2 a) (.val (.int .i64 13)))) λi=>
 bindB (Slot.isB h false) λA=>
 bindB (Slot.isB (gdV A i) true) λm4=>
 bindB (Slot.isB (gdV A i) true) λm5=>
 bind1 (gd m5 (bif m4 then (ofSlots (C.ti Q1) (List.take (C.ti Q1).size (List.drop 3 b))) else none)) λb2=>
 bindB (Slot.isB (gdV A i) true) λm6=>
 back (cal cw m6 (tgtV (.val (.fn Q1t [])) [b2,(.val (.int .i64 1)),(.val (.int .i64 9))]) a3) λb3 Y=>
 bindB (Slot.isB (gdV A i) true) λm7=>
 bind1 (gd m7 (unS .not b3)) λb4=>
 bindB (Slot.isB h false) λm8=>
 bind1 (gd m8 (pickS (gdV A i) b4 (.val (.bool false)))) λb5=>
 bind1 (pickS h (.val (.bool true)) b5) λb6=>
 condS b6 (
 some (.ret (.val (.int .i64 2)),Y)) (
 bindB (Slot.isB c true) λn0=>
 bindB (Slot.isB c true) λn1=>
 bind1 (gd n1 (bif n0 then (ofSlots (C.ti Q8) (List.take (C.ti Q8).size (List.drop 4 b))) else none)) λb7=>
 bindB (Slot.isB c true) λn2=>
 bind1 (gd n2 (lenS (C.ti Q8) b7)) λb8=>
 bindB (Slot.isB c true) λn3=>
 bindB (Slot.isB c true) λn4=>
 bindB (Slot.isB c true) λn5=>
 back (cal cw n5 (tgtV (.val (.fn Q1t [])) [b8,(gdV n3 e2),(gdV n4 e3)]) Y) λb9 a1=>
 bindB (Slot.isB c true) λn6=>
 bind1 (gd n6 (unS .not b9)) λd0=>
 bind1 (pickS c d0 (.val (.bool false))) λF=>
 bindB (Slot.isB F false) λB=>
 bindB (Slot.isB F false) λD=>
 bindB (Slot.isB (gdV D (gdV B e)) true) λn7=>
 bindB (Slot.isB (gdV D (gdV B e)) true) λn9=>
 bind1 (gd n9 (bif n7 then (ofSlots (C.ti Qf) (List.take (C.ti Qf).size (List.drop 5 b))) else none)) λd1=>
 bindB (Slot.isB (gdV D (gdV B e)) true) λo0=>
 bind1 (gd o0 (lenS (C.ti Qf) d1)) λd2=>
 bindB (Slot.isB (gdV D (gdV B e)) true) λo1=>
 bind1 (gd o1 (binS (C.ti Q1) .lss d2 (.val (.int .i64 1)))) λd3=>
 bindB (Slot.isB F false) λo2=>
 bind1 (gd o2 (pickS (gdV D (gdV B e)) d3 (.val (.bool false)))) λd4=>
 bind1 (pickS F (.val (.bool true)) d4) λj=>
 bindB (Slot.isB j false) λo3=>
 bindB (Slot.isB j false) λo4=>
 bind1 (gd o4 (binS (C.ti Q2) .eql (gdV o3 a) (.val (.int .i64 7)))) λk=>
 bindB (Slot.isB j false) λE=>
 bindB (Slot.isB (gdV E k) true) λo5=>
 bindB (Slot.isB (gdV E k) true) λo6=>
 bind1 (gd o6 (bif o5 then (ofSlots (C.ti QG) (List.take (C.ti QG).size (List.drop 6 b))) else none)) λd5=>
 bindB (Slot.isB (gdV E k) true) λo7=>
 bind1 (gd o7 (lenS (C.ti QG) d5)) λd7=>
 bindB (Slot.isB (gdV E k) true) λo9=>
 bind1 (gd o9 (binS (C.ti Q1) .lss d7 (.val (.int .i64 1)))) λd8=>
 bindB (Slot.isB j false) λp0=>
 bind1 (gd p0 (pickS (gdV E k) d8 (.val (.bool false)))) λd9=>
 bind1 (pickS j (.val (.bool true)) d9) λe0=>
 condS e0 (
 some (.ret (.val (.int .i64 19)),a1)) (
 some (.ret (.val (.int .i64 0)),a1)))))):=(Q3 _ _ _).trans (by kernel_rfl)
theorem QiC(H:AV)(s:St):cw (.f Q8Z) [H] s =
 bx Ql (.val H) λb=>
 gC Qi 0 b λa=>
 bn Qi .lss a (iv 1) λE=>
 iF E λw=>
 iF E λe6=>
 gB e6 Qi .gtr (gdV w a) (iv 6) λa3=>
 pk E (bv true) a3 λa4=>
 condS a4 (
 some (.ret (iv 29),s)) (
 bn Qi .eql a (iv 2) λz=>
 iF z λf6=>
 iF z λg6=>
 gB g6 Qi .eql (gdV f6 a) (iv 4) λa5=>
 pk z (bv true) a5 λA=>
 iF A λh4=>
 iF A λi5=>
 gB i5 Qi .eql (gdV h4 a) (iv 6) λa6=>
 pk A (bv true) a6 λu=>
 bn Qi .eql a (iv 4) λB=>
 iF B λj5=>
 iF B λk3=>
 gB k3 Qi .eql (gdV j5 a) (iv 5) λa7=>
 pk B (bv true) a7 λD=>
 iF D λk4=>
 iF D λk5=>
 gB k5 Qi .eql (gdV k4 a) (iv 6) λa8=>
 pk D (bv true) a8 λa9=>
 nt u λv=>
 iT v λe7=>
 iT v λe8=>
 gG e8 e7 Q0 2 b λb0=>
 iT v λe9=>
 gB e9 Q0 .neq b0 (sv []) λb1=>
 pk v b1 (bv false) λi=>
 iF i λf0=>
 iF i λf1=>
 gB f1 Qi .neq (gdV f0 a) (iv 3) λx=>
 iF i λy=>
 bindB (Slot.isB (gdV y x) true) λf2=>
 bindB (Slot.isB (gdV y x) true) λf3=>
 gG f3 f2 Q1 3 b λb2=>
 bindB (Slot.isB (gdV y x) true) λf4=>
 gB f4 Q1 .neq b2 (iv 0) λb3=>
 iF i λf5=>
 bind1 (gd f5 (pickS (gdV y x) b3 (bv false))) λb4=>
 pk i (bv true) b4 λj=>
 iF j λf7=>
 iF j λf8=>
 bind1 (gd f8 (unS .not (gdV f7 a9))) λk=>
 iF j λq=>
 bindB (Slot.isB (gdV q k) true) λf9=>
 bindB (Slot.isB (gdV q k) true) λg0=>
 gG g0 f9 Qv 4 b λb5=>
 bindB (Slot.isB (gdV q k) true) λg1=>
 gL g1 Qv b5 λb6=>
 bindB (Slot.isB (gdV q k) true) λg2=>
 gB g2 Q1 .gtr b6 (iv 0) λb7=>
 iF j λg3=>
 bind1 (gd g3 (pickS (gdV q k) b7 (bv false))) λb8=>
 pk j (bv true) b8 λb9=>
 condS b9 (
 some (.ret (iv 29),s)) (
 bn Qi .eql a (iv 4) λl=>
 iT l λg4=>
 iT l λg5=>
 gG g5 g4 Q0 2 b λd0=>
 iT l λg7=>
 cg g7 Q6y [d0] s λd1 M=>
 iT l λg8=>
 gN g8 d1 λd2=>
 pk l d2 (bv false) λc=>
 iF c λF=>
 iF c λG=>
 bindB (Slot.isB (gdV G (gdV F u)) true) λg9=>
 bindB (Slot.isB (gdV G (gdV F u)) true) λh0=>
 gB h0 Qi .neq (gdV g9 a) (iv 4) λd3=>
 iF c λh1=>
 bind1 (gd h1 (pickS (gdV G (gdV F u)) d3 (bv false))) λm=>
 iF c λr=>
 bindB (Slot.isB (gdV r m) true) λh2=>
 bindB (Slot.isB (gdV r m) true) λh3=>
 gG h3 h2 Q0 2 b λd4=>
 bindB (Slot.isB (gdV r m) true) λh5=>
 cg h5 Q1L [d4] M λd5 I=>
 bindB (Slot.isB (gdV r m) true) λh6=>
 gN h6 d5 λd6=>
 iF c λh7=>
 bind1 (gd h7 (pickS (gdV r m) d6 (bv false))) λd7=>
 pk c (bv true) d7 λd8=>
 condS d8 (
 some (.ret (iv 8),I)) (
 bn Qi .eql a (iv 3) λn=>
 iT n λh8=>
 iT n λh9=>
 gG h9 h8 Q1 3 b λd9=>
 iT n λi0=>
 cg i0 Q4w [d9] I λe0 J=>
 iT n λi1=>
 gN i1 e0 λe1=>
 pk n e1 (bv false) λe2=>
 condS e2 (
 some (.ret (iv 2),J)) (
 bn Qi .eql a (iv 4) λo=>
 iT o λi2=>
 iT o λi3=>
 gG i3 i2 Qv 4 b λe3=>
 iT o λi4=>
 gL i4 Qv e3 λe4=>
 iT o λi6=>
 gB i6 Q1 .gtr e4 (iv 1) λe5=>
 pk o e5 (bv false) λp=>
 iF p λi7=>
 iF p λi8=>
 gB i8 Qi .eql (gdV i7 a) (iv 5) λd=>
 iF p λe=>
 bindB (Slot.isB (gdV e d) true) λi9=>
 bindB (Slot.isB (gdV e d) true) λj0=>
 gG j0 i9 Qv 4 b λN=>
 bindB (Slot.isB (gdV e d) true) λj1=>
 gL j1 Qv N λO=>
 bindB (Slot.isB (gdV e d) true) λj2=>
 cg j2 Q1t [O,(iv 2),(iv 8)] J λP L=>
 bindB (Slot.isB (gdV e d) true) λj3=>
 gN j3 P λR=>
 iF p λj4=>
 bind1 (gd j4 (pickS (gdV e d) R (bv false))) λU=>
 pk p (bv true) U λg=>
 iF g λj6=>
 iF g λj7=>
 gB j7 Qi .eql (gdV j6 a) (iv 6) λh=>
 iF g λt=>
 bindB (Slot.isB (gdV t h) true) λj8=>
 bindB (Slot.isB (gdV t h) true) λj9=>
 gG j9 j8 Qv 4 b λV=>
 bindB (Slot.isB (gdV t h) true) λk0=>
 gL k0 Qv V λW=>
 bindB (Slot.isB (gdV t h) true) λk1=>
 gB k1 Q1 .neq W (iv 1) λY=>
 iF g λk2=>
 bind1 (gd k2 (pickS (gdV t h) Y (bv false))) λa1=>
 pk g (bv true) a1 λa2=>
 condS a2 (
 some (.ret (iv 19),L)) (
 some (.ret (iv 0),L)))))):=(Q3 _ _ _).trans (by kernel_rfl)
theorem QjI(h:AV)(s:St):cw (.f Q9D) [h] s =
 bx Qo (.val h) λa=>
 gC Qt 0 a λR=>
 bn Qt .eql R (iv 1) λU=>
 condS U (
 gC Q0 2 a λV=>
 bn Q0 .neq V (sv []) λb=>
 iF b λw=>
 iF b λW=>
 gG W w Qn 3 a λm=>
 iF b λa7=>
 gL a7 Qn m λn=>
 iF b λa8=>
 gB a8 Q1 .gtr n (iv 0) λo=>
 pk b (bv true) o λp=>
 condS p (
 some (.ret (iv 29),s)) (
 gC Q1 1 a λq=>
 bn Q1 .lss q (iv 0) λr=>
 condS r (
 some (.ret (iv 2),s)) (
 some (.ret (iv 0),s)))) (
 gC Qt 0 a λt=>
 bn Qt .neq t (iv 2) λd=>
 iF d λa9=>
 iF d λb0=>
 gG b0 a9 Q1 1 a λu=>
 iF d λb1=>
 gB b1 Q1 .neq u (iv 0) λv=>
 pk d (bv true) v λx=>
 condS x (
 some (.ret (iv 29),s)) (
 gC Q0 2 a λy=>
 bn Q0 .neq y (sv [114,101,102]) λe=>
 iT e λb2=>
 iT e λb3=>
 gG b3 b2 Q0 2 a λz=>
 iT e λb4=>
 gB b4 Q0 .neq z (sv [45,62]) λA=>
 pk e A (bv false) λg=>
 iT g λY=>
 iT g λa1=>
 gG a1 Y Q0 2 a λB=>
 iT g λa2=>
 gB a2 Q0 .neq B (sv [42]) λD=>
 pk g D (bv false) λc=>
 iT c λa3=>
 iT c λa4=>
 gG a4 a3 Q0 2 a λE=>
 iT c λa5=>
 cg a5 Q1L [E] s λF i=>
 iT c λa6=>
 gN a6 F λG=>
 pk c G (bv false) λH=>
 condS H (
 some (.ret (iv 8),i)) (
 gC Q0 2 a λI=>
 ca Q5g [I] i λk l=>
 ex k 0 λJ=>
 ex k 1 λL=>
 gC Qn 3 a λM=>
 ln Qn M λN=>
 ca Q1t [N,J,L] l λO j=>
 nt O λP=>
 condS P (
 some (.ret (iv 19),j)) (
 some (.ret (iv 0),j))))):=(Q3 _ _ _).trans (by kernel_rfl)
theorem Qiy(a:AV)(s:St):cw (.f Q1L) [a] s =
 ca Q20 [(.val a),(bv false)] s λd g=>
 iT d λw=>
 iT d λq=>
 gB q Q0 .neq (gdV w (.val a)) (sv [95]) λp=>
 pk d p (bv false) λe=>
 iT e λr=>
 iT e λt=>
 gB t Q0 .neq (gdV r (.val a)) (sv [116,114,117,101]) λj=>
 pk e j (bv false) λc=>
 iT c λu=>
 iT c λv=>
 gB v Q0 .neq (gdV u (.val a)) (sv [102,97,108,115,101]) λk=>
 pk c k (bv false) λb=>
 iT b λx=>
 iT b λy=>
 cg y Q7b [] g λl h=>
 iT b λz=>
 cg z Q4u [(gdV x (.val a)),l] h λm i=>
 iT b λA=>
 gN A m λn=>
 pk b n (bv false) λo=>
 some (.ret o,i):=(Q3 _ _ _).trans (by kernel_rfl)
theorem QdW(e:AV)(s:St):cw (.f Q6d) [e] s =
 bx Qo (.val e) λb=>
 gC Qt 0 b λm=>
 bn Qt .eql m (iv 0) λd=>
 iT d λw=>
 iT d λp=>
 gG p w Q1 1 b λn=>
 iT d λq=>
 gB q Q1 .eql n (iv 0) λo=>
 pk d o (bv false) λc=>
 iT c λr=>
 iT c λt=>
 gG t r Q0 2 b λg=>
 iT c λu=>
 gB u Q0 .eql g (sv []) λh=>
 pk c h (bv false) λa=>
 iT a λv=>
 iT a λx=>
 gG x v Qn 3 b λi=>
 iT a λy=>
 gL y Qn i λj=>
 iT a λz=>
 gB z Q1 .eql j (iv 0) λk=>
 pk a k (bv false) λl=>
 some (.ret l,s):=(Q3 _ _ _).trans (by kernel_rfl)
theorem QcS(a:AV)(s:St):cw (.f Q3e) [a] s =
 ca Q20 [(.val a),(bv true)] s λc b=>
 some (.ret c,b):=(Q3 _ _ _).trans (by kernel_rfl)
noncomputable def Q2S:Slot->List Slot->Slot->Slot->St->Res:=λa b c d s=>lpD Q1Y [.seqR,.seqR,.seqL,.seqR,.block] Tryz.f150 [(1,.s a),(2,.var b),(5,.s c),(6,.s d)] s
theorem Q8i:∀ d b e c a,Q2S d b e c a =
 gC Qn 3 b λh=>
 ln Qn h λi=>
 bn Q1 .lss c i λj=>
 condS j (
 gC Qn 3 b λl=>
 ix Qo l c λm=>
 ld Qo a m λn=>
 ca Q1Y [n,d] a λo f=>
 ap Qh f e o λp g=>
 nx c λk=>
 Q2S d b p k g) (
 some (.ret e,a)):=by intros;unfold Q2S;exact (Qd _ _ _ _ _ _).trans (by kernel_rfl)
theorem QgP(b:AV)(a:AV)(s:St):cw (.f Q1Y) [b,a] s =
 bx Qo (.val b) λc=>
 gA Qo c λe=>
 bd Qh [(0,Q1,(iv 4)),(22,Qo,e),(2,Q1,(.val a))] λg=>
 bs Qh [g] λd=>
 Q2S (.val a) c d (iv 0) s:=(Q3 _ _ _).trans (by kernel_rfl)
theorem Q4a(c:AV)(b:AV)(s:St):cw (.f ZN) [c,b] s =
 ln Q0 (.val c) λi=>
 ln Q0 (.val b) λj=>
 bn Q1 .geq i j λa=>
 iT a λw=>
 iT a λk=>
 iT a λl=>
 gL l Q0 (gdV k (.val b)) λd=>
 iT a λm=>
 bind1 (gd m (sliceS (C.ti Q0) 0 (gdV w (.val c)) none (some d) none)) λe=>
 iT a λn=>
 iT a λo=>
 gB o Q0 .eql e (gdV n (.val b)) λg=>
 pk a g (bv false) λh=>
 some (.ret h,s):=(Q3 _ _ _).trans (by kernel_rfl)
noncomputable def Q3s:Slot->Slot->Slot->St->Res:=λa b c s=>lpD Q1K [.seqR,.seqR,.seqL,.block] Tryz.f153 [(1,.s a),(2,.s b),(6,.s c)] s
theorem Q8E:∀ f b c d,Q3s f b c d =
 ld Q0 d b λo=>
 ln Q0 o λg=>
 bn Q1 .lss c g λa=>
 iT a λw=>
 iT a λp=>
 bind1 (gd p (ldV (C.ti Q0) false d b)) λh=>
 iT a λq=>
 iT a λr=>
 bind1 (gd r (indexS (C.ti Q0) (C.ti T_0) h (gdV q c))) λi=>
 iT a λt=>
 back (cal cw t (tgtV (gdV w f) [i]) d) λj e=>
 pk a j (bv false) λk=>
 condS k (
 nx c λl=>
 Q3s f b l e) (
 ld Q0 e b λm=>
 bind1 (sliceS (C.ti Q0) 0 m none (some c) none) λn=>
 some (.ret n,e)):=by intros;unfold Q3s;exact (Qd _ _ _ _ _ _).trans (by kernel_rfl)
theorem Qi8(a:AV)(b:AV)(c:AV)(s:St):cw (.f Q1K) [a,b,c] s =
 Q3s (.val b) (.val c) (.val a) s:=(Q3 _ _ _).trans (by kernel_rfl)
theorem Qi5(a:AV)(s:St):cw (.f Q1J) [a] s =
 bn Qb .geq (.val a) (.val (.int .u8 48)) λb=>
 iT b λw=>
 iT b λe=>
 gB e Qb .leq (gdV w (.val a)) (.val (.int .u8 57)) λc=>
 pk b c (bv false) λd=>
 some (.ret d,s):=(Q3 _ _ _).trans (by kernel_rfl)
noncomputable def Q2M:Slot->Slot->Slot->Slot->Slot->St->Res:=λa b e c d s=>lpD Q59 [.seqR,.seqR,.seqR,.seqL,.seqR,.block] Tryz.f155 [(0,.s a),(1,.s b),(6,.s e),(22,.s c),(23,.s d)] s
theorem Q89:∀ e f b g c d,Q2M e f b g c d =
 bn Q1 .lss c g λj=>
 condS j (
 bn Q1 .mul (iv 10) b λk=>
 bind1 (indexS (C.ti Q0) (C.ti T_0) e c) λl=>
 bn Qb .sub l (.val (.int .u8 48)) λm=>
 bind1 (convS (C.ti Qb) (C.ti Q1) m) λn=>
 bn Q1 .add k n λo=>
 nx c λp=>
 Q2M e f o g p d) (
 bn Q1 .lss b (iv 1073741824) λa=>
 iF a λu=>
 iF a λv=>
 gB v Q1 .eql (gdV u b) (iv 1073741824) λh=>
 iF a λi=>
 bindB (Slot.isB (gdV i h) true) λw=>
 iF a λt=>
 bind1 (gd t (pickS (gdV i h) (gdV w f) (bv false))) λq=>
 pk a (bv true) q λr=>
 rt [(some b),(some r)] d):=by intros;unfold Q2M;exact (Qd _ _ _ _ _ _).trans (by kernel_rfl)
theorem QgA(a:AV)(d:AV)(s:St):cw (.f Q59) [a,d] s =
 ln Q0 (.val a) λl=>
 bn Q1 .gtr l (iv 1) λb=>
 iT b λw=>
 iT b λm=>
 bind1 (gd m (indexS (C.ti Q0) (C.ti T_0) (gdV w (.val a)) (iv 0))) λe=>
 iT b λn=>
 gB n Qb .eql e (.val (.int .u8 48)) λg=>
 pk b g (bv false) λc=>
 iF c λo=>
 iF c λp=>
 gL p Q0 (gdV o (.val a)) λh=>
 iF c λq=>
 gB q Q1 .gtr h (iv 10) λi=>
 pk c (bv true) i λj=>
 condS j (
 rt [(some (iv 0)),(some (bv false))] s) (
 ln Q0 (.val a) λk=>
 Q2M (.val a) (.val d) (iv 0) k (iv 0) s):=(Q3 _ _ _).trans (by kernel_rfl)
theorem Qi6(a:AV)(s:St):cw (.f Q44) [a] s =
 bn Qb .geq (.val a) (.val (.int .u8 97)) λe=>
 iT e λw=>
 iT e λm=>
 gB m Qb .leq (gdV w (.val a)) (.val (.int .u8 122)) λl=>
 pk e l (bv false) λb=>
 iF b λn=>
 iF b λo=>
 gB o Qb .geq (gdV n (.val a)) (.val (.int .u8 65)) λc=>
 iF b λg=>
 bindB (Slot.isB (gdV g c) true) λp=>
 bindB (Slot.isB (gdV g c) true) λq=>
 gB q Qb .leq (gdV p (.val a)) (.val (.int .u8 90)) λh=>
 iF b λr=>
 bind1 (gd r (pickS (gdV g c) h (bv false))) λi=>
 pk b (bv true) i λd=>
 iF d λt=>
 iF d λu=>
 gB u Qb .eql (gdV t (.val a)) (.val (.int .u8 95)) λj=>
 pk d (bv true) j λk=>
 some (.ret k,s):=(Q3 _ _ _).trans (by kernel_rfl)
theorem Qi4(a:AV)(s:St):cw (.f Q0L) [a] s =
 ca Q44 [(.val a)] s λb d=>
 iF b λw=>
 iF b λj=>
 cg j Q1J [(gdV w (.val a))] d λi e=>
 pk b (bv true) i λc=>
 iF c λk=>
 iF c λl=>
 gB l Qb .eql (gdV k (.val a)) (.val (.int .u8 39)) λg=>
 pk c (bv true) g λh=>
 some (.ret h,e):=(Q3 _ _ _).trans (by kernel_rfl)
theorem Qi7(a:AV)(s:St):cw (.f Q8V) [a] s =
 bind1 (sliceA 24 (C.ti Q0) (.val (.cp glob2)) none none none) λn=>
 ca Qz [n,(.val a)] s λo e=>
 condS o (
 some (.ret (iv 5),e)) (
 bn Q0 .eql (.val a) (sv [116,114,117,101]) λg=>
 iF g λw=>
 iF g λp=>
 gB p Q0 .eql (gdV w (.val a)) (sv [102,97,108,115,101]) λh=>
 pk g (bv true) h λb=>
 iF b λq=>
 iF b λr=>
 bind1 (gd r (indexS (C.ti Q0) (C.ti T_0) (gdV q (.val a)) (iv 0))) λi=>
 iF b λt=>
 gB t Qb .geq i (.val (.int .u8 65)) λc=>
 iF b λd=>
 bindB (Slot.isB (gdV d c) true) λu=>
 bindB (Slot.isB (gdV d c) true) λv=>
 bind1 (gd v (indexS (C.ti Q0) (C.ti T_0) (gdV u (.val a)) (iv 0))) λj=>
 bindB (Slot.isB (gdV d c) true) λx=>
 gB x Qb .leq j (.val (.int .u8 90)) λk=>
 iF b λy=>
 bind1 (gd y (pickS (gdV d c) k (bv false))) λl=>
 pk b (bv true) l λm=>
 condS m (
 some (.ret (iv 3),e)) (
 some (.ret (iv 2),e))):=(Q3 _ _ _).trans (by kernel_rfl)
noncomputable def Q4c:Slot->Slot->St->Res:=λa b s=>lpD Q7J [.seqR,.seqL,.seqR,.block] Tryz.f159 [(0,.s a),(3,.s b)] s
theorem Q9h:∀ b a c,Q4c b a c =
 bn Q1 .gtr a (iv 0) λj=>
 condS j (
 bind1 (sliceA 19 (C.ti Q0) (.val (.cp glob3)) none none none) λf=>
 bind1 (sliceS (C.ti Q0) 0 b none (some a) none) λg=>
 cn Qz [f,g] c λh d=>
 condS h (
 bind1 (sliceS (C.ti Q0) 0 b none (some a) none) λi=>
 some (.ret i,d)) (
 bn Q1 .sub a (iv 1) λe=>
 Q4c b e d)) (
 some (.ret (sv []),c)):=by intros;unfold Q4c;exact (Qd _ _ _ _ _ _).trans (by kernel_rfl)
theorem QjA(a:AV)(s:St):cw (.f Q7J) [a] s =
 ln Q0 (.val a) λb=>
 bind1 (min2 (iv 2) b) λc=>
 Q4c (.val a) c s:=(Q3 _ _ _).trans (by kernel_rfl)
noncomputable def Q2P:Slot->List Slot->Slot->Slot->St->Res:=λa b c d s=>lpD Q5d [.seqR,.seqR,.seqR,.seqR,.block] Tryz.f160 [(0,.s a),(3,.var b),(4,.s c),(5,.s d)] s
theorem QcM:∀ f d b m h,Q2P f d b m h =
 ca Q5e [f,m] h λj e=>
 ex j 0 λc=>
 ex j 1 λz=>
 nt z λA=>
 condS A (
 bd Qa [(0,QB,(iv 12)),(1,Q1,c)] λB=>
 bx Qa B λr=>
 pt d 0 r λn=>
 rt [(some (.val (.nils))),(ofSlots (C.ti Qa) (List.take (C.ti Qa).size n))] e) (
 ln Q0 f λD=>
 bn Q1 .eql c D λE=>
 condS E (
 bd Qa [] λF=>
 bx Qa F λt=>
 pt d 0 t λo=>
 rt [(some b),(ofSlots (C.ti Qa) (List.take (C.ti Qa).size o))] e) (
 ln Q0W b λG=>
 bn Q1 .eql G (iv 16384) λH=>
 condS H (
 bd Qa [(0,QB,(iv 4)),(1,Q1,c)] λI=>
 bx Qa I λu=>
 pt d 0 u λp=>
 rt [(some (.val (.nils))),(ofSlots (C.ti Qa) (List.take (C.ti Qa).size p))] e) (
 ln Q0W b λJ=>
 bn Q1 .gtr J (iv 0) λa=>
 iT a λw=>
 iT a λa6=>
 iT a λa7=>
 gL a7 Q0W (gdV a6 b) λL=>
 iT a λa8=>
 gB a8 Q1 .sub L (iv 1) λM=>
 iT a λa9=>
 bind1 (gd a9 (ixS (C.ti Q9).size (gdV w b) M)) λN=>
 iT a λb0=>
 bind1 (gd b0 (faV 2 N)) λO=>
 iT a λb1=>
 bind1 (gd b1 (ldV (C.ti Q0) false e O)) λP=>
 iT a λb2=>
 gB b2 Q0 .eql P (sv [126]) λR=>
 pk a R (bv false) λU=>
 ca Q8W [f,c,U] e λk i=>
 ex k 0 λV=>
 ex k 1 λl=>
 bx Q9 V λv=>
 pZ Q9 v λg=>
 bn QB .neq l (iv 0) λW=>
 condS W (
 bd Qa [(0,QB,l),(1,Q1,c)] λY=>
 bx Qa Y λx=>
 pt d 0 x λq=>
 rt [(some (.val (.nils))),(ofSlots (C.ti Qa) (List.take (C.ti Qa).size q))] i) (
 gA Q9 g λa0=>
 bs Q9 [a0] λa1=>
 ap Q9 i b a1 λa2 y=>
 gC Q0 2 g λa3=>
 ln Q0 a3 λa4=>
 bn Q1 .add c a4 λa5=>
 Q2P f d a2 a5 y)))):=by intros;unfold Q2P;exact (Qd _ _ _ _ _ _).trans (by kernel_rfl)
theorem QgJ(a:AV)(s:St):cw (.f Q5d) [a] s =
 ln Q0 (.val a) λd=>
 bn Q1 .gtr d (iv 65536) λe=>
 condS e (
 bd Qa [(0,QB,(iv 4))] λg=>
 bx Qa g λc=>
 pZ Qa c λb=>
 rt [(some (.val (.nils))),(ofSlots (C.ti Qa) (List.take (C.ti Qa).size b))] s) (
 Q2P (.val a) ((List.map .val (C.ti Qa).zero)) (.val (.nils)) (iv 0) s):=(Q3 _ _ _).trans (by kernel_rfl)
noncomputable def ZX:Slot->Slot->List Slot->Slot->Slot->St->Res:=λa c e b d s=>lpD ZD [.seqR,.seqR,.seqL,.seqR,.block] Tryz.f161 [(1,.s a),(2,.s c),(3,.var e),(19,.s b),(20,.s d)] s
theorem Q3U:∀ c e f d b a,ZX c e f d b a =
 bn Q1 .lss b d λh=>
 condS h (
 gA QH f λi=>
 bind1 (nilCheckV c) λj=>
 fa 3 j λk=>
 ld Qn a k λl=>
 ix Qo l b λm=>
 cn ZD [i,m,e] a λn g=>
 nt n λo=>
 condS o (
 some (.ret (bv false),g)) (
 nx b λp=>
 ZX c e f d p g)) (
 some (.ret (bv true),a)):=by intros;unfold ZX;exact (Qd _ _ _ _ _ _).trans (by kernel_rfl)
theorem Qab(d:AV)(a:AV)(b:AV)(s:St):cw (.f ZD) [d,a,b] s =
 bx QH (.val d) λe=>
 gC Qw 0 e λn=>
 bd Z7 [(6,Q6E,(.val a)),(7,Q1,(.val b))] λg=>
 back (cal cw true (tgtV n [g]) s) λh c=>
 nt h λi=>
 condS i (
 some (.ret (bv false),c)) (
 bind1 (nilCheckV (.val a)) λj=>
 fa 3 j λk=>
 ld Qn c k λl=>
 ln Qn l λm=>
 ZX (.val a) (.val b) e m (iv 0) c):=(Q3 _ _ _).trans (by kernel_rfl)
theorem Qhh(a:AV)(s:St):cw (.f Q5v) [a] s =
 bn Qb .geq (.val a) (.val (.int .u8 97)) λb=>
 iT b λw=>
 iT b λh=>
 gB h Qb .leq (gdV w (.val a)) (.val (.int .u8 122)) λg=>
 pk b g (bv false) λc=>
 iF c λi=>
 iF c λj=>
 gB j Qb .eql (gdV i (.val a)) (.val (.int .u8 95)) λd=>
 pk c (bv true) d λe=>
 some (.ret e,s):=(Q3 _ _ _).trans (by kernel_rfl)
noncomputable def Q4m:Slot->Slot->St->Res:=λa b s=>lpD Q5u [.seqR,.seqL,.seqR,.block] Tryz.f163 [(0,.s a),(3,.s b)] s
theorem Q9y:∀ c e f,Q4m c e f =
 ln Q0 c λx=>
 bn Q1 .lss e x λy=>
 condS y (
 bind1 (indexS (C.ti Q0) (C.ti T_0) c e) λa=>
 ca Q5v [a] f λm k=>
 nt m λd=>
 iT d λw=>
 iT d λz=>
 cg z Q5s [(gdV w a)] k λn j=>
 iT d λB=>
 gN B n λo=>
 pk d o (bv false) λb=>
 iT b λD=>
 iT b λE=>
 gB E Qb .lss (gdV D a) (.val (.int .u8 48)) λg=>
 iT b λi=>
 bindB (Slot.isB (gdV i g) false) λF=>
 bindB (Slot.isB (gdV i g) false) λG=>
 gB G Qb .gtr (gdV F a) (.val (.int .u8 57)) λp=>
 iT b λH=>
 bind1 (gd H (pickS (gdV i g) (bv true) p)) λq=>
 pk b q (bv false) λh=>
 iT h λI=>
 iT h λA=>
 gB A Qb .neq (gdV I a) (.val (.int .u8 39)) λr=>
 pk h r (bv false) λt=>
 condS t (
 some (.ret (bv false),j)) (
 nx e λl=>
 Q4m c l j)) (
 ln Q0 c λu=>
 bn Q1 .leq u (iv 32) λv=>
 some (.ret v,f)):=by intros;unfold Q4m;exact (Qd _ _ _ _ _ _).trans (by kernel_rfl)
theorem QjW(a:AV)(s:St):cw (.f Q5u) [a] s =
 Q4m (.val a) (iv 1) s:=(Q3 _ _ _).trans (by kernel_rfl)
theorem Qek(a:AV)(s:St):cw (.f Q3L) [a] s =
 bn Q0 .neq (.val a) (sv []) λb=>
 iT b λw=>
 iT b λk=>
 bind1 (gd k (indexS (C.ti Q0) (C.ti T_0) (gdV w (.val a)) (iv 0))) λi=>
 iT b λl=>
 cg l Q5s [i] s λj d=>
 pk b j (bv false) λc=>
 iT c λm=>
 iT c λn=>
 cg n Q5u [(gdV m (.val a))] d λg e=>
 pk c g (bv false) λh=>
 some (.ret h,e):=(Q3 _ _ _).trans (by kernel_rfl)
noncomputable def Q5:List Slot->Slot->St->Res:=λa b s=>pwD Q2L [.seqR,.seqR,.seqR] Tryz.f166 [(2,.var a),(3,.s b)] s
noncomputable def Z1:List Slot->Slot->St->Res:=λa b s=>pwD Q2L [.seqR,.seqR,.seqL,.seqR,.block,.seqL,.block,.seqL,.block,.seqL,.block,.seqL,.block,.seqR] Tryz.f166 [(2,.var a),(3,.s b)] s
noncomputable def Qc:List Slot->Slot->St->Res:=λa b s=>pwD Q2L [.seqR,.seqR,.seqL,.seqR,.block,.seqL,.block,.seqL,.block,.seqR] Tryz.f166 [(2,.var a),(3,.s b)] s
theorem Q7E:∀ a c b,Q5 a c b =
 gA Q7 a λf=>
 bx Q7 f λe=>
 pt a 0 e λd=>
 rt [(ofSlots (C.ti Q7) (List.take (C.ti Q7).size d)),(some c)] b:=by intros;unfold Q5;exact (QM _).trans (by kernel_rfl)
theorem Q7F:∀ b c a,Z1 b c a =
 bx Q1 (iv 1) λf=>
 pt b 4 f λd=>
 bx Q1 (iv 1) λg=>
 pt d 5 g λe=>
 Q5 e c a:=by intros;unfold Z1;exact (QM _).trans (by kernel_rfl)
theorem Q7G:∀ b c a,Qc b c a =
 bx Q1 (iv 2) λf=>
 pt b 4 f λd=>
 bx Q1 (iv 2) λg=>
 pt d 5 g λe=>
 Q5 e c a:=by intros;unfold Qc;exact (QM _).trans (by kernel_rfl)
theorem Q9x(a:AV)(s:St):cw (.f Q2L) [a] s =
 bn Q2 .eql (.val a) (iv 1) λk5=>
 condS k5 (
 bx QD (bv true) λc=>
 bindL (putAt (List.map .val (C.ti Q7).zero) 1 c) λL=>
 Q5 L (bv true) s) (
 bn Q2 .eql (.val a) (iv 2) λk6=>
 condS k6 (
 bx QD (bv true) λd2=>
 pZ Q7 d2 λW=>
 Q5 W (bv true) s) (
 bn Q2 .eql (.val a) (iv 3) λe8=>
 condS e8 (
 bx QD (bv true) λe1=>
 pZ Q7 e1 λa8=>
 bx Q1 (iv 1) λe2=>
 pt a8 5 e2 λa9=>
 Q5 a9 (bv true) s) (
 bn Q2 .eql (.val a) (iv 4) λe9=>
 condS e9 (
 bx Q1 (iv 2) λe3=>
 bindL (putAt (List.map .val (C.ti Q7).zero) 4 e3) λb0=>
 bx Q1 (iv 8) λe4=>
 pt b0 5 e4 λb1=>
 Q5 b1 (bv true) s) (
 bn Q2 .eql (.val a) (iv 5) λf0=>
 condS f0 (
 bx QD (bv true) λe5=>
 bindL (putAt (List.map .val (C.ti Q7).zero) 2 e5) λb2=>
 Q5 b2 (bv true) s) (
 bn Q2 .eql (.val a) (iv 10) λf1=>
 condS f1 (
 bx Q1 (iv 2) λe6=>
 bindL (putAt (List.map .val (C.ti Q7).zero) 4 e6) λb3=>
 bx Q1 (iv 4611686018427387904) λe7=>
 pt b3 5 e7 λb4=>
 Q5 b4 (bv true) s) (
 bn Q2 .eql (.val a) (iv 8) λf2=>
 condS f2 (
 bx Q1 (iv 3) λb5=>
 bindL (putAt (List.map .val (C.ti Q7).zero) 4 b5) λM=>
 bx Q1 (iv 3) λb6=>
 pt M 5 b6 λN=>
 Q5 N (bv true) s) (
 bn Q2 .eql (.val a) (iv 7) λf3=>
 condS f3 (
 bx QD (bv true) λb7=>
 bindL (putAt (List.map .val (C.ti Q7).zero) 3 b7) λO=>
 bx Q1 (iv 1) λb8=>
 pt O 4 b8 λP=>
 bx Q1 (iv 1) λb9=>
 pt P 5 b9 λR=>
 Q5 R (bv true) s) (
 bn Q2 .eql (.val a) (iv 9) λb=>
 condS b (
 condS b (
 bx QD (bv true) λd0=>
 bindL (putAt (List.map .val (C.ti Q7).zero) 2 d0) λU=>
 Z1 U (bv true) s) (
 bn Q2 .eql (.val a) (iv 12) λd=>
 condS d (
 condS d (
 Z1 ((List.map .val (C.ti Q7).zero)) (bv true) s) (
 bn Q2 .eql (.val a) (iv 13) λf7=>
 condS f7 (
 bx QD (bv true) λd1=>
 bindL (putAt (List.map .val (C.ti Q7).zero) 1 d1) λV=>
 Qc V (bv true) s) (
 bn Q2 .eql (.val a) (iv 6) λk=>
 condS k (
 condS k (
 Qc ((List.map .val (C.ti Q7).zero)) (bv true) s) (
 bn Q2 .eql (.val a) (iv 20) λh3=>
 condS h3 (
 Q5 ((List.map .val (C.ti Q7).zero)) (bv true) s) (
 Q5 ((List.map .val (C.ti Q7).zero)) (bv false) s))) (
 bn Q2 .eql (.val a) (iv 14) λt=>
 condS t (
 condS t (
 Qc ((List.map .val (C.ti Q7).zero)) (bv true) s) (
 bn Q2 .eql (.val a) (iv 20) λh4=>
 condS h4 (
 Q5 ((List.map .val (C.ti Q7).zero)) (bv true) s) (
 Q5 ((List.map .val (C.ti Q7).zero)) (bv false) s))) (
 bn Q2 .eql (.val a) (iv 15) λB=>
 condS B (
 condS B (
 Qc ((List.map .val (C.ti Q7).zero)) (bv true) s) (
 bn Q2 .eql (.val a) (iv 20) λi5=>
 condS i5 (
 Q5 ((List.map .val (C.ti Q7).zero)) (bv true) s) (
 Q5 ((List.map .val (C.ti Q7).zero)) (bv false) s))) (
 bn Q2 .eql (.val a) (iv 18) λg5=>
 condS g5 (
 Qc ((List.map .val (C.ti Q7).zero)) (bv true) s) (
 bn Q2 .eql (.val a) (iv 20) λj6=>
 condS j6 (
 Q5 ((List.map .val (C.ti Q7).zero)) (bv true) s) (
 Q5 ((List.map .val (C.ti Q7).zero)) (bv false) s)))))))) (
 bn Q2 .eql (.val a) (iv 16) λg=>
 condS g (
 condS g (
 Z1 ((List.map .val (C.ti Q7).zero)) (bv true) s) (
 bn Q2 .eql (.val a) (iv 13) λf8=>
 condS f8 (
 bx QD (bv true) λd3=>
 bindL (putAt (List.map .val (C.ti Q7).zero) 1 d3) λY=>
 Qc Y (bv true) s) (
 bn Q2 .eql (.val a) (iv 6) λl=>
 condS l (
 condS l (
 Qc ((List.map .val (C.ti Q7).zero)) (bv true) s) (
 bn Q2 .eql (.val a) (iv 20) λj9=>
 condS j9 (
 Q5 ((List.map .val (C.ti Q7).zero)) (bv true) s) (
 Q5 ((List.map .val (C.ti Q7).zero)) (bv false) s))) (
 bn Q2 .eql (.val a) (iv 14) λu=>
 condS u (
 condS u (
 Qc ((List.map .val (C.ti Q7).zero)) (bv true) s) (
 bn Q2 .eql (.val a) (iv 20) λk0=>
 condS k0 (
 Q5 ((List.map .val (C.ti Q7).zero)) (bv true) s) (
 Q5 ((List.map .val (C.ti Q7).zero)) (bv false) s))) (
 bn Q2 .eql (.val a) (iv 15) λD=>
 condS D (
 condS D (
 Qc ((List.map .val (C.ti Q7).zero)) (bv true) s) (
 bn Q2 .eql (.val a) (iv 20) λk1=>
 condS k1 (
 Q5 ((List.map .val (C.ti Q7).zero)) (bv true) s) (
 Q5 ((List.map .val (C.ti Q7).zero)) (bv false) s))) (
 bn Q2 .eql (.val a) (iv 18) λg6=>
 condS g6 (
 Qc ((List.map .val (C.ti Q7).zero)) (bv true) s) (
 bn Q2 .eql (.val a) (iv 20) λk2=>
 condS k2 (
 Q5 ((List.map .val (C.ti Q7).zero)) (bv true) s) (
 Q5 ((List.map .val (C.ti Q7).zero)) (bv false) s)))))))) (
 bn Q2 .eql (.val a) (iv 17) λi=>
 condS i (
 condS i (
 Z1 ((List.map .val (C.ti Q7).zero)) (bv true) s) (
 bn Q2 .eql (.val a) (iv 13) λf9=>
 condS f9 (
 bx QD (bv true) λd4=>
 bindL (putAt (List.map .val (C.ti Q7).zero) 1 d4) λa1=>
 Qc a1 (bv true) s) (
 bn Q2 .eql (.val a) (iv 6) λm=>
 condS m (
 condS m (
 Qc ((List.map .val (C.ti Q7).zero)) (bv true) s) (
 bn Q2 .eql (.val a) (iv 20) λk3=>
 condS k3 (
 Q5 ((List.map .val (C.ti Q7).zero)) (bv true) s) (
 Q5 ((List.map .val (C.ti Q7).zero)) (bv false) s))) (
 bn Q2 .eql (.val a) (iv 14) λv=>
 condS v (
 condS v (
 Qc ((List.map .val (C.ti Q7).zero)) (bv true) s) (
 bn Q2 .eql (.val a) (iv 20) λk4=>
 condS k4 (
 Q5 ((List.map .val (C.ti Q7).zero)) (bv true) s) (
 Q5 ((List.map .val (C.ti Q7).zero)) (bv false) s))) (
 bn Q2 .eql (.val a) (iv 15) λE=>
 condS E (
 condS E (
 Qc ((List.map .val (C.ti Q7).zero)) (bv true) s) (
 bn Q2 .eql (.val a) (iv 20) λh5=>
 condS h5 (
 Q5 ((List.map .val (C.ti Q7).zero)) (bv true) s) (
 Q5 ((List.map .val (C.ti Q7).zero)) (bv false) s))) (
 bn Q2 .eql (.val a) (iv 18) λg7=>
 condS g7 (
 Qc ((List.map .val (C.ti Q7).zero)) (bv true) s) (
 bn Q2 .eql (.val a) (iv 20) λh6=>
 condS h6 (
 Q5 ((List.map .val (C.ti Q7).zero)) (bv true) s) (
 Q5 ((List.map .val (C.ti Q7).zero)) (bv false) s)))))))) (
 bn Q2 .eql (.val a) (iv 19) λf5=>
 condS f5 (
 Z1 ((List.map .val (C.ti Q7).zero)) (bv true) s) (
 bn Q2 .eql (.val a) (iv 13) λg0=>
 condS g0 (
 bx QD (bv true) λd5=>
 bindL (putAt (List.map .val (C.ti Q7).zero) 1 d5) λa2=>
 Qc a2 (bv true) s) (
 bn Q2 .eql (.val a) (iv 6) λn=>
 condS n (
 condS n (
 Qc ((List.map .val (C.ti Q7).zero)) (bv true) s) (
 bn Q2 .eql (.val a) (iv 20) λh7=>
 condS h7 (
 Q5 ((List.map .val (C.ti Q7).zero)) (bv true) s) (
 Q5 ((List.map .val (C.ti Q7).zero)) (bv false) s))) (
 bn Q2 .eql (.val a) (iv 14) λw=>
 condS w (
 condS w (
 Qc ((List.map .val (C.ti Q7).zero)) (bv true) s) (
 bn Q2 .eql (.val a) (iv 20) λh8=>
 condS h8 (
 Q5 ((List.map .val (C.ti Q7).zero)) (bv true) s) (
 Q5 ((List.map .val (C.ti Q7).zero)) (bv false) s))) (
 bn Q2 .eql (.val a) (iv 15) λF=>
 condS F (
 condS F (
 Qc ((List.map .val (C.ti Q7).zero)) (bv true) s) (
 bn Q2 .eql (.val a) (iv 20) λh9=>
 condS h9 (
 Q5 ((List.map .val (C.ti Q7).zero)) (bv true) s) (
 Q5 ((List.map .val (C.ti Q7).zero)) (bv false) s))) (
 bn Q2 .eql (.val a) (iv 18) λg8=>
 condS g8 (
 Qc ((List.map .val (C.ti Q7).zero)) (bv true) s) (
 bn Q2 .eql (.val a) (iv 20) λi0=>
 condS i0 (
 Q5 ((List.map .val (C.ti Q7).zero)) (bv true) s) (
 Q5 ((List.map .val (C.ti Q7).zero)) (bv false) s)))))))))))) (
 bn Q2 .eql (.val a) (iv 11) λf4=>
 condS f4 (
 bx QD (bv true) λd6=>
 bindL (putAt (List.map .val (C.ti Q7).zero) 2 d6) λa3=>
 Z1 a3 (bv true) s) (
 bn Q2 .eql (.val a) (iv 12) λe=>
 condS e (
 condS e (
 Z1 ((List.map .val (C.ti Q7).zero)) (bv true) s) (
 bn Q2 .eql (.val a) (iv 13) λg1=>
 condS g1 (
 bx QD (bv true) λd7=>
 bindL (putAt (List.map .val (C.ti Q7).zero) 1 d7) λa4=>
 Qc a4 (bv true) s) (
 bn Q2 .eql (.val a) (iv 6) λo=>
 condS o (
 condS o (
 Qc ((List.map .val (C.ti Q7).zero)) (bv true) s) (
 bn Q2 .eql (.val a) (iv 20) λi1=>
 condS i1 (
 Q5 ((List.map .val (C.ti Q7).zero)) (bv true) s) (
 Q5 ((List.map .val (C.ti Q7).zero)) (bv false) s))) (
 bn Q2 .eql (.val a) (iv 14) λx=>
 condS x (
 condS x (
 Qc ((List.map .val (C.ti Q7).zero)) (bv true) s) (
 bn Q2 .eql (.val a) (iv 20) λi2=>
 condS i2 (
 Q5 ((List.map .val (C.ti Q7).zero)) (bv true) s) (
 Q5 ((List.map .val (C.ti Q7).zero)) (bv false) s))) (
 bn Q2 .eql (.val a) (iv 15) λG=>
 condS G (
 condS G (
 Qc ((List.map .val (C.ti Q7).zero)) (bv true) s) (
 bn Q2 .eql (.val a) (iv 20) λi3=>
 condS i3 (
 Q5 ((List.map .val (C.ti Q7).zero)) (bv true) s) (
 Q5 ((List.map .val (C.ti Q7).zero)) (bv false) s))) (
 bn Q2 .eql (.val a) (iv 18) λg9=>
 condS g9 (
 Qc ((List.map .val (C.ti Q7).zero)) (bv true) s) (
 bn Q2 .eql (.val a) (iv 20) λi4=>
 condS i4 (
 Q5 ((List.map .val (C.ti Q7).zero)) (bv true) s) (
 Q5 ((List.map .val (C.ti Q7).zero)) (bv false) s)))))))) (
 bn Q2 .eql (.val a) (iv 16) λh=>
 condS h (
 condS h (
 Z1 ((List.map .val (C.ti Q7).zero)) (bv true) s) (
 bn Q2 .eql (.val a) (iv 13) λg2=>
 condS g2 (
 bx QD (bv true) λd8=>
 bindL (putAt (List.map .val (C.ti Q7).zero) 1 d8) λa5=>
 Qc a5 (bv true) s) (
 bn Q2 .eql (.val a) (iv 6) λp=>
 condS p (
 condS p (
 Qc ((List.map .val (C.ti Q7).zero)) (bv true) s) (
 bn Q2 .eql (.val a) (iv 20) λi6=>
 condS i6 (
 Q5 ((List.map .val (C.ti Q7).zero)) (bv true) s) (
 Q5 ((List.map .val (C.ti Q7).zero)) (bv false) s))) (
 bn Q2 .eql (.val a) (iv 14) λy=>
 condS y (
 condS y (
 Qc ((List.map .val (C.ti Q7).zero)) (bv true) s) (
 bn Q2 .eql (.val a) (iv 20) λi7=>
 condS i7 (
 Q5 ((List.map .val (C.ti Q7).zero)) (bv true) s) (
 Q5 ((List.map .val (C.ti Q7).zero)) (bv false) s))) (
 bn Q2 .eql (.val a) (iv 15) λH=>
 condS H (
 condS H (
 Qc ((List.map .val (C.ti Q7).zero)) (bv true) s) (
 bn Q2 .eql (.val a) (iv 20) λi8=>
 condS i8 (
 Q5 ((List.map .val (C.ti Q7).zero)) (bv true) s) (
 Q5 ((List.map .val (C.ti Q7).zero)) (bv false) s))) (
 bn Q2 .eql (.val a) (iv 18) λh0=>
 condS h0 (
 Qc ((List.map .val (C.ti Q7).zero)) (bv true) s) (
 bn Q2 .eql (.val a) (iv 20) λi9=>
 condS i9 (
 Q5 ((List.map .val (C.ti Q7).zero)) (bv true) s) (
 Q5 ((List.map .val (C.ti Q7).zero)) (bv false) s)))))))) (
 bn Q2 .eql (.val a) (iv 17) λj=>
 condS j (
 condS j (
 Z1 ((List.map .val (C.ti Q7).zero)) (bv true) s) (
 bn Q2 .eql (.val a) (iv 13) λg3=>
 condS g3 (
 bx QD (bv true) λd9=>
 bindL (putAt (List.map .val (C.ti Q7).zero) 1 d9) λa6=>
 Qc a6 (bv true) s) (
 bn Q2 .eql (.val a) (iv 6) λq=>
 condS q (
 condS q (
 Qc ((List.map .val (C.ti Q7).zero)) (bv true) s) (
 bn Q2 .eql (.val a) (iv 20) λj0=>
 condS j0 (
 Q5 ((List.map .val (C.ti Q7).zero)) (bv true) s) (
 Q5 ((List.map .val (C.ti Q7).zero)) (bv false) s))) (
 bn Q2 .eql (.val a) (iv 14) λz=>
 condS z (
 condS z (
 Qc ((List.map .val (C.ti Q7).zero)) (bv true) s) (
 bn Q2 .eql (.val a) (iv 20) λj1=>
 condS j1 (
 Q5 ((List.map .val (C.ti Q7).zero)) (bv true) s) (
 Q5 ((List.map .val (C.ti Q7).zero)) (bv false) s))) (
 bn Q2 .eql (.val a) (iv 15) λI=>
 condS I (
 condS I (
 Qc ((List.map .val (C.ti Q7).zero)) (bv true) s) (
 bn Q2 .eql (.val a) (iv 20) λj2=>
 condS j2 (
 Q5 ((List.map .val (C.ti Q7).zero)) (bv true) s) (
 Q5 ((List.map .val (C.ti Q7).zero)) (bv false) s))) (
 bn Q2 .eql (.val a) (iv 18) λh1=>
 condS h1 (
 Qc ((List.map .val (C.ti Q7).zero)) (bv true) s) (
 bn Q2 .eql (.val a) (iv 20) λj3=>
 condS j3 (
 Q5 ((List.map .val (C.ti Q7).zero)) (bv true) s) (
 Q5 ((List.map .val (C.ti Q7).zero)) (bv false) s)))))))) (
 bn Q2 .eql (.val a) (iv 19) λf6=>
 condS f6 (
 Z1 ((List.map .val (C.ti Q7).zero)) (bv true) s) (
 bn Q2 .eql (.val a) (iv 13) λg4=>
 condS g4 (
 bx QD (bv true) λe0=>
 bindL (putAt (List.map .val (C.ti Q7).zero) 1 e0) λa7=>
 Qc a7 (bv true) s) (
 bn Q2 .eql (.val a) (iv 6) λr=>
 condS r (
 condS r (
 Qc ((List.map .val (C.ti Q7).zero)) (bv true) s) (
 bn Q2 .eql (.val a) (iv 20) λj4=>
 condS j4 (
 Q5 ((List.map .val (C.ti Q7).zero)) (bv true) s) (
 Q5 ((List.map .val (C.ti Q7).zero)) (bv false) s))) (
 bn Q2 .eql (.val a) (iv 14) λA=>
 condS A (
 condS A (
 Qc ((List.map .val (C.ti Q7).zero)) (bv true) s) (
 bn Q2 .eql (.val a) (iv 20) λj5=>
 condS j5 (
 Q5 ((List.map .val (C.ti Q7).zero)) (bv true) s) (
 Q5 ((List.map .val (C.ti Q7).zero)) (bv false) s))) (
 bn Q2 .eql (.val a) (iv 15) λJ=>
 condS J (
 condS J (
 Qc ((List.map .val (C.ti Q7).zero)) (bv true) s) (
 bn Q2 .eql (.val a) (iv 20) λj7=>
 condS j7 (
 Q5 ((List.map .val (C.ti Q7).zero)) (bv true) s) (
 Q5 ((List.map .val (C.ti Q7).zero)) (bv false) s))) (
 bn Q2 .eql (.val a) (iv 18) λh2=>
 condS h2 (
 Qc ((List.map .val (C.ti Q7).zero)) (bv true) s) (
 bn Q2 .eql (.val a) (iv 20) λj8=>
 condS j8 (
 Q5 ((List.map .val (C.ti Q7).zero)) (bv true) s) (
 Q5 ((List.map .val (C.ti Q7).zero)) (bv false) s)))))))))))))))))))):=(Q3 _ _ _).trans (by kernel_rfl)
theorem Qax(a:AV)(s:St):cw (.f Q1u) [a] s =
 ca Q3L [(.val a)] s λc e=>
 iF c λw=>
 iF c λk=>
 gB k Q0 .eql (gdV w (.val a)) (sv [116,114,117,101]) λj=>
 pk c (bv true) j λd=>
 iF d λl=>
 iF d λm=>
 gB m Q0 .eql (gdV l (.val a)) (sv [102,97,108,115,101]) λg=>
 pk d (bv true) g λb=>
 iF b λn=>
 iF b λo=>
 gB o Q0 .eql (gdV n (.val a)) (sv [40,41]) λh=>
 pk b (bv true) h λi=>
 some (.ret i,e):=(Q3 _ _ _).trans (by kernel_rfl)
theorem Qhe(a:AV)(s:St):cw (.f Q5t) [a] s =
 bn Q1 .geq (.val a) (iv (-1073741824)) λb=>
 iT b λw=>
 iT b λe=>
 gB e Q1 .leq (gdV w (.val a)) (iv 1073741823) λc=>
 pk b c (bv false) λd=>
 some (.ret d,s):=(Q3 _ _ _).trans (by kernel_rfl)
theorem QjH(b:AV)(c:AV)(d:AV)(s:St):cw (.f Q1t) [b,c,d] s =
 bn Q1 .geq (.val b) (.val c) λa=>
 iT a λw=>
 iT a λh=>
 iT a λi=>
 gB i Q1 .leq (gdV w (.val b)) (gdV h (.val d)) λe=>
 pk a e (bv false) λg=>
 some (.ret g,s):=(Q3 _ _ _).trans (by kernel_rfl)
noncomputable def Q0E:Slot->Slot->St->Res:=λb a s=>pw (run C false Q1Z (codeAt [.seqR,.seqL,.seqR,.block,.seqR,.els,.seqR,.els,.seqR,.els,.seqR] (body Tryz.f171)) [(5,.s b),(18,.s a)] s (ctxR C false Q1Z [.seqR,.seqL,.seqR,.block,.seqR,.els,.seqR,.els,.seqR,.els,.seqR] (body Tryz.f171) (outK C (Tryz.f171).results.toList)))
noncomputable def ZM:Slot->Slot->St->Res:=λb a s=>pw (run C false Q1Z (codeAt [.seqR,.seqL,.seqR,.block,.seqR,.els,.seqR,.els,.seqR] (body Tryz.f171)) [(5,.s b),(10,.s a)] s (ctxR C false Q1Z [.seqR,.seqL,.seqR,.block,.seqR,.els,.seqR,.els,.seqR] (body Tryz.f171) (outK C (Tryz.f171).results.toList)))
theorem Qd1(b:Slot)(c:Slot)(a:St):Q0E b c a =
 condS c (
 bind1 (tupS [(some (.val (.int .i64 2))),(some (.val (.int .i64 2))),(some (.val (.bool true)))]) λv=>some (.ret v,a)) (
 bind1 (binS (C.ti Q2) .eql b (.val (.int .i64 8))) λd=>
 condS d (
 bind1 (tupS [(some (.val (.int .i64 3))),(some (.val (.int .i64 3))),(some (.val (.bool true)))]) λv=>some (.ret v,a)) (
 bind1 (binS (C.ti Q2) .eql b (.val (.int .i64 10))) λe=>
 condS e (
 bind1 (tupS [(some (.val (.int .i64 2))),(some (.val (.int .i64 1099511627776))),(some (.val (.bool true)))]) λv=>some (.ret v,a)) (
 bind1 (tupS [(some (.val (.int .i64 0))),(some (.val (.int .i64 0))),(some (.val (.bool false)))]) λv=>some (.ret v,a)))):=by unfold Q0E;exact (QM _).trans (by kernel_rfl)
theorem Qd0(a:Slot)(g:Slot)(b:St):ZM a g b =
 condS g (
 bind1 (tupS [(some (.val (.int .i64 1))),(some (.val (.int .i64 1))),(some (.val (.bool true)))]) λv=>some (.ret v,b)) (
 bind1 (binS (C.ti Q2) .eql a (.val (.int .i64 6))) λc=>
 condS c (
 Q0E (a) (c) b) (
 bind1 (binS (C.ti Q2) .eql a (.val (.int .i64 13))) λd=>
 condS d (
 Q0E (a) (d) b) (
 bind1 (binS (C.ti Q2) .eql a (.val (.int .i64 14))) λe=>
 condS e (
 Q0E (a) (e) b) (
 bind1 (binS (C.ti Q2) .eql a (.val (.int .i64 15))) λf=>
 condS f (
 Q0E (a) (f) b) (
 bind1 (binS (C.ti Q2) .eql a (.val (.int .i64 18))) λh=>
 Q0E (a) (h) b))))):=by unfold ZM;exact (QM _).trans (by kernel_rfl)
theorem QgQ(a:AV)(s:St):cw (.f Q1Z) [a] s =
 bind1 (binS (C.ti Q2) .eql (.val a) (.val (.int .i64 3))) λj=>
 condS j (
 bind1 (tupS [(some (.val (.int .i64 0))),(some (.val (.int .i64 1))),(some (.val (.bool true)))]) λv=>some (.ret v,s)) (
 bind1 (binS (C.ti Q2) .eql (.val a) (.val (.int .i64 4))) λk=>
 condS k (
 bind1 (tupS [(some (.val (.int .i64 2))),(some (.val (.int .i64 8))),(some (.val (.bool true)))]) λv=>some (.ret v,s)) (
 bind1 (binS (C.ti Q2) .eql (.val a) (.val (.int .i64 7))) λb=>
 condS b (
 ZM ((.val a)) (b) s) (
 bind1 (binS (C.ti Q2) .eql (.val a) (.val (.int .i64 9))) λc=>
 condS c (
 ZM ((.val a)) (c) s) (
 bind1 (binS (C.ti Q2) .eql (.val a) (.val (.int .i64 11))) λd=>
 condS d (
 ZM ((.val a)) (d) s) (
 bind1 (binS (C.ti Q2) .eql (.val a) (.val (.int .i64 12))) λe=>
 condS e (
 ZM ((.val a)) (e) s) (
 bind1 (binS (C.ti Q2) .eql (.val a) (.val (.int .i64 16))) λg=>
 condS g (
 ZM ((.val a)) (g) s) (
 bind1 (binS (C.ti Q2) .eql (.val a) (.val (.int .i64 17))) λh=>
 condS h (
 ZM ((.val a)) (h) s) (
 bind1 (binS (C.ti Q2) .eql (.val a) (.val (.int .i64 19))) λi=>
 ZM ((.val a)) (i) s)))))))):=(Q3 _ _ _).trans (by kernel_rfl)
theorem Qix(a:AV)(s:St):cw (.f Q6y) [a] s =
 ca Q3e [(.val a)] s λc e=>
 iF c λw=>
 iF c λk=>
 gB k Q0 .eql (gdV w (.val a)) (sv [116,114,117,101]) λj=>
 pk c (bv true) j λd=>
 iF d λl=>
 iF d λm=>
 gB m Q0 .eql (gdV l (.val a)) (sv [102,97,108,115,101]) λg=>
 pk d (bv true) g λb=>
 iF b λn=>
 iF b λo=>
 gB o Q0 .eql (gdV n (.val a)) (sv [40,41]) λh=>
 pk b (bv true) h λi=>
 some (.ret i,e):=(Q3 _ _ _).trans (by kernel_rfl)
theorem Qfg(a:AV)(s:St):cw (.f Q4w) [a] s =
 ca Q5c [(.val a)] s λc b=>
 bn Q1 .eql c (.val a) λd=>
 some (.ret d,b):=(Q3 _ _ _).trans (by kernel_rfl)
noncomputable def Q1r:Slot->Slot->St->Res:=λa b s=>pwD Q5g [.seqR,.seqL,.seqR,.block,.seqR] Tryz.f174 [(4,.s a),(5,.s b)] s
theorem QcR:∀ b c a,Q1r b c a =
 condS c (
 rt [(some (iv 0)),(some (iv 0))] a) (
 bn Q0 .eql b (sv [114,101,102]) λd=>
 condS d (
 rt [(some (iv 1)),(some (iv 1))] a) (
 bn Q0 .eql b (sv [45,62]) λe=>
 condS e (
 rt [(some (iv 2)),(some (iv 2))] a) (
 bn Q0 .eql b (sv [42]) λf=>
 condS f (
 rt [(some (iv 2)),(some (iv 8))] a) (
 rt [(some (iv 0)),(some (iv 8))] a)))):=by intros;unfold Q1r;exact (QM _).trans (by kernel_rfl)
theorem QgO(a:AV)(s:St):cw (.f Q5g) [a] s =
 bn Q0 .eql (.val a) (sv [105,110,116]) λb=>
 condS b (
 Q1r (.val a) b s) (
 bn Q0 .eql (.val a) (sv [98,111,111,108]) λc=>
 condS c (
 Q1r (.val a) c s) (
 bn Q0 .eql (.val a) (sv [117,110,105,116]) λd=>
 condS d (
 Q1r (.val a) d s) (
 bn Q0 .eql (.val a) (sv [101,120,110]) λe=>
 Q1r (.val a) e s))):=(Q3 _ _ _).trans (by kernel_rfl)
noncomputable def Q0v:Slot->Slot->St->Res:=λa b s=>lpD Q20 [.seqR,.seqR,.seqL,.seqR,.block] Tryz.f175 [(0,.s a),(5,.s b)] s
theorem Q6V:∀ a b c,Q0v a b c =
 ln Q0 a λe=>
 bn Q1 .lss b e λf=>
 condS f (
 bind1 (indexS (C.ti Q0) (C.ti T_0) a b) λh=>
 ca Q81 [h] c λi d=>
 nt i λj=>
 condS j (
 some (.ret (bv false),d)) (
 nx b λg=>
 Q0v a g d)) (
 some (.ret (bv true),c)):=by intros;unfold Q0v;exact (Qd _ _ _ _ _ _).trans (by kernel_rfl)
theorem QdV(b:AV)(d:AV)(s:St):cw (.f Q20) [b,d] s =
 ln Q0 (.val b) λm=>
 bn Q1 .lss m (iv 1) λc=>
 iF c λw=>
 iF c λn=>
 gL n Q0 (gdV w (.val b)) λg=>
 iF c λo=>
 gB o Q1 .gtr g (iv 32) λh=>
 pk c (bv true) h λa=>
 iF a λp=>
 iF a λq=>
 bind1 (gd q (indexS (C.ti Q0) (C.ti T_0) (gdV p (.val b)) (iv 0))) λi=>
 iF a λr=>
 iF a λt=>
 cg t Q6c [i,(gdV r (.val d))] s λj e=>
 iF a λu=>
 gN u j λk=>
 pk a (bv true) k λl=>
 condS l (
 some (.ret (bv false),e)) (
 Q0v (.val b) (iv 1) e):=(Q3 _ _ _).trans (by kernel_rfl)
noncomputable def Q2l:Slot->Slot->Slot->St->Res:=λa b c s=>lpD Q4u [.seqR,.seqL,.seqR,.block] Tryz.f176 [(0,.s a),(1,.s b),(5,.s c)] s
theorem Q7p:∀ d b c a,Q2l d b c a =
 ln Qj b λi=>
 bn Q1 .lss c i λj=>
 condS j (
 ix Q0 b c λf=>
 ld Q0 a f λg=>
 bn Q0 .eql g d λh=>
 condS h (
 some (.ret (bv true),a)) (
 nx c λe=>
 Q2l d b e a)) (
 some (.ret (bv false),a)):=by intros;unfold Q2l;exact (Qd _ _ _ _ _ _).trans (by kernel_rfl)
theorem Qfa(a:AV)(b:AV)(s:St):cw (.f Q4u) [a,b] s =
 Q2l (.val a) (.val b) (iv 0) s:=(Q3 _ _ _).trans (by kernel_rfl)
theorem Qf9(s:St):cw (.f Q7b) [] s =
 bs Q0 [(sv [97,110,100]),(sv [97,110,100,97,108,115,111]),(sv [97,115]),(sv [99,97,115,101]),(sv [100,97,116,97,116,121,112,101]),(sv [100,105,118]),(sv [101,108,115,101]),(sv [101,110,100]),(sv [101,120,99,101,112,116,105,111,110]),(sv [102,110]),(sv [102,117,110]),(sv [104,97,110,100,108,101]),(sv [105,102]),(sv [105,110]),(sv [108,101,116]),(sv [109,111,100]),(sv [111,102]),(sv [111,114,101,108,115,101]),(sv [112,114,105,110,116]),(sv [114,97,105,115,101]),(sv [114,101,97,100]),(sv [114,101,102]),(sv [116,104,101,110]),(sv [118,97,108])] λa=>
 some (.ret a,s):=(Q3 _ _ _).trans (by kernel_rfl)
noncomputable def Q1p:Slot->Slot->St->Res:=λa b s=>lpD Q5e [.seqR,.seqL,.block] Tryz.f179 [(0,.s a),(1,.s b)] s
theorem QcO:∀ b a c,Q1p b a c =
 ln Q0 b λo=>
 bn Q1 .lss a o λh=>
 condS h (
 bind1 (indexS (C.ti Q0) (C.ti T_0) b a) λi=>
 ca Q79 [i] c λj d=>
 condS j (
 nx a λk=>
 Q1p b k d) (
 ca Q2Y [b,a,(sv [40,42])] d λl e=>
 nt l λm=>
 condS m (
 rt [(some a),(some (bv true))] e) (
 ca Q3H [b,a] e λg f=>
 bn Q1 .lss g (iv 0) λn=>
 condS n (
 rt [(some a),(some (bv false))] f) (
 Q1p b g f)))) (
 rt [(some a),(some (bv true))] c):=by intros;unfold Q1p;exact (Qd _ _ _ _ _ _).trans (by kernel_rfl)
theorem QgK(a:AV)(b:AV)(s:St):cw (.f Q5e) [a,b] s =
 Q1p (.val a) (.val b) s:=(Q3 _ _ _).trans (by kernel_rfl)
theorem Qiu(b:AV)(a:AV)(k:AV)(s:St):cw (.f Q8W) [b,a,k] s =
 bind1 (indexS (C.ti Q0) (C.ti T_0) (.val b) (.val a)) λH=>
 ca Q2J [H] s λI l=>
 condS I (
 ca Q3G [(.val b),(.val a),(.val k)] l λn F=>
 ex n 0 λJ=>
 ex n 1 λL=>
 bx Q9 J λc=>
 pZ Q9 c λp=>
 rt [(ofSlots (C.ti Q9) (List.take (C.ti Q9).size p)),(some L)] F) (
 ca Q45 [(.val b),(.val a)] l λg h=>
 bn Q1 .gtr g (.val a) λd=>
 iT d λw=>
 iT d λb5=>
 iT d λb6=>
 iT d λb7=>
 bind1 (gd b7 (sliceS (C.ti Q0) 0 (gdV w (.val b)) (some (gdV b5 (.val a))) (some (gdV b6 g)) none)) λM=>
 iT d λb8=>
 gB b8 Q0 .neq M (sv [95]) λN=>
 pk d N (bv false) λO=>
 condS O (
 bn Q1 .sub g (.val a) λP=>
 bn Q1 .gtr P (iv 32) λR=>
 condS R (
 bd Q9 [] λU=>
 bx Q9 U λy=>
 pZ Q9 y λq=>
 rt [(ofSlots (C.ti Q9) (List.take (C.ti Q9).size q)),(some (iv 4))] h) (
 ca Q80 [(.val b),(.val a),g] h λV G=>
 bx Q9 V λz=>
 pZ Q9 z λr=>
 rt [(ofSlots (C.ti Q9) (List.take (C.ti Q9).size r)),(some (iv 0))] G)) (
 bn Q1 .add (.val a) (iv 1) λW=>
 ca Q45 [(.val b),W] h λj i=>
 bind1 (indexS (C.ti Q0) (C.ti T_0) (.val b) (.val a)) λY=>
 bn Qb .eql Y (.val (.int .u8 39)) λe=>
 iT e λb9=>
 iT e λd0=>
 iT e λd1=>
 gB d1 Q1 .add (gdV d0 (.val a)) (iv 1) λa3=>
 iT e λd2=>
 gB d2 Q1 .gtr (gdV b9 j) a3 λa4=>
 pk e a4 (bv false) λa5=>
 condS a5 (
 bn Q1 .sub j (.val a) λa6=>
 bn Q1 .sub a6 (iv 1) λa7=>
 bn Q1 .gtr a7 (iv 32) λa8=>
 condS a8 (
 bd Q9 [] λa9=>
 bx Q9 a9 λA=>
 pZ Q9 A λt=>
 rt [(ofSlots (C.ti Q9) (List.take (C.ti Q9).size t)),(some (iv 4))] i) (
 bind1 (sliceS (C.ti Q0) 0 (.val b) (some (.val a)) (some j) none) λb0=>
 bd Q9 [(0,Z3,(iv 4)),(1,Q1,(.val a)),(2,Q0,b0)] λb1=>
 bx Q9 b1 λB=>
 pZ Q9 B λu=>
 rt [(ofSlots (C.ti Q9) (List.take (C.ti Q9).size u)),(some (iv 0))] i)) (
 ca Q5f [(.val b),(.val a)] i λo m=>
 bn Q0 .eql o (sv []) λb2=>
 condS b2 (
 bd Q9 [] λb3=>
 bx Q9 b3 λD=>
 pZ Q9 D λv=>
 rt [(ofSlots (C.ti Q9) (List.take (C.ti Q9).size v)),(some (iv 11))] m) (
 bd Q9 [(0,Z3,(iv 6)),(1,Q1,(.val a)),(2,Q0,o)] λb4=>
 bx Q9 b4 λE=>
 pZ Q9 E λx=>
 rt [(ofSlots (C.ti Q9) (List.take (C.ti Q9).size x)),(some (iv 0))] m)))):=(Q3 _ _ _).trans (by kernel_rfl)
theorem Qhd(a:AV)(s:St):cw (.f Q5s) [a] s =
 bn Qb .geq (.val a) (.val (.int .u8 65)) λb=>
 iT b λw=>
 iT b λe=>
 gB e Qb .leq (gdV w (.val a)) (.val (.int .u8 90)) λc=>
 pk b c (bv false) λd=>
 some (.ret d,s):=(Q3 _ _ _).trans (by kernel_rfl)
noncomputable def Q4A:Slot->St->Res:=λa s=>pwD Q5c [.seqR,.seqR,.seqR] Tryz.f184 [(3,.s a)] s
theorem QcL:∀ a b,Q4A a b =
 bn Q1 .geq a (iv 1073741824) λc=>
 condS c (
 bn Q1 .sub a (iv 2147483648) λd=>
 some (.ret d,b)) (
 some (.ret a,b)):=by intros;unfold Q4A;exact (QM _).trans (by kernel_rfl)
theorem QgI(b:AV)(s:St):cw (.f Q5c) [b] s =
 bn Q1 .rem (.val b) (iv 2147483648) λa=>
 bn Q1 .lss a (iv 0) λc=>
 condS c (
 bn Q1 .add a (iv 2147483648) λd=>
 Q4A d s) (
 Q4A a s):=(Q3 _ _ _).trans (by kernel_rfl)
theorem QdT(a:AV)(e:AV)(s:St):cw (.f Q6c) [a,e] s =
 condS (.val e) (
 bn Qb .geq (.val a) (.val (.int .u8 65)) λd=>
 iT d λw=>
 iT d λl=>
 gB l Qb .leq (gdV w (.val a)) (.val (.int .u8 90)) λg=>
 pk d g (bv false) λh=>
 some (.ret h,s)) (
 bn Qb .geq (.val a) (.val (.int .u8 97)) λb=>
 iT b λm=>
 iT b λn=>
 gB n Qb .leq (gdV m (.val a)) (.val (.int .u8 122)) λi=>
 pk b i (bv false) λc=>
 iF c λo=>
 iF c λp=>
 gB p Qb .eql (gdV o (.val a)) (.val (.int .u8 95)) λj=>
 pk c (bv true) j λk=>
 some (.ret k,s)):=(Q3 _ _ _).trans (by kernel_rfl)
theorem QgR(a:AV)(s:St):cw (.f Q81) [a] s =
 bn Qb .geq (.val a) (.val (.int .u8 97)) λi=>
 iT i λw=>
 iT i λu=>
 gB u Qb .leq (gdV w (.val a)) (.val (.int .u8 122)) λt=>
 pk i t (bv false) λc=>
 iF c λE=>
 iF c λF=>
 gB F Qb .geq (gdV E (.val a)) (.val (.int .u8 65)) λd=>
 iF c λk=>
 bindB (Slot.isB (gdV k d) true) λG=>
 bindB (Slot.isB (gdV k d) true) λH=>
 gB H Qb .leq (gdV G (.val a)) (.val (.int .u8 90)) λl=>
 iF c λI=>
 bind1 (gd I (pickS (gdV k d) l (bv false))) λm=>
 pk c (bv true) m λb=>
 iF b λJ=>
 iF b λL=>
 gB L Qb .geq (gdV J (.val a)) (.val (.int .u8 48)) λe=>
 iF b λj=>
 bindB (Slot.isB (gdV j e) true) λv=>
 bindB (Slot.isB (gdV j e) true) λx=>
 gB x Qb .leq (gdV v (.val a)) (.val (.int .u8 57)) λn=>
 iF b λy=>
 bind1 (gd y (pickS (gdV j e) n (bv false))) λo=>
 pk b (bv true) o λg=>
 iF g λz=>
 iF g λA=>
 gB A Qb .eql (gdV z (.val a)) (.val (.int .u8 95)) λp=>
 pk g (bv true) p λh=>
 iF h λB=>
 iF h λD=>
 gB D Qb .eql (gdV B (.val a)) (.val (.int .u8 39)) λq=>
 pk h (bv true) q λr=>
 some (.ret r,s):=(Q3 _ _ _).trans (by kernel_rfl)
theorem Qf2(a:AV)(s:St):cw (.f Q79) [a] s =
 bn Qb .eql (.val a) (.val (.int .u8 32)) λc=>
 iF c λw=>
 iF c λj=>
 gB j Qb .eql (gdV w (.val a)) (.val (.int .u8 9)) λi=>
 pk c (bv true) i λd=>
 iF d λk=>
 iF d λl=>
 gB l Qb .eql (gdV k (.val a)) (.val (.int .u8 10)) λe=>
 pk d (bv true) e λb=>
 iF b λm=>
 iF b λn=>
 gB n Qb .eql (gdV m (.val a)) (.val (.int .u8 13)) λg=>
 pk b (bv true) g λh=>
 some (.ret h,s):=(Q3 _ _ _).trans (by kernel_rfl)
theorem Qiw(d:AV)(b:AV)(c:AV)(s:St):cw (.f Q2Y) [d,b,c] s =
 ln Q0 (.val d) λm=>
 bn Q1 .sub m (.val b) λe=>
 ln Q0 (.val c) λg=>
 bn Q1 .geq e g λa=>
 iT a λw=>
 iT a λn=>
 iT a λo=>
 iT a λp=>
 iT a λq=>
 gL q Q0 (gdV p (.val c)) λh=>
 iT a λr=>
 gB r Q1 .add (gdV o (.val b)) h λi=>
 iT a λt=>
 bind1 (gd t (sliceS (C.ti Q0) 0 (gdV w (.val d)) (some (gdV n (.val b))) (some i) none)) λj=>
 iT a λu=>
 iT a λv=>
 gB v Q0 .eql j (gdV u (.val c)) λk=>
 pk a k (bv false) λl=>
 some (.ret l,s):=(Q3 _ _ _).trans (by kernel_rfl)
noncomputable def ZV:Slot->Slot->Slot->St->Res:=λa b c s=>lpD Q3H [.seqR,.seqR,.seqR,.seqL,.block] Tryz.f189 [(0,.s a),(5,.s b),(6,.s c)] s
theorem Qb9:∀ a c b d,ZV a c b d =
 ln Q0 a λi=>
 bn Q1 .lss b i λj=>
 condS j (
 ca Q2Y [a,b,(sv [40,42])] d λk f=>
 condS k (
 nx c λl=>
 bn Q1 .add b (iv 2) λm=>
 ZV a l m f) (
 ca Q2Y [a,b,(sv [42,41])] f λn e=>
 condS n (
 bn Q1 .sub c (iv 1) λg=>
 bn Q1 .add b (iv 2) λh=>
 bn Q1 .eql g (iv 0) λo=>
 condS o (
 some (.ret h,e)) (
 ZV a g h e)) (
 nx b λp=>
 ZV a c p e))) (
 some (.ret (iv (-1)),d)):=by intros;unfold ZV;exact (Qd _ _ _ _ _ _).trans (by kernel_rfl)
theorem QdN(a:AV)(b:AV)(s:St):cw (.f Q3H) [a,b] s =
 ZV (.val a) (iv 0) (.val b) s:=(Q3 _ _ _).trans (by kernel_rfl)
theorem Qf3(a:AV)(s:St):cw (.f Q2J) [a] s =
 bn Qb .geq (.val a) (.val (.int .u8 48)) λb=>
 iT b λw=>
 iT b λe=>
 gB e Qb .leq (gdV w (.val a)) (.val (.int .u8 57)) λc=>
 pk b c (bv false) λd=>
 some (.ret d,s):=(Q3 _ _ _).trans (by kernel_rfl)
noncomputable def Q0u:Slot->Slot->Slot->List Slot->Slot->Slot->St->Res:=λa b c d e f s=>lpD Q3G [.seqR,.seqR,.seqR,.seqL,.block] Tryz.f191 [(0,.s a),(1,.s b),(2,.s c),(6,.var d),(8,.s e),(9,.s f)] s
theorem Q6P:∀ a d n i b h p,Q0u a d n i b h p =
 ln Q0 a λv=>
 bn Q1 .lss b v λe=>
 iT e λw=>
 iT e λY=>
 iT e λa5=>
 bind1 (gd a5 (indexS (C.ti Q0) (C.ti T_0) (gdV w a) (gdV Y b))) λx=>
 iT e λa6=>
 cg a6 Q2J [x] p λy j=>
 pk e y (bv false) λz=>
 condS z (
 bn Q1 .mul (iv 10) h λA=>
 bind1 (indexS (C.ti Q0) (C.ti T_0) a b) λB=>
 bind1 (convS (C.ti Qb) (C.ti Q1) B) λD=>
 bn Q1 .add A D λE=>
 bn Q1 .sub E (iv 48) λF=>
 bind1 (min2 F (iv 1099511627776)) λG=>
 nx b λH=>
 Q0u a d n i H G j) (
 bind1 (sliceS (C.ti Q0) 0 a (some d) (some b) none) λI=>
 bd Q9 [(0,Z3,(iv 1)),(1,Q1,d),(2,Q0,I),(3,Q1,h)] λJ=>
 bx Q9 J λc=>
 pZ Q9 c λo=>
 bn Q1 .sub b d λL=>
 bn Q1 .gtr L (iv 1) λf=>
 iT f λa7=>
 iT f λa8=>
 iT f λa9=>
 bind1 (gd a9 (indexS (C.ti Q0) (C.ti T_0) (gdV a7 a) (gdV a8 d))) λM=>
 iT f λb0=>
 gB b0 Qb .eql M (.val (.int .u8 48)) λN=>
 pk f N (bv false) λk=>
 iF k λb1=>
 iF k λb2=>
 gB b2 Q1 .gtr (gdV b1 h) (iv 1073741824) λO=>
 pk k (bv true) O λg=>
 iF g λa0=>
 iF g λa1=>
 gB a1 Q1 .eql (gdV a0 h) (iv 1073741824) λl=>
 iF g λm=>
 bindB (Slot.isB (gdV m l) true) λa2=>
 bindB (Slot.isB (gdV m l) true) λa3=>
 bind1 (gd a3 (unS .not (gdV a2 n))) λP=>
 iF g λa4=>
 bind1 (gd a4 (pickS (gdV m l) P (bv false))) λR=>
 pk g (bv true) R λU=>
 condS U (
 gA Q9 o λV=>
 bx Q9 V λt=>
 pt i 0 t λq=>
 rt [(ofSlots (C.ti Q9) (List.take (C.ti Q9).size q)),(some (iv 13))] j) (
 gA Q9 o λW=>
 bx Q9 W λu=>
 pt i 0 u λr=>
 rt [(ofSlots (C.ti Q9) (List.take (C.ti Q9).size r)),(some (iv 0))] j)):=by intros;unfold Q0u;exact (Qd _ _ _ _ _ _).trans (by kernel_rfl)
theorem QdM(b:AV)(a:AV)(c:AV)(s:St):cw (.f Q3G) [b,a,c] s =
 Q0u (.val b) (.val a) (.val c) ((List.map .val (C.ti Q9).zero)) (.val a) (iv 0) s:=(Q3 _ _ _).trans (by kernel_rfl)
noncomputable def Q3v:Slot->Slot->Slot->St->Res:=λa b c s=>lpD Q45 [.seqR,.seqR,.seqL,.block] Tryz.f192 [(0,.s a),(1,.s b),(5,.s c)] s
theorem Q3h:∀ c n b o,Q3v c n b o =
 ln Q0 c λI=>
 bn Q1 .lss b I λa=>
 iT a λw=>
 iT a λJ=>
 iT a λW=>
 bind1 (gd W (indexS (C.ti Q0) (C.ti T_0) (gdV w c) (gdV J b))) λt=>
 iT a λa7=>
 cg a7 Q7a [t] o λh q=>
 iT a λm=>
 bindB (Slot.isB (gdV m h) false) λb1=>
 bindB (Slot.isB (gdV m h) false) λb2=>
 bindB (Slot.isB (gdV m h) false) λb3=>
 bind1 (gd b3 (indexS (C.ti Q0) (C.ti T_0) (gdV b1 c) (gdV b2 b))) λu=>
 bindB (Slot.isB (gdV m h) false) λb4=>
 cg b4 Q4t [u] q λv r=>
 iT a λb5=>
 bind1 (gd b5 (pickS (gdV m h) (bv true) v)) λi=>
 iT a λk=>
 bindB (Slot.isB (gdV k i) false) λL=>
 bindB (Slot.isB (gdV k i) false) λM=>
 bindB (Slot.isB (gdV k i) false) λN=>
 bind1 (gd N (indexS (C.ti Q0) (C.ti T_0) (gdV L c) (gdV M b))) λx=>
 bindB (Slot.isB (gdV k i) false) λO=>
 gB O Qb .eql x (.val (.int .u8 95)) λy=>
 iT a λP=>
 bind1 (gd P (pickS (gdV k i) (bv true) y)) λf=>
 iT a λg=>
 bindB (Slot.isB (gdV g f) false) λR=>
 bindB (Slot.isB (gdV g f) false) λU=>
 bindB (Slot.isB (gdV g f) false) λV=>
 gB V Q1 .gtr (gdV R b) (gdV U n) λd=>
 bindB (Slot.isB (gdV g f) false) λe=>
 bindB (Slot.isB (gdV e d) true) λY=>
 bindB (Slot.isB (gdV e d) true) λa0=>
 bindB (Slot.isB (gdV e d) true) λa1=>
 bind1 (gd a1 (indexS (C.ti Q0) (C.ti T_0) (gdV Y c) (gdV a0 b))) λz=>
 bindB (Slot.isB (gdV e d) true) λa2=>
 cg a2 Q2J [z] r λj p=>
 bindB (Slot.isB (gdV e d) true) λl=>
 bindB (Slot.isB (gdV l j) false) λa3=>
 bindB (Slot.isB (gdV l j) false) λa4=>
 bindB (Slot.isB (gdV l j) false) λa5=>
 bind1 (gd a5 (indexS (C.ti Q0) (C.ti T_0) (gdV a3 c) (gdV a4 b))) λA=>
 bindB (Slot.isB (gdV l j) false) λa6=>
 gB a6 Qb .eql A (.val (.int .u8 39)) λB=>
 bindB (Slot.isB (gdV e d) true) λa8=>
 bind1 (gd a8 (pickS (gdV l j) (bv true) B)) λD=>
 bindB (Slot.isB (gdV g f) false) λa9=>
 bind1 (gd a9 (pickS (gdV e d) D (bv false))) λE=>
 iT a λb0=>
 bind1 (gd b0 (pickS (gdV g f) (bv true) E)) λF=>
 pk a F (bv false) λG=>
 condS G (
 nx b λH=>
 Q3v c n H p) (
 some (.ret b,p)):=by intros;unfold Q3v;exact (Qd _ _ _ _ _ _).trans (by kernel_rfl)
theorem Qiv(b:AV)(a:AV)(s:St):cw (.f Q45) [b,a] s =
 Q3v (.val b) (.val a) (.val a) s:=(Q3 _ _ _).trans (by kernel_rfl)
theorem QgM(g:AV)(b:AV)(h:AV)(s:St):cw (.f Q80) [g,b,h] s =
 bind1 (sliceS (C.ti Q0) 0 (.val g) (some (.val b)) (some (.val h)) none) λy=>
 bd Q9 [(0,Z3,(iv 2)),(1,Q1,(.val b)),(2,Q0,y)] λz=>
 bx Q9 z λc=>
 pZ Q9 c λa=>
 cn Q78 [] s λA x=>
 gC Q0 2 a λB=>
 cn Q7K [A,B] x λD i=>
 condS D (
 bx Z3 (iv 5) λp=>
 pt a 0 p λn=>
 gA Q9 n λL=>
 bx Q9 L λq=>
 pZ Q9 q λk=>
 gA Q9 k λv=>some (.ret v,i)) (
 bind1 (indexS (C.ti Q0) (C.ti T_0) (.val g) (.val b)) λE=>
 ca Q4t [E] i λd j=>
 iF d λw=>
 iF d λO=>
 gG O w Q0 2 a λF=>
 iF d λP=>
 gB P Q0 .eql F (sv [116,114,117,101]) λG=>
 pk d (bv true) G λe=>
 iF e λR=>
 iF e λU=>
 gG U R Q0 2 a λH=>
 iF e λV=>
 gB V Q0 .eql H (sv [102,97,108,115,101]) λI=>
 pk e (bv true) I λJ=>
 condS J (
 bx Z3 (iv 3) λr=>
 pt a 0 r λo=>
 gA Q9 o λM=>
 bx Q9 M λt=>
 pZ Q9 t λl=>
 gA Q9 l λv=>some (.ret v,j)) (
 gA Q9 a λN=>
 bx Q9 N λu=>
 pZ Q9 u λm=>
 gA Q9 m λv=>some (.ret v,j))):=(Q3 _ _ _).trans (by kernel_rfl)
noncomputable def Q1q:Slot->Slot->Slot->Slot->Slot->Slot->St->Res:=λa b e f c d s=>lpD Q5f [.seqR,.seqR,.seqR,.seqL,.seqR,.block] Tryz.f194 [(0,.s a),(1,.s b),(5,.s e),(6,.s f),(10,.s c),(11,.s d)] s
theorem Q8b:∀ f g c i h b d,Q1q f g c i h b d =
 bn Q1 .lss b h λj=>
 condS j (
 ix Q0 c b λk=>
 ld Q0 d k λl=>
 ca Q2Y [f,g,l] d λa e=>
 iT a λw=>
 iT a λy=>
 iT a λz=>
 bind1 (gd z (ixS (C.ti Q0).size (gdV w c) (gdV y b))) λm=>
 iT a λA=>
 bind1 (gd A (ldV (C.ti Q0) false e m)) λn=>
 iT a λB=>
 gL B Q0 n λo=>
 iT a λD=>
 iT a λE=>
 gL E Q0 (gdV D i) λp=>
 iT a λF=>
 gB F Q1 .gtr o p λq=>
 pk a q (bv false) λr=>
 condS r (
 ix Q0 c b λt=>
 ld Q0 e t λu=>
 nx b λv=>
 Q1q f g c u h v e) (
 nx b λx=>
 Q1q f g c i h x e)) (
 some (.ret i,d)):=by intros;unfold Q1q;exact (Qd _ _ _ _ _ _).trans (by kernel_rfl)
theorem QgN(a:AV)(b:AV)(s:St):cw (.f Q5f) [a,b] s =
 ca Q77 [] s λc d=>
 ln Qj c λe=>
 Q1q (.val a) (.val b) c (sv []) e (iv 0) d:=(Q3 _ _ _).trans (by kernel_rfl)
theorem Qf5(a:AV)(s:St):cw (.f Q7a) [a] s =
 bn Qb .geq (.val a) (.val (.int .u8 97)) λb=>
 iT b λw=>
 iT b λe=>
 gB e Qb .leq (gdV w (.val a)) (.val (.int .u8 122)) λc=>
 pk b c (bv false) λd=>
 some (.ret d,s):=(Q3 _ _ _).trans (by kernel_rfl)
theorem Qf4(a:AV)(s:St):cw (.f Q4t) [a] s =
 bn Qb .geq (.val a) (.val (.int .u8 65)) λb=>
 iT b λw=>
 iT b λe=>
 gB e Qb .leq (gdV w (.val a)) (.val (.int .u8 90)) λc=>
 pk b c (bv false) λd=>
 some (.ret d,s):=(Q3 _ _ _).trans (by kernel_rfl)
noncomputable def Q4d:Slot->Slot->Slot->Slot->St->Res:=λa b c d s=>lpD Q7K [.seqR,.seqL,.seqR,.block] Tryz.f202 [(0,.s a),(1,.s b),(7,.s c),(8,.s d)] s
theorem Q9n:∀ c d e b a,Q4d c d e b a =
 bn Q1 .lss b e λj=>
 condS j (
 ix Q0 c b λf=>
 ld Q0 a f λg=>
 bn Q0 .eql g d λh=>
 condS h (
 some (.ret (bv true),a)) (
 nx b λi=>
 Q4d c d e i a)) (
 some (.ret (bv false),a)):=by intros;unfold Q4d;exact (Qd _ _ _ _ _ _).trans (by kernel_rfl)
theorem QjG(a:AV)(b:AV)(s:St):cw (.f Q7K) [a,b] s =
 ln Qj (.val a) λc=>
 Q4d (.val a) (.val b) c (iv 0) s:=(Q3 _ _ _).trans (by kernel_rfl)
theorem Qf1(s:St):cw (.f Q78) [] s =
 bs Q0 [(sv [97,110,100]),(sv [97,110,100,97,108,115,111]),(sv [97,115]),(sv [99,97,115,101]),(sv [100,97,116,97,116,121,112,101]),(sv [100,105,118]),(sv [101,108,115,101]),(sv [101,110,100]),(sv [101,120,99,101,112,116,105,111,110]),(sv [102,110]),(sv [102,117,110]),(sv [104,97,110,100,108,101]),(sv [105,102]),(sv [105,110]),(sv [108,101,116]),(sv [109,111,100]),(sv [111,102]),(sv [111,114,101,108,115,101]),(sv [112,114,105,110,116]),(sv [114,97,105,115,101]),(sv [114,101,97,100]),(sv [114,101,102]),(sv [116,104,101,110]),(sv [118,97,108])] λa=>
 some (.ret a,s):=(Q3 _ _ _).trans (by kernel_rfl)
theorem Qf0(s:St):cw (.f Q77) [] s =
 bs Q0 [(sv [33]),(sv [40]),(sv [41]),(sv [42]),(sv [43]),(sv [44]),(sv [45]),(sv [45,62]),(sv [58]),(sv [58,61]),(sv [59]),(sv [60]),(sv [60,61]),(sv [60,62]),(sv [61]),(sv [61,62]),(sv [95]),(sv [124]),(sv [126])] λa=>
 some (.ret a,s):=(Q3 _ _ _).trans (by kernel_rfl)
end Go.Proofs.YtgfhplcmcdimiaaGreatDoor