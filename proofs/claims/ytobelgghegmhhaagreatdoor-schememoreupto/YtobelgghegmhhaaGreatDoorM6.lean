/- A part of the proof: G2. -/
import Derived.Test.YtobelgghegmhhaaGreatDoorM4
set_option linter.unusedVariables false
set_option linter.unusedSimpArgs false
namespace Go.Proofs.YtobelgghegmhhaaGreatDoor
open Go Go.Am
theorem Q5K(e:AV)(g:AV)(s:St):cw (.f Q1f) [e,g] s =
 bx Q6 (.val e) λb=>
 bx Q6 (.val g) λc=>
 gA Q6 b λN=>
 ca Q1G [N,(.val (.nils))] s λO j=>
 nt O λd=>
 iF d λw=>
 bind1 (gd w (ofSlots (C.ti Q6) (List.take (C.ti Q6).size c))) λP=>
 iF d λR=>
 cg R Q1G [P,(.val (.nils))] j λq h=>
 iF d λV=>
 gN V q λr=>
 pk d (bv true) r λt=>
 condS t (
 ca Q1R [] h λu k=>
 some (.ret u,k)) (
 gA Q6 b λv=>
 gA Q6 c λx=>
 cn Z5 [v,x] h λy l=>
 gA Q6 b λz=>
 gA Q6 c λA=>
 cn Q0s [z,A] l λB m=>
 bn Qd .eql y B λa=>
 iT a λW=>
 bind1 (gd W (ofSlots (C.ti Q6) (List.take (C.ti Q6).size b))) λD=>
 iT a λY=>
 bind1 (gd Y (ofSlots (C.ti Q6) (List.take (C.ti Q6).size c))) λE=>
 iT a λa2=>
 back (noPan (cal cw a2 (tgtV (.val (.fn Q3c [])) [D,E]) m)) λF n=>
 iT a λa3=>
 bind1 (gd a3 (ofSlots (C.ti Q6) (List.take (C.ti Q6).size b))) λG=>
 iT a λa4=>
 bind1 (gd a4 (ofSlots (C.ti Q6) (List.take (C.ti Q6).size c))) λH=>
 iT a λa5=>
 back (noPan (cal cw a5 (tgtV (.val (.fn Q3L [])) [G,H]) n)) λI o=>
 iT a λa6=>
 gB a6 Qd .eql F I λJ=>
 pk a J (bv false) λi=>
 iT i λU=>
 back (noPan (cal cw U (tgtV (.val (.fn Q1R [])) []) o)) λL p=>
 pk i L (bv false) λM=>
 some (.ret M,p)):=(Q5 _ _ _).trans (by kernel_rfl)
noncomputable def Q1n:Slot->List Slot->Slot->Slot->St->Res:=λa b c d s=>lpD Q1G [.seqR,.seqL,.seqR,.block] Tryz.f8 [(1,.s a),(2,.var b),(7,.s c),(8,.s d)] s
theorem Q4b:∀ c e f d a,Q1n c e f d a =
 bn Q1 .lss d f λr=>
 condS r (
 ix Q2 c d λi=>
 ld Q2 a i λj=>
 ca Q1T [j,(iv 300)] a λk g=>
 nt k λl=>
 condS l (
 some (.ret (bv false),g)) (
 nx d λm=>
 Q1n c e f m g)) (
 ln Q8 c λn=>
 bn Q1 .lss n (iv 300) λb=>
 iT b λw=>
 iT b λt=>
 gG t w Q2 1 e λo=>
 iT b λu=>
 cg u Q1T [o,(iv 400)] a λp h=>
 pk b p (bv false) λq=>
 some (.ret q,h)):=by intros;unfold Q1n;exact (Qj _ _ _ _ _ _).trans (by kernel_rfl)
theorem Qc1(b:AV)(a:AV)(s:St):cw (.f Q1G) [b,a] s =
 bx Q6 (.val b) λc=>
 ln Q8 (.val a) λd=>
 Q1n (.val a) c d (iv 0) s:=(Q5 _ _ _).trans (by kernel_rfl)
theorem Q9u(s:St):cw (.f Q1R) [] s =
 ca Q04 [(iv 3)] s λd1 o=>
 ca Q04 [(iv 5)] o λd2 A=>
 ca Q04 [(iv 3)] A λd3 B=>
 ca Q0K [d2,d3] B λd4 D=>
 ca Q0K [d1,d4] D λJ E=>
 bs Q1 [(iv 5)] λL=>
 ca Q1I [J,L] E λM F=>
 bx Q6 M λc=>
 pZ Q6 c λj=>
 ca Q04 [(iv 0)] F λN G=>
 ca Q04 [(iv 1)] G λO H=>
 ca Q0K [N,O] H λP I=>
 bd Q6 [(0,Q1,(iv 2)),(1,Q2,P)] λR=>
 bx Q6 R λl=>
 pZ Q6 l λh=>
 ca Q04 [(iv 0)] I λU p=>
 ca Q04 [(iv 0)] p λV q=>
 ca Q0K [U,V] q λW r=>
 bd Q6 [(0,Q1,(iv 1)),(1,Q2,W)] λY=>
 bx Q6 Y λm=>
 pZ Q6 m λe=>
 gA Q6 e λa0=>
 bd Q2 [(0,Qa,(iv 2)),(2,Q0,(sv [105,110,116]))] λa1=>
 bs Q2 [a1] λa2=>
 ca Q3b [a0,a2] r λi t=>
 ex i 0 λa3=>
 ex i 1 λa4=>
 bx Q2 a3 λn=>
 pZ Q2 n λk=>
 gA Q6 j λa5=>
 cn Q1W [a5] t λa6 u=>
 bn Q0 .eql a6 (sv [39,97,32,45,62,32,95,97,32,45,62,32,39,97]) λd=>
 iT d λw=>
 bind1 (gd w (ofSlots (C.ti Q6) (List.take (C.ti Q6).size h))) λa7=>
 iT d λd5=>
 bind1 (gd d5 (ofSlots (C.ti Q6) (List.take (C.ti Q6).size e))) λa8=>
 iT d λe0=>
 back (noPan (cal cw e0 (tgtV (.val (.fn Z5 [])) [a7,a8]) u)) λa9 v=>
 pk d a9 (bv false) λb=>
 iT b λe1=>
 bind1 (gd e1 (ofSlots (C.ti Q6) (List.take (C.ti Q6).size e))) λb0=>
 iT b λe2=>
 bind1 (gd e2 (ofSlots (C.ti Q6) (List.take (C.ti Q6).size h))) λb1=>
 iT b λe3=>
 back (noPan (cal cw e3 (tgtV (.val (.fn Z5 [])) [b0,b1]) v)) λb2 x=>
 iT b λe4=>
 gN e4 b2 λb3=>
 pk b b3 (bv false) λg=>
 iT g λe5=>
 iT g λe6=>
 gB e6 QE .eql (gdV e5 a4) (iv 0) λb4=>
 pk g b4 (bv false) λa=>
 iT a λe7=>
 bind1 (gd e7 (ofSlots (C.ti Q2) (List.take (C.ti Q2).size k))) λb5=>
 iT a λd6=>
 bind1 (gd d6 (buildS (C.ti Q2).zero [(0,(C.ti Qa).size,(iv 2)),(2,(C.ti Q0).size,(sv [105,110,116]))])) λb6=>
 iT a λd7=>
 bind1 (gd d7 (buildS (C.ti Q2).zero [(0,(C.ti Qa).size,(iv 2)),(2,(C.ti Q0).size,(sv [105,110,116]))])) λb7=>
 iT a λd8=>
 back (noPan (cal cw d8 (tgtV (.val (.fn Q0K [])) [b6,b7]) x)) λb8 y=>
 iT a λd9=>
 back (noPan (cal cw d9 (tgtV (.val (.fn Q2e [])) [b5,b8]) y)) λb9 z=>
 pk a b9 (bv false) λd0=>
 some (.ret d0,z):=(Q5 _ _ _).trans (by kernel_rfl)
noncomputable def Q0F:Slot->List Slot->List Slot->Slot->Slot->Slot->Slot->Slot->Slot->Slot->Slot->Slot->St->Res:=λd h i j k l a b c e f g s=>lpD Q1I [.seqR,.seqR,.seqR,.seqR,.seqL,.seqR,.block,.loop,.seqR,.seqR,.seqL,.block,.seqR,.seqL,.seqR,.block] Tryz.f10 [(1,.s d),(2,.var h),(4,.var i),(5,.s j),(6,.s k),(8,.s l),(16,.s a),(17,.s b),(18,.s c),(23,.s e),(24,.s f),(25,.s g)] s
noncomputable def Z8:Slot->List Slot->List Slot->Slot->Slot->Slot->Slot->Slot->St->Res:=λa e f g h b c d s=>lpD Q1I [.seqR,.seqR,.seqR,.seqR,.seqL,.seqR,.block] Tryz.f10 [(1,.s a),(2,.var e),(4,.var f),(5,.s g),(6,.s h),(16,.s b),(17,.s c),(18,.s d)] s
theorem Q4k:∀ c i j a n k e f g l m h b,Q0F c i j a n k e f g l m h b =
 bn Q1 .lss h m λq=>
 condS q (
 ix Q1 l h λr=>
 ld Q1 b r λo=>
 ca Zz [c,o] b λt d=>
 bn Qd .eql t k λu=>
 condS u (
 ld Qm d a λv=>
 ld Qm d a λw=>
 bind1 (lenM d w) λx=>
 upd2 Q1 Q1 d v o x λ_ p=>
 nx h λy=>
 Q0F c i j a n k e f g l m y p) (
 nx h λz=>
 Q0F c i j a n k e f g l m z d)) (
 nt k λA=>
 condS A (
 ld Qm b a λB=>
 bind1 (lenM b B) λD=>
 nx g λE=>
 Z8 c i j a D e f E b) (
 nx g λF=>
 Z8 c i j a n e f F b)):=by intros;unfold Q0F;exact (Qj _ _ _ _ _ _).trans (by kernel_rfl)
theorem Q2y:∀ j c f g h d e b a,Z8 j c f g h d e b a =
 bn Q1 .lss b e λo=>
 condS o (
 ix Qd d b λp=>
 ld Qd a p λq=>
 gA Q2 c λr=>
 ca Q5Q [r] a λi m=>
 ln ZW i λt=>
 Q0F j c f g h q d e b i t (iv 0) m) (
 gA Q2 c λu=>
 bind1 (fnS Q1V [g]) λw=>
 ca Q0L [u,w] a λx n=>
 bd Q6 [(0,Q1,h),(1,Q2,x)] λy=>
 bx Q6 y λl=>
 pt f 0 l λk=>
 gA Q6 k λv=>some (.ret v,n)):=by intros;unfold Z8;exact (Qj _ _ _ _ _ _).trans (by kernel_rfl)
theorem Qcy(b:AV)(d:AV)(s:St):cw (.f Q1I) [b,d] s =
 bx Q2 (.val b) λe=>
 gA Q2 e λk=>
 ca Q2p [k] s λl a=>
 nt l λm=>
 condS m (
 bd Q6 [] λn=>
 bx Q6 n λc=>
 pZ Q6 c λh=>
 gA Q6 h λv=>some (.ret v,a)) (
 bx Qm (.val (.mp a.locs.length)) λi=>
 sto (St.addLoc (St.addLoc a (.map [] 0)) (.var (List.map .val (C.ti Qm).zero))) (.val (.vp (St.addLoc a (.map [] 0)).locs.length 0)) i λj=>
 bs Qd [(bv false),(bv true)] λg=>
 ln ZA g λo=>
 Z8 (.val d) e ((List.map .val (C.ti Q6).zero)) ((.val (.vp (St.addLoc a (.map [] 0)).locs.length 0))) (iv 0) g o (iv 0) j):=(Q5 _ _ _).trans (by kernel_rfl)
theorem Q8V(d:AV)(s:St):cw (.f ZT) [d] s =
 bx Q6 (.val d) λc=>
 gC Q2 1 c λj=>
 ca Q2p [j] s λb e=>
 iT b λw=>
 iT b λm=>
 gG m w Q1 0 c λk=>
 iT b λn=>
 gB n Q1 .geq k (iv 0) λl=>
 pk b l (bv false) λa=>
 iT a λo=>
 iT a λp=>
 gG p o Q1 0 c λg=>
 iT a λq=>
 gB q Q1 .leq g (iv 256) λh=>
 pk a h (bv false) λi=>
 some (.ret i,e):=(Q5 _ _ _).trans (by kernel_rfl)
theorem Q9F(d:AV)(s:St):cw (.f Q1U) [d] s =
 bx Q6 (.val d) λc=>
 gC Q1 0 c λj=>
 bn Q1 .geq j (iv 0) λb=>
 iT b λw=>
 iT b λm=>
 gG m w Q1 0 c λk=>
 iT b λn=>
 gB n Q1 .leq k (iv 256) λl=>
 pk b l (bv false) λa=>
 iT a λo=>
 iT a λp=>
 gG p o Q2 1 c λg=>
 iT a λq=>
 cg q Q3a [g] s λh e=>
 pk a h (bv false) λi=>
 some (.ret i,e):=(Q5 _ _ _).trans (by kernel_rfl)
theorem Q4V(b:AV)(s:St):cw (.f Q1W) [b] s =
 bx Q6 (.val b) λc=>
 bindA (avs c) λl1=>
 ld Q6 s (.val (.cp l1)) λh=>
 ca ZT [h] s λi a=>
 nt i λj=>
 condS j (
 some (.ret (sv []),a)) (
 fa 1 (.val (.cp l1)) λk=>
 ld Q2 a k λl=>
 bind1 (fnS Q1d [(.val (.cp l1))]) λm=>
 ca Q0L [l,m] a λn d=>
 ca Q2U [n] d λg e=>
 some (.ret g,e)):=(Q5 _ _ _).trans (by kernel_rfl)
theorem Q9H(g:AV)(b:AV)(s:St):cw (.f Q3b) [g,b] s =
 bx Q6 (.val g) λd=>
 gA Q6 d λI=>
 ca ZT [I] s λJ q=>
 nt J λa=>
 iF a λw=>
 iF a λL=>
 gL L Q8 (gdV w (.val b)) λt=>
 iF a λM=>
 iF a λN=>
 gG N M Q1 0 d λu=>
 iF a λO=>
 gB O Q1 .neq t u λv=>
 pk a (bv true) v λe=>
 iF e λP=>
 iF e λR=>
 cg R Qn [(gdV P (.val b)),(.val (.fn Zs []))] q λx i=>
 pk e (bv true) x λy=>
 condS y (
 bd Q2 [] λz=>
 bx Q2 z λc=>
 pZ Q2 c λk=>
 rt [(ofSlots (C.ti Q2) (List.take (C.ti Q2).size k)),(some (iv 1))] i) (
 gC Q2 1 d λA=>
 ca Q7z [A,(.val b)] i λB r=>
 bx Q2 B λn=>
 pZ Q2 n λh=>
 gA Q2 h λD=>
 ca Q22 [D] r λE j=>
 bn Q1 .gtr E (iv 256) λF=>
 condS F (
 bd Q2 [] λG=>
 bx Q2 G λo=>
 pZ Q2 o λl=>
 rt [(ofSlots (C.ti Q2) (List.take (C.ti Q2).size l)),(some (iv 4))] j) (
 gA Q2 h λH=>
 bx Q2 H λp=>
 pZ Q2 p λm=>
 rt [(ofSlots (C.ti Q2) (List.take (C.ti Q2).size m)),(some (iv 0))] j)):=(Q5 _ _ _).trans (by kernel_rfl)
theorem Qb1(a:AV)(b:AV)(s:St):cw (.f Q2e) [a,b] s =
 bx Q2 (.val a) λc=>
 bx Q2 (.val b) λd=>
 gA Q2 c λg=>
 gA Q2 d λh=>
 ca Q0r [g,h] s λi e=>
 some (.ret i,e):=(Q5 _ _ _).trans (by kernel_rfl)
noncomputable def Q0E:List Slot->List Slot->Slot->Slot->List Slot->Slot->Slot->St->Res:=λc d e f g a b s=>lpD Z5 [.seqR,.scope,.seqR,.seqR,.seqR,.seqR,.seqL,.block,.loop,.seqR,.block,.seqR,.seqR,.seqR,.seqR,.seqR,.block] Tryz.f20 [(2,.var c),(3,.var d),(5,.s e),(6,.s f),(7,.var g),(124,.s a),(125,.s b)] s
noncomputable def QV:List Slot->List Slot->Slot->Slot->St->Res:=λa b c d s=>lpD Z5 [.seqR,.scope,.seqR,.seqR,.seqR,.seqR,.seqL,.block] Tryz.f20 [(2,.var a),(3,.var b),(5,.s c),(6,.s d)] s
theorem Q3n:∀ e f g h c d b a,Q0E e f g h c d b a =
 bn Q1 .lss b d λj=>
 condS j (
 gC Q8 3 c λk=>
 ix Q2 k b λl=>
 ld Q2 a l λm=>
 gC Q8 7 c λn=>
 ix Q2 n b λo=>
 ld Q2 a o λp=>
 bd Qv [(0,Q2,m),(4,Q2,p)] λq=>
 bs Qv [q] λr=>
 bind2 (appendV Qv (C.ti Qv) a h r) λt i=>
 nx b λu=>
 Q0E e f g t c d u i) (
 QV e f g h a):=by intros;unfold Q0E;exact (Qj _ _ _ _ _ _).trans (by kernel_rfl)
theorem Q3m:∀ h i j k d,QV h i j k d =
 ln Q0m k λW=>
 bn Q1 .gtr W (iv 0) λY=>
 condS Y (
 ln Q0m k λa0=>
 bn Q1 .sub a0 (iv 1) λa1=>
 ix Qv k a1 λa2=>
 ld Qv d a2 λa3=>
 bx Qv a3 λc=>
 pZ Qv c λa=>
 ln Q0m k λa4=>
 bn Q1 .sub a4 (iv 1) λa5=>
 bind1 (sliceS (C.ti Q0m) (C.ti Qv).size k none (some a5) none) λl=>
 gC Qa 0 a λa6=>
 bn Qa .eql a6 (iv 1) λa7=>
 condS a7 (
 gC Q1 1 a λa8=>
 gC Q1 0 h λa9=>
 bn Q1 .lss a8 a9 λb0=>
 condS b0 (
 gC Q1 1 a λb1=>
 lk Q1 Q2 d j b1 true λn=>
 ex n 0 λb2=>
 ex n 1 λb3=>
 bx Q2 b2 λF=>
 pZ Q2 F λE=>
 condS b3 (
 gA Q2 E λb4=>
 gC Q2 4 a λb5=>
 ca Q21 [b4,b5] d λb6 m=>
 nt b6 λb7=>
 condS b7 (
 some (.ret (bv false),m)) (
 QV h i j l m)) (
 gC Q1 1 a λb8=>
 gC Q2 4 a λb9=>
 upd2 Q1 Q2 d j b8 b9 λ_ G=>
 QV h i j l G)) (
 gC Qa 4 a λd0=>
 bn Qa .neq d0 (iv 1) λg=>
 iF g λx=>
 iF g λB=>
 chkP x B λ_=>
 iF g λg0=>
 bind1 (gd g0 (bif (x&&B) then (ofSlots (C.ti Q1) (List.take (C.ti Q1).size (List.drop 5 a))) else none)) λd1=>
 iF g λg1=>
 iF g λg2=>
 gG g2 g1 Q1 0 i λd2=>
 iF g λg3=>
 gB g3 Q1 .lss d1 d2 λd3=>
 pk g (bv true) d3 λb=>
 iF b λD=>
 iF b λo=>
 chkP D o λ_=>
 iF b λe3=>
 bind1 (gd e3 (bif (D&&o) then (ofSlots (C.ti Q1) (List.take (C.ti Q1).size (List.drop 5 a))) else none)) λd4=>
 iF b λe4=>
 iF b λe5=>
 gG e5 e4 Q1 0 i λd5=>
 iF b λe6=>
 gB e6 Q1 .sub d4 d5 λd6=>
 iF b λp=>
 iF b λq=>
 chkP p q λ_=>
 iF b λe7=>
 bind1 (gd e7 (bif (p&&q) then (ofSlots (C.ti Q1) (List.take (C.ti Q1).size (List.drop 1 a))) else none)) λd7=>
 iF b λe8=>
 iF b λe9=>
 gG e9 e8 Q1 0 h λd8=>
 iF b λf0=>
 gB f0 Q1 .sub d7 d8 λd9=>
 iF b λf1=>
 gB f1 Q1 .neq d6 d9 λe0=>
 pk b (bv true) e0 λe1=>
 condS e1 (
 some (.ret (bv false),d)) (
 QV h i j l d))) (
 gC Qa 4 a λe2=>
 bn Qa .neq e2 (iv 2) λf=>
 iF f λr=>
 iF f λt=>
 chkP r t λ_=>
 iF f λf2=>
 bind1 (gd f2 (bif (r&&t) then (ofSlots (C.ti Q0) (List.take (C.ti Q0).size (List.drop 2 a))) else none)) λH=>
 iF f λu=>
 iF f λv=>
 chkP u v λ_=>
 iF f λf3=>
 bind1 (gd f3 (bif (u&&v) then (ofSlots (C.ti Q0) (List.take (C.ti Q0).size (List.drop 6 a))) else none)) λI=>
 iF f λf4=>
 gB f4 Q0 .neq H I λJ=>
 pk f (bv true) J λe=>
 iF e λw=>
 iF e λy=>
 chkP w y λ_=>
 iF e λf5=>
 bind1 (gd f5 (bif (w&&y) then (ofSlots (C.ti Q8) (List.take (C.ti Q8).size (List.drop 3 a))) else none)) λL=>
 iF e λf6=>
 gL f6 Q8 L λM=>
 iF e λz=>
 iF e λA=>
 chkP z A λ_=>
 iF e λf7=>
 bind1 (gd f7 (bif (z&&A) then (ofSlots (C.ti Q8) (List.take (C.ti Q8).size (List.drop 7 a))) else none)) λN=>
 iF e λf8=>
 gL f8 Q8 N λO=>
 iF e λf9=>
 gB f9 Q1 .neq M O λP=>
 pk e (bv true) P λR=>
 condS R (
 some (.ret (bv false),d)) (
 gC Q8 3 a λU=>
 ln Q8 U λV=>
 Q0E h i j l a V (iv 0) d))) (
 some (.ret (bv true),d)):=by intros;unfold QV;exact (Qj _ _ _ _ _ _).trans (by kernel_rfl)
theorem Q9I(e:AV)(g:AV)(s:St):cw (.f Z5) [e,g] s =
 bx Q6 (.val e) λb=>
 bx Q6 (.val g) λc=>
 gA Q6 b λj=>
 ca ZT [j] s λk h=>
 nt k λa=>
 iF a λw=>
 bind1 (gd w (ofSlots (C.ti Q6) (List.take (C.ti Q6).size c))) λl=>
 iF a λu=>
 cg u ZT [l] h λm d=>
 iF a λv=>
 gN v m λn=>
 pk a (bv true) n λo=>
 condS o (
 some (.ret (bv false),d)) (
 gC Q2 1 b λp=>
 gC Q2 1 c λq=>
 bd Qv [(0,Q2,p),(4,Q2,q)] λr=>
 bind2 (bslV Qv (C.ti Qv) (St.addLoc d (.map [] 0)) [r]) λt i=>
 QV b c (.val (.mp d.locs.length)) t i):=(Q5 _ _ _).trans (by kernel_rfl)
noncomputable def ZC:List Slot->List Slot->Slot->Slot->Slot->St->Res:=λb d e a c s=>lpD Q0s [.seqR,.seqR,.seqR,.seqL,.seqR,.block] Tryz.f21 [(2,.var b),(3,.var d),(5,.s e),(19,.s a),(20,.s c)] s
theorem Q3V:∀ e g a d f b,ZC e g a d f b =
 bn Q1 .lss f d λr=>
 condS r (
 bind1 (nilCheckV a) λt=>
 fa 10 t λu=>
 ld ZA b u λv=>
 bs Qd [(bv false)] λw=>
 bind2 (appendV Qd (C.ti Qd) b v w) λx m=>
 bind1 (nilCheckV a) λy=>
 fa 10 y λz=>
 bx ZA x λc=>
 sto m z c λh=>
 bind1 (nilCheckV a) λA=>
 fa 11 A λB=>
 ld Q8 h B λi=>
 bd Q2 [] λD=>
 ln Q8 i λE=>
 bs Q2 [(.val (.agg [.int .i64 0,.int .i64 0,.str [],.nils]))] λF=>
 bind2 (appendV Q2 (C.ti Q2) h i F) λj n=>
 ix Q2 j E λG=>
 bx Q2 D λk=>
 stM .nw n G k λo=>
 bind1 (nilCheckV a) λH=>
 fa 11 H λI=>
 bx Q8 j λl=>
 stM .old o I l λp=>
 nx f λJ=>
 ZC e g a d J p) (
 gC Q2 1 e λL=>
 gC Q2 1 g λM=>
 ca Zg [a,L,M] b λN q=>
 some (.ret N,q)):=by intros;unfold ZC;exact (Qj _ _ _ _ _ _).trans (by kernel_rfl)
theorem Qb4(e:AV)(g:AV)(s:St):cw (.f Q0s) [e,g] s =
 bx Q6 (.val e) λa=>
 bx Q6 (.val g) λc=>
 gA Q6 a λr=>
 ca Q1U [r] s λt i=>
 nt t λb=>
 iF b λw=>
 bind1 (gd w (ofSlots (C.ti Q6) (List.take (C.ti Q6).size c))) λj=>
 iF b λu=>
 cg u Q1U [j] i λk d=>
 iF b λv=>
 gN v k λl=>
 pk b (bv true) l λm=>
 condS m (
 some (.ret (bv false),d)) (
 gA Q6 a λn=>
 gA Q6 c λo=>
 bd Q1j [(0,Q6,n),(5,Q6,o)] λp=>
 bx Q1j p λh=>
 gC Q1 0 a λq=>
 ZC a c (.val (.vp d.locs.length 0)) q (iv 0) (St.addLoc d (.var h))):=(Q5 _ _ _).trans (by kernel_rfl)
theorem Q9L(b:AV)(c:AV)(s:St):cw (.f Q3c) [b,c] s =
 bx Q6 (.val b) λd=>
 bx Q6 (.val c) λe=>
 gA Q6 d λl=>
 gA Q6 e λm=>
 ca Z5 [l,m] s λa g=>
 iT a λw=>
 bind1 (gd w (ofSlots (C.ti Q6) (List.take (C.ti Q6).size e))) λn=>
 iT a λo=>
 bind1 (gd o (ofSlots (C.ti Q6) (List.take (C.ti Q6).size d))) λi=>
 iT a λp=>
 cg p Z5 [n,i] g λj h=>
 pk a j (bv false) λk=>
 some (.ret k,h):=(Q5 _ _ _).trans (by kernel_rfl)
theorem Qb5(b:AV)(c:AV)(s:St):cw (.f Q3L) [b,c] s =
 bx Q6 (.val b) λd=>
 bx Q6 (.val c) λe=>
 gA Q6 d λl=>
 gA Q6 e λm=>
 ca Q0s [l,m] s λa g=>
 iT a λw=>
 bind1 (gd w (ofSlots (C.ti Q6) (List.take (C.ti Q6).size e))) λn=>
 iT a λo=>
 bind1 (gd o (ofSlots (C.ti Q6) (List.take (C.ti Q6).size d))) λi=>
 iT a λp=>
 cg p Q0s [n,i] g λj h=>
 pk a j (bv false) λk=>
 some (.ret k,h):=(Q5 _ _ _).trans (by kernel_rfl)
theorem QeC(a:AV)(s:St):cw (.f Q04) [a] s =
 bd Q2 [(0,Qa,(iv 1)),(1,Q1,(.val a))] λd=>
 bx Q2 d λc=>
 pZ Q2 c λb=>
 gA Q2 b λv=>some (.ret v,s):=(Q5 _ _ _).trans (by kernel_rfl)
theorem Q9C(a:AV)(b:AV)(s:St):cw (.f Q1T) [a,b] s =
 bx Q2 (.val a) λc=>
 gA Q2 c λe=>
 ca Q0T [e,(.val b),(iv 0)] s λg d=>
 bn Q1 .geq g (iv 0) λh=>
 some (.ret h,d):=(Q5 _ _ _).trans (by kernel_rfl)
theorem Qde(a:AV)(b:AV)(s:St):cw (.f Q0K) [a,b] s =
 bx Q2 (.val a) λd=>
 bx Q2 (.val b) λe=>
 gA Q2 d λh=>
 gA Q2 e λi=>
 bs Q2 [h,i] λj=>
 bd Q2 [(0,Qa,(iv 2)),(2,Q0,(sv [45,62])),(3,Q8,j)] λk=>
 bx Q2 k λc=>
 pZ Q2 c λg=>
 gA Q2 g λv=>some (.ret v,s):=(Q5 _ _ _).trans (by kernel_rfl)
theorem Qdy(b:AV)(s:St):cw (.f Q2p) [b] s =
 bx Q2 (.val b) λe=>
 bx Q1 (iv 256) λc=>
 sto (St.addLoc s (.var (List.map .val (C.ti Q1).zero))) (.val (.vp s.locs.length 0)) c λa=>
 bind1 (fnS Q2q [(.val (.vp s.locs.length 0)),(.val (.vp a.locs.length 0))]) λi=>
 bx Qo i λg=>
 sto (St.addLoc a (.var (List.map .val (C.ti Qo).zero))) (.val (.vp a.locs.length 0)) g λd=>
 ld Qo d (.val (.vp a.locs.length 0)) λj=>
 gA Q2 e λk=>
 back (cal cw true (tgtV j [k]) d) λl h=>
 some (.ret l,h):=(Q5 _ _ _).trans (by kernel_rfl)
theorem QeX(a:AV)(s:St):cw (.f Q5Q) [a] s =
 bx Q2 (.val a) λd=>
 gA Q2 d λg=>
 ca Q56 [g] s λb e=>
 ex b 0 λh=>
 ex b 1 λi=>
 bx Q2 h λc=>
 pZ Q2 c λj=>
 some (.ret i,e):=(Q5 _ _ _).trans (by kernel_rfl)
theorem Q36(a:AV)(b:AV)(s:St):cw (.f Zz) [a,b] s =
 ca Zd [(.val a),(.val b)] s λd c=>
 bn Q1 .geq d (iv 0) λe=>
 some (.ret e,c):=(Q5 _ _ _).trans (by kernel_rfl)
theorem Q70(a:AV)(b:AV)(s:St):cw (.f Q0L) [a,b] s =
 bx Q2 (.val a) λe=>
 bx QN (.val b) λg=>
 bindA (avs g) λl3=>
 bind1 (fnS Zm [(.val (.cp l3)),(.val (.vp s.locs.length 0))]) λk=>
 bx Qk k λc=>
 sto (St.addLoc s (.var (List.map .val (C.ti Qk).zero))) (.val (.vp s.locs.length 0)) c λd=>
 ld Qk d (.val (.vp s.locs.length 0)) λl=>
 gA Q2 e λm=>
 back (cal cw true (tgtV l [m]) d) λn j=>
 bx Q2 n λi=>
 pZ Q2 i λh=>
 gA Q2 h λv=>some (.ret v,j):=(Q5 _ _ _).trans (by kernel_rfl)
theorem Q9J(a:AV)(b:AV)(s:St):cw (.f Q1V) [a,b] s =
 ld Qm s (.val b) λg=>
 lk Q1 Q1 s g (.val a) false λh=>
 ca ZF [h] s λi e=>
 bx Q2 i λc=>
 pZ Q2 c λd=>
 gA Q2 d λv=>some (.ret v,e):=(Q5 _ _ _).trans (by kernel_rfl)
theorem Q6w(a:AV)(s:St):cw (.f ZF) [a] s =
 bd Q2 [(0,Qa,(iv 1)),(1,Q1,(.val a))] λd=>
 bx Q2 d λc=>
 pZ Q2 c λb=>
 gA Q2 b λv=>some (.ret v,s):=(Q5 _ _ _).trans (by kernel_rfl)
theorem Q9E(b:AV)(s:St):cw (.f Q3a) [b] s =
 bx Q2 (.val b) λc=>
 gA Q2 c λg=>
 ca Q3J [g] s λh d=>
 bn Q1 .leq h (iv 256) λa=>
 iT a λw=>
 bind1 (gd w (ofSlots (C.ti Q2) (List.take (C.ti Q2).size c))) λi=>
 iT a λl=>
 cg l Q1u [i] d λj e=>
 pk a j (bv false) λk=>
 some (.ret k,e):=(Q5 _ _ _).trans (by kernel_rfl)
theorem QcC(a:AV)(s:St):cw (.f Q2U) [a] s =
 bx Q2 (.val a) λb=>
 bx Q1 (iv 256) λc=>
 sto (St.addLoc s (.var (List.map .val (C.ti Q1).zero))) (.val (.vp s.locs.length 0)) c λe=>
 gA Q2 b λi=>
 ca Q10 [i,(.val (.vp s.locs.length 0))] e λj d=>
 nt j λk=>
 condS k (
 some (.ret (sv []),d)) (
 gA Q2 b λl=>
 ca ZJ [l,(iv 0)] d λm g=>
 ca Q2V [m] g λn h=>
 some (.ret n,h)):=(Q5 _ _ _).trans (by kernel_rfl)
theorem Q7W(a:AV)(b:AV)(s:St):cw (.f Q1d) [a,b] s =
 fa 0 (.val b) λF=>
 ld Q1 s F λG=>
 bn Q1 .lss (.val a) G λH=>
 condS H (
 ca ZF [(.val a)] s λI i=>
 bx Q2 I λc=>
 pZ Q2 c λe=>
 gA Q2 e λv=>some (.ret v,i)) (
 fa 0 (.val b) λn=>
 bind1 (ldV (C.ti Q1) true s n) λo=>
 bn Q1 .sub (.val a) o λp=>
 bn Q1 .rem p (iv 26) λq=>
 cn ZF [q] s λr j=>
 cn Q2U [r] j λt k=>
 cn Q0M [t,(sv [39])] k λu d=>
 bn Q0 .add (sv [95]) u λw=>
 fa 0 (.val b) λx=>
 bind1 (ldV (C.ti Q1) true d x) λy=>
 bn Q1 .sub (.val a) y λz=>
 bn Q1 .quo z (iv 26) λA=>
 cn Q3d [A] d λB l=>
 bn Q0 .add w B λD=>
 cn Q6P [D,(.val (.nils))] l λE m=>
 bx Q2 E λh=>
 pZ Q2 h λg=>
 gA Q2 g λv=>some (.ret v,m)):=(Q5 _ _ _).trans (by kernel_rfl)
noncomputable def Q3Z:List Slot->List Slot->Slot->Slot->Slot->St->Res:=λd e a b c s=>lpD Q6P [.seqR,.seqR,.seqL,.seqR,.block] Tryz.f40 [(4,.var d),(5,.var e),(10,.s a),(11,.s b),(12,.s c)] s
theorem Q7t:∀ f c d e b a,Q3Z f c d e b a =
 bn Q1 .lss b e λo=>
 condS o (
 ix Q2 d b λp=>
 ld Q2 a p λq=>
 bx Q2 q λj=>
 pZ Q2 j λi=>
 gC Q8 3 c λr=>
 gA Q2 i λt=>
 cn Q2I [t] a λu m=>
 bs Q2 [u] λw=>
 ap Q2 m r w λx n=>
 bx Q8 x λk=>
 pt c 3 k λh=>
 nx b λy=>
 Q3Z f h d e y n) (
 gA Q2 c λz=>
 bx Q2 z λl=>
 pt f 0 l λg=>
 gA Q2 g λv=>some (.ret v,a)):=by intros;unfold Q3Z;exact (Qj _ _ _ _ _ _).trans (by kernel_rfl)
theorem Qhy(b:AV)(a:AV)(s:St):cw (.f Q6P) [b,a] s =
 bd Q2 [(0,Qa,(iv 2)),(2,Q0,(.val b))] λg=>
 bx Q2 g λc=>
 pZ Q2 c λd=>
 ln Q8 (.val a) λe=>
 Q3Z ((List.map .val (C.ti Q2).zero)) d (.val a) e (iv 0) s:=(Q5 _ _ _).trans (by kernel_rfl)
theorem Q4Z(a:AV)(b:AV)(s:St):cw (.f Q0M) [a,b] s =
 ca Z0 [(.val a),(.val b)] s λd c=>
 some (.ret d,c):=(Q5 _ _ _).trans (by kernel_rfl)
theorem Q9M(a:AV)(s:St):cw (.f Q3d) [a] s =
 bn Q1 .eql (.val a) (iv 0) λc=>
 condS c (
 some (.ret (sv []),s)) (
 ca Q3v [(.val a)] s λd b=>
 some (.ret d,b)):=(Q5 _ _ _).trans (by kernel_rfl)
theorem Zc(a:AV)(b:AV)(s:St):cw (.f Qn) [a,b] s =
 ca QK [(.val a),(.val b)] s λd c=>
 bn Q1 .geq d (iv 0) λe=>
 some (.ret e,c):=(Q5 _ _ _).trans (by kernel_rfl)
theorem Q7S(a:AV)(s:St):cw (.f Zs) [a] s =
 bx Q2 (.val a) λb=>
 gA Q2 b λd=>
 ca Q2p [d] s λe c=>
 nt e λg=>
 some (.ret g,c):=(Q5 _ _ _).trans (by kernel_rfl)
theorem Qge(a:AV)(b:AV)(s:St):cw (.f Q7z) [a,b] s =
 bx Q2 (.val a) λd=>
 bx Q8 (.val b) λe=>
 bindA (avs e) λl3=>
 gA Q2 d λi=>
 bind1 (fnS Q57 [(.val (.cp l3))]) λj=>
 ca Q11 [i,j] s λk h=>
 bx Q2 k λc=>
 pZ Q2 c λg=>
 gA Q2 g λv=>some (.ret v,h):=(Q5 _ _ _).trans (by kernel_rfl)
noncomputable def Q2D:Slot->Slot->Slot->Slot->St->Res:=λa b c d s=>lpD Q22 [.seqR,.seqR,.seqL,.seqR,.block] Tryz.f47 [(3,.s a),(7,.s b),(8,.s c),(9,.s d)] s
theorem Q5I:∀ d e f b a,Q2D d e f b a =
 bn Q1 .lss b f λi=>
 condS i (
 ix Q2 e b λj=>
 ld Q2 a j λk=>
 bx Q2 k λc=>
 pZ Q2 c λg=>
 gA Q2 g λl=>
 ca Q22 [l] a λm h=>
 bn Q1 .add d m λn=>
 nx b λo=>
 Q2D n e f o h) (
 some (.ret d,a)):=by intros;unfold Q2D;exact (Qj _ _ _ _ _ _).trans (by kernel_rfl)
theorem QeW(a:AV)(s:St):cw (.f Q22) [a] s =
 bx Q2 (.val a) λc=>
 gC Q8 3 c λb=>
 ln Q8 b λd=>
 Q2D (iv 1) b d (iv 0) s:=(Q5 _ _ _).trans (by kernel_rfl)
noncomputable def Q0c:List Slot->List Slot->Slot->St->Res:=λa b c s=>lpD Q0r [.seqR,.seqR,.seqL,.seqR,.block] Tryz.f50 [(2,.var a),(3,.var b),(5,.s c)] s
theorem Q30:∀ c d b a,Q0c c d b a =
 gC Q8 3 c λf=>
 ln Q8 f λg=>
 bn Q1 .lss b g λh=>
 condS h (
 gC Q8 3 c λj=>
 ix Q2 j b λk=>
 ld Q2 a k λl=>
 gC Q8 3 d λm=>
 ix Q2 m b λn=>
 ld Q2 a n λo=>
 cn Q0r [l,o] a λp e=>
 nt p λq=>
 condS q (
 some (.ret (bv false),e)) (
 nx b λi=>
 Q0c c d i e)) (
 some (.ret (bv true),a)):=by intros;unfold Q0c;exact (Qj _ _ _ _ _ _).trans (by kernel_rfl)
theorem Q8L(g:AV)(h:AV)(s:St):cw (.f Q0r) [g,h] s =
 bx Q2 (.val g) λd=>
 bx Q2 (.val h) λe=>
 gC Qa 0 d λv=>
 gC Qa 0 e λx=>
 bn Qa .neq v x λb=>
 iF b λw=>
 iF b λy=>
 gG y w Q1 1 d λi=>
 iF b λH=>
 iF b λI=>
 gG I H Q1 1 e λj=>
 iF b λJ=>
 gB J Q1 .neq i j λk=>
 pk b (bv true) k λc=>
 iF c λL=>
 iF c λM=>
 gG M L Q0 2 d λl=>
 iF c λN=>
 iF c λO=>
 gG O N Q0 2 e λm=>
 iF c λP=>
 gB P Q0 .neq l m λn=>
 pk c (bv true) n λa=>
 iF a λz=>
 iF a λA=>
 gG A z Q8 3 d λo=>
 iF a λB=>
 gL B Q8 o λp=>
 iF a λD=>
 iF a λE=>
 gG E D Q8 3 e λq=>
 iF a λF=>
 gL F Q8 q λr=>
 iF a λG=>
 gB G Q1 .neq p r λt=>
 pk a (bv true) t λu=>
 condS u (
 some (.ret (bv false),s)) (
 Q0c d e (iv 0) s):=(Q5 _ _ _).trans (by kernel_rfl)
theorem QeV(g:AV)(h:AV)(s:St):cw (.f Q21) [g,h] s =
 bx Q2 (.val g) λd=>
 bx Q2 (.val h) λe=>
 gC Qa 0 d λu=>
 gC Qa 0 e λv=>
 bn Qa .eql u v λc=>
 iT c λw=>
 iT c λx=>
 gG x w Q1 1 d λj=>
 iT c λE=>
 iT c λF=>
 gG F E Q1 1 e λk=>
 iT c λG=>
 gB G Q1 .eql j k λl=>
 pk c l (bv false) λa=>
 iT a λH=>
 iT a λI=>
 gG I H Q0 2 d λm=>
 iT a λJ=>
 iT a λL=>
 gG L J Q0 2 e λn=>
 iT a λM=>
 gB M Q0 .eql m n λo=>
 pk a o (bv false) λb=>
 iT b λy=>
 iT b λz=>
 gG z y Q8 3 d λp=>
 iT b λA=>
 iT b λB=>
 gG B A Q8 3 e λq=>
 iT b λD=>
 cg D QM [p,q,(.val (.fn Q21 []))] s λr i=>
 pk b r (bv false) λt=>
 some (.ret t,i):=(Q5 _ _ _).trans (by kernel_rfl)
noncomputable def Q0e:Slot->List Slot->List Slot->St->Res:=λa b c s=>pwD Zg [.seqR,.seqL,.seqR,.thn,.seqR] Tryz.f52 [(0,.s a),(4,.var b),(5,.var c)] s
noncomputable def Q0f:Slot->List Slot->List Slot->Slot->Slot->St->Res:=λa d e b c s=>lpD Zg [.seqR,.seqR,.seqR,.seqR,.seqL,.seqR,.block] Tryz.f52 [(0,.s a),(4,.var d),(5,.var e),(113,.s b),(114,.s c)] s
theorem Q6t:∀ b c d a,Q0e b c d a =
 bind1 (nilCheckV b) λf=>
 fa 11 f λg=>
 ld Q8 a g λh=>
 gC Q1 1 c λi=>
 ix Q2 h i λj=>
 ld Q2 a j λk=>
 gA Q2 d λl=>
 cn Q2e [k,l] a λm e=>
 some (.ret m,e):=by intros;unfold Q0e;exact (Q0b _).trans (by kernel_rfl)
theorem Q33:∀ c e f d b a,Q0f c e f d b a =
 bn Q1 .lss b d λh=>
 condS h (
 gC Q8 3 e λi=>
 ix Q2 i b λj=>
 ld Q2 a j λk=>
 gC Q8 3 f λl=>
 ix Q2 l b λm=>
 ld Q2 a m λn=>
 cn Zg [c,k,n] a λo g=>
 nt o λp=>
 condS p (
 some (.ret (bv false),g)) (
 nx b λq=>
 Q0f c e f d q g)) (
 some (.ret (bv true),a)):=by intros;unfold Q0f;exact (Qj _ _ _ _ _ _).trans (by kernel_rfl)
theorem Q8S(d:AV)(k:AV)(l:AV)(s:St):cw (.f Zg) [d,k,l] s =
 bx Q2 (.val k) λb=>
 bx Q2 (.val l) λe=>
 gC Qa 0 b λe2=>
 bn Qa .eql e2 (iv 1) λg=>
 iT g λw=>
 iT g λe7=>
 gG e7 w Q1 1 b λA=>
 iT g λf8=>
 iT g λg9=>
 bind1 (gd g9 (nilCheckV (gdV f8 (.val d)))) λB=>
 iT g λi0=>
 bind1 (gd i0 (faV 0 B)) λD=>
 iT g λi6=>
 bind1 (gd i6 (faV 0 D)) λE=>
 iT g λi7=>
 bind1 (gd i7 (ldV (C.ti Q1) false s E)) λF=>
 iT g λi8=>
 gB i8 Q1 .lss A F λG=>
 pk g G (bv false) λH=>
 condS H (
 bind1 (nilCheckV (.val d)) λI=>
 fa 10 I λJ=>
 ld ZA s J λL=>
 gC Q1 1 b λM=>
 ix Qd L M λN=>
 ld Qd s N λO=>
 nt O λP=>
 condS P (
 bind1 (nilCheckV (.val d)) λR=>
 fa 10 R λU=>
 ld ZA s U λV=>
 gC Q1 1 b λW=>
 ix Qd V W λY=>
 bx Qd (bv true) λc=>
 sto s Y c λm=>
 bind1 (nilCheckV (.val d)) λa3=>
 fa 11 a3 λa4=>
 ld Q8 m a4 λa5=>
 gC Q1 1 b λa6=>
 gA Q2 e λa7=>
 ix Q2 a5 a6 λa8=>
 bx Q2 a7 λn=>
 sto m a8 n λo=>
 Q0e (.val d) b e o) (
 Q0e (.val d) b e s)) (
 gC Qa 0 b λa9=>
 bn Qa .eql a9 (iv 1) λb0=>
 condS b0 (
 gC Qa 0 e λb1=>
 bn Qa .eql b1 (iv 1) λh=>
 iT h λi9=>
 iT h λj0=>
 gG j0 i9 Q1 1 e λb2=>
 iT h λe8=>
 iT h λe9=>
 bind1 (gd e9 (nilCheckV (gdV e8 (.val d)))) λb3=>
 iT h λf0=>
 bind1 (gd f0 (faV 5 b3)) λb4=>
 iT h λf1=>
 bind1 (gd f1 (faV 0 b4)) λb5=>
 iT h λf2=>
 bind1 (gd f2 (ldV (C.ti Q1) false s b5)) λb6=>
 iT h λf3=>
 gB f3 Q1 .geq b2 b6 λb7=>
 pk h b7 (bv false) λa=>
 iT a λf4=>
 iT a λf5=>
 gG f5 f4 Q1 1 e λb8=>
 iT a λf6=>
 iT a λf7=>
 bind1 (gd f7 (nilCheckV (gdV f6 (.val d)))) λb9=>
 iT a λf9=>
 bind1 (gd f9 (faV 5 b9)) λd0=>
 iT a λg0=>
 bind1 (gd g0 (faV 0 d0)) λd1=>
 iT a λg1=>
 bind1 (gd g1 (ldV (C.ti Q1) false s d1)) λd2=>
 iT a λg2=>
 gB g2 Q1 .sub b8 d2 λd3=>
 iT a λg3=>
 iT a λg4=>
 gG g4 g3 Q1 1 b λd4=>
 iT a λg5=>
 iT a λg6=>
 bind1 (gd g6 (nilCheckV (gdV g5 (.val d)))) λd5=>
 iT a λg7=>
 bind1 (gd g7 (faV 0 d5)) λd6=>
 iT a λg8=>
 bind1 (gd g8 (faV 0 d6)) λd7=>
 iT a λh0=>
 bind1 (gd h0 (ldV (C.ti Q1) false s d7)) λd8=>
 iT a λh1=>
 gB h1 Q1 .sub d4 d8 λd9=>
 iT a λh2=>
 gB h2 Q1 .eql d3 d9 λe0=>
 pk a e0 (bv false) λe1=>
 some (.ret e1,s)) (
 gC Qa 0 e λe3=>
 gC Qa 0 b λe4=>
 bn Qa .neq e3 e4 λj=>
 iF j λh3=>
 iF j λh4=>
 gG h4 h3 Q0 2 e λe5=>
 iF j λh5=>
 iF j λh6=>
 gG h6 h5 Q0 2 b λe6=>
 iF j λh7=>
 gB h7 Q0 .neq e5 e6 λp=>
 pk j (bv true) p λi=>
 iF i λh8=>
 iF i λh9=>
 gG h9 h8 Q8 3 e λq=>
 iF i λi1=>
 gL i1 Q8 q λr=>
 iF i λi2=>
 iF i λi3=>
 gG i3 i2 Q8 3 b λt=>
 iF i λi4=>
 gL i4 Q8 t λu=>
 iF i λi5=>
 gB i5 Q1 .neq r u λv=>
 pk i (bv true) v λx=>
 condS x (
 some (.ret (bv false),s)) (
 gC Q8 3 b λy=>
 ln Q8 y λz=>
 Q0f (.val d) b e z (iv 0) s))):=(Q5 _ _ _).trans (by kernel_rfl)
noncomputable def Q0C:Slot->Slot->List Slot->Slot->Slot->St->Res:=λa b e c d s=>lpD Q0T [.seqR,.seqR,.seqR,.seqL,.seqR,.block] Tryz.f53 [(1,.s a),(2,.s b),(3,.var e),(23,.s c),(24,.s d)] s
theorem Q3l:∀ c d f e b a,Q0C c d f e b a =
 bn Q1 .lss b e λi=>
 condS i (
 gC Q8 3 f λj=>
 ix Q2 j b λk=>
 ld Q2 a k λl=>
 nx d λm=>
 ca Q0T [l,c,m] a λh g=>
 bn Q1 .lss h (iv 0) λn=>
 condS n (
 some (.ret (iv (-1)),g)) (
 nx b λo=>
 Q0C h d f e o g)) (
 some (.ret c,a)):=by intros;unfold Q0C;exact (Qj _ _ _ _ _ _).trans (by kernel_rfl)
theorem Q9D(d:AV)(e:AV)(a:AV)(s:St):cw (.f Q0T) [d,e,a] s =
 bx Q2 (.val d) λb=>
 bn Q1 .sub (.val e) (iv 1) λo=>
 gC Q0 2 b λh=>
 ln Q0 h λi=>
 bn Q1 .quo i (iv 100) λj=>
 bn Q1 .sub o j λg=>
 bn Q1 .lss g (iv 0) λc=>
 iF c λw=>
 iF c λp=>
 gB p Q1 .gtr (gdV w (.val a)) (iv 130) λk=>
 pk c (bv true) k λl=>
 condS l (
 some (.ret (iv (-1)),s)) (
 gC Q8 3 b λm=>
 ln Q8 m λn=>
 Q0C g (.val a) b n (iv 0) s):=(Q5 _ _ _).trans (by kernel_rfl)
theorem Qbl(e:AV)(b:AV)(g:AV)(s:St):cw (.f Q2q) [e,b,g] s =
 bx Q2 (.val e) λh=>
 ld Q1 s (.val b) λt=>
 bn Q1 .sub t (iv 1) λu=>
 bx Q1 u λc=>
 sto s (.val b) c λi=>
 ld Q1 i (.val b) λv=>
 bn Q1 .geq v (iv 0) λd=>
 iT d λw=>
 bind1 (gd w (ofSlots (C.ti Q2) (List.take (C.ti Q2).size h))) λl=>
 iT d λx=>
 cg x Q5R [l] i λm j=>
 pk d m (bv false) λa=>
 iT a λy=>
 iT a λz=>
 gG z y Q8 3 h λn=>
 iT a λA=>
 bind1 (gd A (fnS ZV [(.val g)])) λo=>
 iT a λB=>
 cg B Qn [n,o] j λp k=>
 iT a λD=>
 gN D p λq=>
 pk a q (bv false) λr=>
 some (.ret r,k):=(Q5 _ _ _).trans (by kernel_rfl)
theorem QeY(m:AV)(s:St):cw (.f Q5R) [m] s =
 bx Q2 (.val m) λa=>
 gC Q8 3 a λL=>
 ln Q8 L λl=>
 gC Qa 0 a λn=>
 bn Qa .eql n (iv 1) λq=>
 condS q (
 gC Q1 1 a λr=>
 bn Q1 .geq r (iv 0) λb=>
 iT b λw=>
 iT b λM=>
 gG M w Q0 2 a λt=>
 iT b λV=>
 gB V Q0 .eql t (sv []) λu=>
 pk b u (bv false) λj=>
 iT j λW=>
 iT j λY=>
 gB Y Q1 .eql (gdV W l) (iv 0) λv=>
 pk j v (bv false) λx=>
 some (.ret x,s)) (
 bn Qa .eql n (iv 2) λy=>
 condS y (
 gC Q0 2 a λz=>
 ca Q3w [z] s λk o=>
 ex k 0 λA=>
 ex k 1 λB=>
 ex k 2 λc=>
 gC Q1 1 a λD=>
 bn Q1 .eql D (iv 0) λd=>
 iT d λa1=>
 iT d λa2=>
 iT d λa3=>
 gB a3 Q1 .geq (gdV a1 l) (gdV a2 A) λE=>
 pk d E (bv false) λe=>
 iT e λa4=>
 iT e λa5=>
 iT e λN=>
 gB N Q1 .leq (gdV a4 l) (gdV a5 B) λF=>
 pk e F (bv false) λg=>
 iT g λh=>
 iT g λi=>
 bindB (Slot.isB (gdV i (gdV h c)) false) λO=>
 bindB (Slot.isB (gdV i (gdV h c)) false) λP=>
 gG P O Q0 2 a λG=>
 bindB (Slot.isB (gdV i (gdV h c)) false) λR=>
 cg R Q7A [G] o λH p=>
 iT g λU=>
 bind1 (gd U (pickS (gdV i (gdV h c)) (bv true) H)) λI=>
 pk g I (bv false) λJ=>
 some (.ret J,p)) (
 some (.ret (bv false),s))):=(Q5 _ _ _).trans (by kernel_rfl)
theorem Q99(a:AV)(b:AV)(s:St):cw (.f ZV) [a,b] s =
 bx Q2 (.val a) λc=>
 ld Qo s (.val b) λe=>
 gA Q2 c λg=>
 back (cal cw true (tgtV e [g]) s) λh d=>
 nt h λi=>
 some (.ret i,d):=(Q5 _ _ _).trans (by kernel_rfl)
theorem Qdw(b:AV)(s:St):cw (.f Q56) [b] s =
 bx Q2 (.val b) λe=>
 bx Qm (.val (.mp s.locs.length)) λc=>
 sto (St.addLoc (St.addLoc s (.map [] 0)) (.var (List.map .val (C.ti Qm).zero))) (.val (.vp (St.addLoc s (.map [] 0)).locs.length 0)) c λa=>
 gA Q2 e λn=>
 bind1 (fnS Q3M [(.val (.vp (St.addLoc s (.map [] 0)).locs.length 0)),(.val (.vp a.locs.length 0))]) λo=>
 ca Q11 [n,o] (St.addLoc a (.var (List.map .val (C.ti ZW).zero))) λk d=>
 bx Q2 k λi=>
 pZ Q2 i λh=>
 gA Q2 h λl=>
 ld ZW d (.val (.vp a.locs.length 0)) λm=>
 bx Q2 l λj=>
 pZ Q2 j λg=>
 rt [(ofSlots (C.ti Q2) (List.take (C.ti Q2).size g)),(some m)] d:=(Q5 _ _ _).trans (by kernel_rfl)
noncomputable def QT:Slot->Slot->Slot->Slot->St->Res:=λa b c d s=>lpD Zd [.seqR,.seqL,.seqR,.block] Tryz.f58 [(0,.s a),(1,.s b),(7,.s c),(8,.s d)] s
theorem Q0I:∀ c d e b a,QT c d e b a =
 bn Q1 .lss b e λj=>
 condS j (
 ix Q1 c b λf=>
 ld Q1 a f λg=>
 bn Q1 .eql d g λh=>
 condS h (
 some (.ret b,a)) (
 nx b λi=>
 QT c d e i a)) (
 some (.ret (iv (-1)),a)):=by intros;unfold QT;exact (Qj _ _ _ _ _ _).trans (by kernel_rfl)
theorem Q3Y(a:AV)(b:AV)(s:St):cw (.f Zd) [a,b] s =
 ln ZW (.val a) λc=>
 QT (.val a) (.val b) c (iv 0) s:=(Q5 _ _ _).trans (by kernel_rfl)
noncomputable def Ze:Slot->List Slot->List Slot->Slot->Slot->Slot->St->Res:=λa e f b c d s=>lpD Zm [.seqR,.seqR,.seqR,.seqL,.seqR,.block] Tryz.f59 [(2,.s a),(4,.var e),(5,.var f),(23,.s b),(24,.s c),(25,.s d)] s
theorem Q1K:∀ d g c e f b a,Ze d g c e f b a =
 bn Q1 .lss b f λp=>
 condS p (
 ix Q2 e b λq=>
 ld Q2 a q λr=>
 bx Q2 r λk=>
 pZ Q2 k λj=>
 gC Q8 3 c λt=>
 ld Qk a d λu=>
 gA Q2 j λw=>
 back (noPan (cal cw true (tgtV u [w]) a)) λx n=>
 bs Q2 [x] λy=>
 ap Q2 n t y λz o=>
 bx Q8 z λl=>
 pt c 3 l λi=>
 nx b λA=>
 Ze d g i e f A o) (
 gA Q2 c λB=>
 bx Q2 B λm=>
 pt g 0 m λh=>
 gA Q2 h λv=>some (.ret v,a)):=by intros;unfold Ze;exact (Qj _ _ _ _ _ _).trans (by kernel_rfl)
theorem Q5L(b:AV)(d:AV)(e:AV)(s:St):cw (.f Zm) [b,d,e] s =
 bx Q2 (.val b) λa=>
 gC Qa 0 a λw=>
 bn Qa .eql w (iv 1) λl=>
 condS l (
 ld QN s (.val d) λm=>
 gC Q1 1 a λn=>
 back (cal cw true (tgtV m [n]) s) λo k=>
 bx Q2 o λc=>
 pZ Q2 c λh=>
 gA Q2 h λv=>some (.ret v,k)) (
 gC Qa 0 a λp=>
 gC Q1 1 a λq=>
 gC Q0 2 a λr=>
 bd Q2 [(0,Qa,p),(1,Q1,q),(2,Q0,r)] λt=>
 bx Q2 t λj=>
 pZ Q2 j λi=>
 gC Q8 3 a λg=>
 ln Q8 g λu=>
 Ze (.val e) ((List.map .val (C.ti Q2).zero)) i g u (iv 0) s):=(Q5 _ _ _).trans (by kernel_rfl)
theorem Qb2(a:AV)(s:St):cw (.f Q3J) [a] s =
 bx Q2 (.val a) λb=>
 gA Q2 b λd=>
 ca Zl [d,(iv 0)] s λe c=>
 ln Zi e λg=>
 some (.ret g,c):=(Q5 _ _ _).trans (by kernel_rfl)
noncomputable def Q0d:Slot->Slot->St->Res:=λa b s=>lpD Q1u [.seqR,.seqR,.seqL,.seqR,.block] Tryz.f61 [(3,.s a),(4,.s b)] s
theorem Q32:∀ b c a,Q0d b c a =
 ln Zi b λl=>
 bn Q1 .lss c l λe=>
 condS e (
 ix Qz b c λg=>
 fa 22 g λh=>
 ld Q2 a h λi=>
 ca Q3K [i] a λj d=>
 nt j λk=>
 condS k (
 some (.ret (bv false),d)) (
 nx c λf=>
 Q0d b f d)) (
 some (.ret (bv true),a)):=by intros;unfold Q0d;exact (Qj _ _ _ _ _ _).trans (by kernel_rfl)
theorem Q8P(a:AV)(s:St):cw (.f Q1u) [a] s =
 bx Q2 (.val a) λb=>
 gA Q2 b λd=>
 ca Zl [d,(iv 0)] s λe c=>
 Q0d e (iv 0) c:=(Q5 _ _ _).trans (by kernel_rfl)
noncomputable def Q0Y:Slot->List Slot->Slot->Slot->St->Res:=λa b c d s=>lpD Zl [.seqR,.seqR,.seqL,.seqR,.block] Tryz.f62 [(1,.s a),(2,.var b),(5,.s c),(6,.s d)] s
theorem Q3U:∀ d b e c a,Q0Y d b e c a =
 gC Q8 3 b λh=>
 ln Q8 h λi=>
 bn Q1 .lss c i λj=>
 condS j (
 gC Q8 3 b λl=>
 ix Q2 l c λm=>
 ld Q2 a m λn=>
 ca Zl [n,d] a λo f=>
 ap Qz f e o λp g=>
 nx c λk=>
 Q0Y d b p k g) (
 some (.ret e,a)):=by intros;unfold Q0Y;exact (Qj _ _ _ _ _ _).trans (by kernel_rfl)
theorem QaZ(b:AV)(a:AV)(s:St):cw (.f Zl) [b,a] s =
 bx Q2 (.val b) λc=>
 gA Q2 c λe=>
 bd Qz [(0,Q1,(iv 4)),(22,Q2,e),(2,Q1,(.val a))] λg=>
 bs Qz [g] λd=>
 Q0Y (.val a) c d (iv 0) s:=(Q5 _ _ _).trans (by kernel_rfl)
noncomputable def Z4:List Slot->Slot->Slot->St->Res:=λa b c s=>pwD Q10 [.seqR,.seqR,.seqR,.seqR,.seqR,.seqR] Tryz.f64 [(2,.var a),(3,.s b),(6,.s c)] s
noncomputable def Zp:List Slot->Slot->Slot->Slot->Slot->St->Res:=λa b c d e s=>pwD Q10 [.seqR,.seqR,.seqR,.seqR,.seqR,.seqL,.seqR,.block,.seqR] Tryz.f64 [(2,.var a),(3,.s b),(5,.s c),(52,.s d),(87,.s e)] s
theorem Q8Y:∀ c d a b,Z4 c d a b =
 iT a λk=>
 iT a λl=>
 gG l k Q8 3 c λf=>
 iT a λm=>
 bind1 (gd m (fnS Q01 [d])) λg=>
 iT a λn=>
 cg n Qn [f,g] b λh e=>
 iT a λo=>
 gN o h λi=>
 pk a i (bv false) λj=>
 some (.ret j,e):=by intros;unfold Z4;exact (Q0b _).trans (by kernel_rfl)
theorem Q8X:∀ b f c h n d,Zp b f c h n d =
 condS n (
 bn Q1 .eql c (iv 0) λN=>
 Z4 b f N d) (
 bn Q0 .eql h (sv [114,101,102]) λO=>
 condS O (
 bn Q1 .eql c (iv 1) λP=>
 Z4 b f P d) (
 bn Q0 .eql h (sv [45,62]) λR=>
 condS R (
 bn Q1 .eql c (iv 2) λq=>
 Z4 b f q d) (
 bn Q0 .eql h (sv [42]) λr=>
 condS r (
 bn Q1 .geq c (iv 2) λj=>
 iT j λU=>
 iT j λV=>
 gB V Q1 .leq (gdV U c) (iv 8) λt=>
 pk j t (bv false) λu=>
 Z4 b f u d) (
 gC Q0 2 b λv=>
 ca Q2a [v] d λm i=>
 ex m 0 λk=>
 ex m 1 λw=>
 bx Qc w λp=>
 pZ Qc p λo=>
 gC QE 0 o λx=>
 bn QE .eql x (iv 0) λg=>
 iT g λW=>
 iT g λY=>
 gL Y Q1z (gdV W k) λy=>
 iT g λa0=>
 gB a0 Q1 .eql y (iv 1) λz=>
 pk g z (bv false) λe=>
 iT e λa1=>
 iT e λa2=>
 bind1 (gd a2 (ixS (C.ti Qg).size (gdV a1 k) (iv 0))) λA=>
 iT e λa3=>
 bind1 (gd a3 (faV 0 A)) λB=>
 iT e λa4=>
 bind1 (gd a4 (ldV (C.ti Zo) false i B)) λD=>
 iT e λa5=>
 gB a5 Zo .eql D (iv 2) λE=>
 pk e E (bv false) λa=>
 iT a λa6=>
 iT a λa7=>
 bind1 (gd a7 (ixS (C.ti Qg).size (gdV a6 k) (iv 0))) λF=>
 iT a λa8=>
 bind1 (gd a8 (faV 2 F)) λG=>
 iT a λa9=>
 bind1 (gd a9 (ldV (C.ti Q0) false i G)) λH=>
 iT a λb0=>
 iT a λb1=>
 gG b1 b0 Q0 2 b λI=>
 iT a λb2=>
 gB b2 Q0 .eql H I λJ=>
 pk a J (bv false) λl=>
 iT l λb3=>
 iT l λb4=>
 gB b4 Q1 .leq (gdV b3 c) (iv 8) λL=>
 pk l L (bv false) λM=>
 Z4 b f M i)))):=by intros;unfold Zp;exact (Q0b _).trans (by kernel_rfl)
theorem QcE(k:AV)(l:AV)(s:St):cw (.f Q10) [k,l] s =
 bx Q2 (.val k) λa=>
 bx Q1y (.val l) λq=>
 bindA (avs q) λl3=>
 ld Q1y s (.val (.cp l3)) λo=>
 bind1 (nilCheckV o) λr=>
 ld Q1 s r λt=>
 bn Q1 .sub t (iv 1) λu=>
 bind1 (nilCheckV o) λv=>
 bx Q1 u λc=>
 sto s v c λb=>
 ld Q1y b (.val (.cp l3)) λx=>
 bind1 (nilCheckV x) λy=>
 ld Q1 b y λz=>
 bn Q1 .lss z (iv 0) λA=>
 condS A (
 some (.ret (bv false),b)) (
 gC Q8 3 a λB=>
 ln Q8 B λe=>
 gC Qa 0 a λD=>
 bn Qa .eql D (iv 1) λE=>
 condS E (
 gC Q1 1 a λF=>
 bn Q1 .geq F (iv 0) λg=>
 iT g λw=>
 iT g λV=>
 gG V w Q1 1 a λG=>
 iT g λY=>
 gB Y Q1 .leq G (iv 1000) λH=>
 pk g H (bv false) λh=>
 iT h λa2=>
 iT h λa3=>
 gG a3 a2 Q0 2 a λI=>
 iT h λa4=>
 gB a4 Q0 .eql I (sv []) λJ=>
 pk h J (bv false) λj=>
 iT j λa5=>
 iT j λa6=>
 gB a6 Q1 .eql (gdV a5 e) (iv 0) λL=>
 pk j L (bv false) λM=>
 some (.ret M,b)) (
 gC Qa 0 a λN=>
 bn Qa .neq N (iv 2) λi=>
 iF i λa7=>
 iF i λa8=>
 gG a8 a7 Q1 1 a λO=>
 iF i λW=>
 gB W Q1 .neq O (iv 0) λP=>
 pk i (bv true) P λR=>
 condS R (
 some (.ret (bv false),b)) (
 gC Q0 2 a λd=>
 bn Q0 .eql d (sv [105,110,116]) λm=>
 condS m (
 Zp a (.val (.cp l3)) e d m b) (
 bn Q0 .eql d (sv [98,111,111,108]) λn=>
 condS n (
 Zp a (.val (.cp l3)) e d n b) (
 bn Q0 .eql d (sv [117,110,105,116]) λp=>
 condS p (
 Zp a (.val (.cp l3)) e d p b) (
 bn Q0 .eql d (sv [101,120,110]) λU=>
 Zp a (.val (.cp l3)) e d U b)))))):=(Q5 _ _ _).trans (by kernel_rfl)
noncomputable def Z3:Slot->Slot->Slot->Slot->Slot->St->Res:=λa b c d e s=>lpD Q2V [.seqR,.seqR,.seqL,.seqR,.block] Tryz.f65 [(0,.s a),(3,.s b),(6,.s c),(7,.s d),(8,.s e)] s
theorem Q4l:∀ f b g h c e,Z3 f b g h c e =
 bn Q1 .lss c h λL=>
 condS L (
 ix Q0 g c λr=>
 ld Q0 e r λi=>
 bn Q1 .gtr c (iv 0) λa=>
 iT a λw=>
 bind1 (gd w (bslF (C.ti Q0).size [(sv [40]),(sv [126]),(sv [33])])) λt=>
 iT a λM=>
 back (noPan (cal cw M (tgtV (.val (.fn Q0k [])) [t]) e)) λu j=>
 iT a λU=>
 iT a λV=>
 iT a λW=>
 gB W Q1 .sub (gdV V c) (iv 1) λv=>
 iT a λY=>
 bind1 (gd Y (ixS (C.ti Q0).size (gdV U f) v)) λx=>
 iT a λa0=>
 bind1 (gd a0 (ldV (C.ti Q0) true j x)) λy=>
 iT a λa1=>
 back (noPan (cal cw a1 (tgtV (.val (.fn Qf [])) [u,y]) j)) λz l=>
 iT a λa2=>
 gN a2 z λA=>
 pk a A (bv false) λd=>
 iT d λa3=>
 bind1 (gd a3 (bslF (C.ti Q0).size [(sv [41]),(sv [44]),(sv [59])])) λB=>
 iT d λN=>
 back (noPan (cal cw N (tgtV (.val (.fn Q0k [])) [B]) l)) λD m=>
 iT d λO=>
 iT d λP=>
 back (noPan (cal cw P (tgtV (.val (.fn Qf [])) [D,(gdV O i)]) m)) λE k=>
 iT d λR=>
 gN R E λF=>
 pk d F (bv false) λG=>
 condS G (
 ca Zn [b,(.val (.int .u8 32))] k λa4 n=>
 ca QQ [b,i] n λa5 o=>
 nx c λH=>
 Z3 f b g h H o) (
 ca QQ [b,i] k λa6 p=>
 nx c λI=>
 Z3 f b g h I p)) (
 ca ZX [b] e λJ q=>
 some (.ret J,q)):=by intros;unfold Z3;exact (Qj _ _ _ _ _ _).trans (by kernel_rfl)
theorem QcD(a:AV)(s:St):cw (.f Q2V) [a] s =
 ln Qu (.val a) λb=>
 Z3 (.val a) (.val (.vp s.locs.length 0)) (.val a) b (iv 0) (St.addLocT s (.var (List.map .val (C.ti QX).zero)) QX):=(Q5 _ _ _).trans (by kernel_rfl)
noncomputable def Q1M:Slot->Slot->Slot->St->Res:=λa b c s=>pwD ZJ [.seqR,.seqR,.seqR,.seqR] Tryz.f66 [(1,.s a),(5,.s b),(6,.s c)] s
theorem Q9P:∀ c d b a,Q1M c d b a =
 bn Q1 .lss d c λf=>
 condS f (
 ca Q45 [b] a λg e=>
 some (.ret g,e)) (
 some (.ret b,a)):=by intros;unfold Q1M;exact (Q0b _).trans (by kernel_rfl)
theorem Qdq(c:AV)(a:AV)(s:St):cw (.f ZJ) [c,a] s =
 bx Q2 (.val c) λg=>
 bindA (avs g) λl2=>
 fa 0 (.val (.cp l2)) λE=>
 ld Qa s E λF=>
 bn Qa .eql F (iv 1) λG=>
 condS G (
 fa 1 (.val (.cp l2)) λH=>
 ld Q1 s H λI=>
 ca Q2f [I] s λJ h=>
 bs Q0 [J] λL=>
 ca Q0k [L] h λM o=>
 some (.ret M,o)) (
 fa 2 (.val (.cp l2)) λN=>
 ld Q0 s N λO=>
 bn Q0 .eql O (sv [45,62]) λP=>
 condS P (
 fa 3 (.val (.cp l2)) λR=>
 bind1 (ldV (C.ti Q8) true s R) λU=>
 ix Q2 U (iv 0) λV=>
 bind1 (ldV (C.ti Q2) true s V) λW=>
 cn ZJ [W,(iv 1)] s λY p=>
 bs Q0 [(sv [45,62])] λa2=>
 cn Q0k [a2] p λa3 b=>
 fa 3 (.val (.cp l2)) λa4=>
 bind1 (ldV (C.ti Q8) true b a4) λa5=>
 ix Q2 a5 (iv 1) λa6=>
 bind1 (ldV (C.ti Q2) true b a6) λa7=>
 cn ZJ [a7,(iv 0)] b λa8 q=>
 bs Qu [Y,a3,a8] λa9=>
 cn Q05 [a9] q λb0 r=>
 Q1M (.val a) (iv 0) b0 r) (
 fa 2 (.val (.cp l2)) λb1=>
 ld Q0 s b1 λb2=>
 bn Q0 .eql b2 (sv [42]) λb3=>
 condS b3 (
 fa 3 (.val (.cp l2)) λb4=>
 ld Q8 s b4 λb5=>
 ln Q8 b5 λb6=>
 bind1 (fnS Q1g [(.val (.cp l2))]) λb7=>
 ca Q0t [(sv [42]),b6,b7] s λb8 t=>
 Q1M (.val a) (iv 1) b8 t) (
 fa 3 (.val (.cp l2)) λb9=>
 ld Q8 s b9 λd0=>
 ln Q8 d0 λd1=>
 bn Q1 .eql d1 (iv 0) λd2=>
 condS d2 (
 fa 2 (.val (.cp l2)) λd3=>
 ld Q0 s d3 λd4=>
 bs Q0 [d4] λd5=>
 ca Q0k [d5] s λd6 i=>
 some (.ret d6,i)) (
 fa 3 (.val (.cp l2)) λd7=>
 ld Q8 s d7 λd8=>
 ln Q8 d8 λd9=>
 bn Q1 .eql d9 (iv 1) λe0=>
 condS e0 (
 fa 3 (.val (.cp l2)) λe1=>
 bind1 (ldV (C.ti Q8) true s e1) λe3=>
 ix Q2 e3 (iv 0) λe4=>
 bind1 (ldV (C.ti Q2) true s e4) λe5=>
 cn ZJ [e5,(iv 2)] s λe6 d=>
 fa 2 (.val (.cp l2)) λe7=>
 bind1 (ldV (C.ti Q0) true d e7) λe8=>
 bs Q0 [e8] λe9=>
 cn Q0k [e9] d λf0 j=>
 bs Qu [e6,f0] λf1=>
 cn Q05 [f1] j λf2 k=>
 some (.ret f2,k)) (
 fa 3 (.val (.cp l2)) λe2=>
 bind1 (ldV (C.ti Q8) true s e2) λf3=>
 ln Q8 f3 λf4=>
 bind1 (fnS Q1h [(.val (.cp l2))]) λu=>
 cn Q0t [(sv [44]),f4,u] s λv l=>
 cn Q45 [v] l λw e=>
 fa 2 (.val (.cp l2)) λx=>
 bind1 (ldV (C.ti Q0) true e x) λy=>
 bs Q0 [y] λz=>
 cn Q0k [z] e λA m=>
 bs Qu [w,A] λB=>
 cn Q05 [B] m λD n=>
 some (.ret D,n)))))):=(Q5 _ _ _).trans (by kernel_rfl)
noncomputable def Q38:List Slot->List Slot->Slot->Slot->Slot->St->Res:=λc d e a b s=>lpD Q2I [.seqR,.seqR,.seqR,.seqL,.seqR,.block] Tryz.f67 [(2,.var c),(3,.var d),(9,.s e),(10,.s a),(11,.s b)] s
theorem Q6M:∀ e c f d b a,Q38 e c f d b a =
 bn Q1 .lss b d λo=>
 condS o (
 ix Q2 f b λp=>
 ld Q2 a p λq=>
 bx Q2 q λj=>
 pZ Q2 j λi=>
 gC Q8 3 c λr=>
 gA Q2 i λt=>
 cn Q2I [t] a λu m=>
 bs Q2 [u] λw=>
 ap Q2 m r w λx n=>
 bx Q8 x λk=>
 pt c 3 k λh=>
 nx b λy=>
 Q38 e h f d y n) (
 gA Q2 c λz=>
 bx Q2 z λl=>
 pt e 0 l λg=>
 gA Q2 g λv=>some (.ret v,a)):=by intros;unfold Q38;exact (Qj _ _ _ _ _ _).trans (by kernel_rfl)
theorem Qgg(a:AV)(s:St):cw (.f Q2I) [a] s =
 bx Q2 (.val a) λb=>
 gA Q2 b λj=>
 bx Q2 j λc=>
 pZ Q2 c λe=>
 bx Q8 (.val (.nils)) λh=>
 pt e 3 h λg=>
 gC Q8 3 b λd=>
 ln Q8 d λi=>
 Q38 ((List.map .val (C.ti Q2).zero)) g d i (iv 0) s:=(Q5 _ _ _).trans (by kernel_rfl)
theorem Q1F(a:AV)(b:AV)(s:St):cw (.f Z0) [a,b] s =
 ca Qy [(.val a),(.val b)] s λg c=>
 condS g (
 ln Q0 (.val b) λd=>
 bind1 (sliceS (C.ti Q0) 0 (.val a) (some d) none none) λe=>
 some (.ret e,c)) (
 some (.ret (.val a),c)):=(Q5 _ _ _).trans (by kernel_rfl)
theorem Qdj(a:AV)(s:St):cw (.f Q3v) [a] s =
 ca Q2G [(.val a)] s λc b=>
 some (.ret c,b):=(Q5 _ _ _).trans (by kernel_rfl)
noncomputable def Qs:Slot->Slot->Slot->Slot->St->Res:=λa b c d s=>lpD QK [.seqR,.seqL,.seqR,.block] Tryz.f72 [(0,.s a),(1,.s b),(7,.s c),(8,.s d)] s
theorem Qt:∀ c d e a b,Qs c d e a b =
 bn Q1 .lss a e λk=>
 condS k (
 ix Q2 c a λg=>
 ld Q2 b g λh=>
 back (cal cw true (tgtV d [h]) b) λi f=>
 condS i (
 some (.ret a,f)) (
 nx a λj=>
 Qs c d e j f)) (
 some (.ret (iv (-1)),b)):=by intros;unfold Qs;exact (Qj _ _ _ _ _ _).trans (by kernel_rfl)
theorem ZE(a:AV)(b:AV)(s:St):cw (.f QK) [a,b] s =
 ln Q8 (.val a) λc=>
 Qs (.val a) (.val b) c (iv 0) s:=(Q5 _ _ _).trans (by kernel_rfl)
noncomputable def Q1r:Slot->List Slot->List Slot->Slot->Slot->Slot->St->Res:=λa e f b c d s=>lpD Q11 [.seqR,.seqR,.seqR,.seqL,.seqR,.block] Tryz.f73 [(1,.s a),(4,.var e),(5,.var f),(23,.s b),(24,.s c),(25,.s d)] s
theorem Q4q:∀ d g c e f b a,Q1r d g c e f b a =
 bn Q1 .lss b f λp=>
 condS p (
 ix Q2 e b λq=>
 ld Q2 a q λr=>
 bx Q2 r λk=>
 pZ Q2 k λj=>
 gC Q8 3 c λt=>
 gA Q2 j λu=>
 cn Q11 [u,d] a λw n=>
 bs Q2 [w] λx=>
 ap Q2 n t x λy o=>
 bx Q8 y λl=>
 pt c 3 l λi=>
 nx b λz=>
 Q1r d g i e f z o) (
 gA Q2 c λA=>
 bx Q2 A λm=>
 pt g 0 m λh=>
 gA Q2 h λv=>some (.ret v,a)):=by intros;unfold Q1r;exact (Qj _ _ _ _ _ _).trans (by kernel_rfl)
theorem QcO(d:AV)(b:AV)(s:St):cw (.f Q11) [d,b] s =
 bx Q2 (.val d) λa=>
 gC Qa 0 a λt=>
 bn Qa .eql t (iv 1) λk=>
 condS k (
 gC Q1 1 a λl=>
 back (cal cw true (tgtV (.val b) [l]) s) λm j=>
 bx Q2 m λc=>
 pZ Q2 c λg=>
 gA Q2 g λv=>some (.ret v,j)) (
 gC Qa 0 a λn=>
 gC Q1 1 a λo=>
 gC Q0 2 a λp=>
 bd Q2 [(0,Qa,n),(1,Q1,o),(2,Q0,p)] λq=>
 bx Q2 q λi=>
 pZ Q2 i λh=>
 gC Q8 3 a λe=>
 ln Q8 e λr=>
 Q1r (.val b) ((List.map .val (C.ti Q2).zero)) h e r (iv 0) s):=(Q5 _ _ _).trans (by kernel_rfl)
theorem Q7u(a:AV)(d:AV)(s:St):cw (.f Q57) [a,d] s =
 bn Q1 .geq (.val a) (iv 0) λb=>
 iT b λw=>
 iT b λt=>
 bind1 (gd t (ldV (C.ti Q8) false s (.val d))) λq=>
 iT b λu=>
 gL u Q8 q λr=>
 iT b λx=>
 gB x Q1 .lss (gdV w (.val a)) r λj=>
 pk b j (bv false) λk=>
 condS k (
 ld Q8 s (.val d) λl=>
 ix Q2 l (.val a) λm=>
 ld Q2 s m λn=>
 ca Q2I [n] s λo i=>
 bx Q2 o λc=>
 pZ Q2 c λe=>
 gA Q2 e λv=>some (.ret v,i)) (
 bd Q2 [(0,Qa,(iv 1)),(1,Q1,(.val a))] λp=>
 bx Q2 p λh=>
 pZ Q2 h λg=>
 gA Q2 g λv=>some (.ret v,s)):=(Q5 _ _ _).trans (by kernel_rfl)
noncomputable def Qx:Slot->Slot->Slot->Slot->Slot->St->Res:=λa e b c d s=>lpD QM [.seqR,.seqR,.seqL,.seqR,.block] Tryz.f75 [(1,.s a),(2,.s e),(15,.s b),(16,.s c),(17,.s d)] s
theorem Zq:∀ d g e f b a,Qx d g e f b a =
 bn Q1 .lss b f λl=>
 condS l (
 ix Q2 e b λm=>
 ld Q2 a m λn=>
 bx Q2 n λc=>
 pZ Q2 c λi=>
 ix Q2 d b λo=>
 ld Q2 a o λp=>
 bx Q2 p λk=>
 pZ Q2 k λj=>
 gA Q2 i λq=>
 gA Q2 j λr=>
 back (cal cw true (tgtV g [q,r]) a) λt h=>
 nt t λu=>
 condS u (
 some (.ret (bv false),h)) (
 nx b λv=>
 Qx d g e f v h)) (
 some (.ret (bv true),a)):=by intros;unfold Qx;exact (Qj _ _ _ _ _ _).trans (by kernel_rfl)
theorem Q1O(a:AV)(b:AV)(c:AV)(s:St):cw (.f QM) [a,b,c] s =
 ln Q8 (.val a) λd=>
 ln Q8 (.val b) λe=>
 bn Q1 .neq d e λg=>
 condS g (
 some (.ret (bv false),s)) (
 ln Q8 (.val a) λh=>
 Qx (.val b) (.val c) (.val a) h (iv 0) s):=(Q5 _ _ _).trans (by kernel_rfl)
noncomputable def Q19:Slot->Slot->St->Res:=λa b s=>pwD Q3w [.seqR,.seqL,.seqR,.block,.seqR] Tryz.f76 [(5,.s a),(6,.s b)] s
theorem Q9T:∀ b c a,Q19 b c a =
 condS c (
 rt [(some (iv 0)),(some (iv 0)),(some (bv true))] a) (
 bn Q0 .eql b (sv [114,101,102]) λd=>
 condS d (
 rt [(some (iv 1)),(some (iv 1)),(some (bv true))] a) (
 bn Q0 .eql b (sv [45,62]) λe=>
 condS e (
 rt [(some (iv 2)),(some (iv 2)),(some (bv true))] a) (
 bn Q0 .eql b (sv [42]) λf=>
 condS f (
 rt [(some (iv 2)),(some (iv 8)),(some (bv true))] a) (
 rt [(some (iv 0)),(some (iv 8)),(some (bv false))] a)))):=by intros;unfold Q19;exact (Q0b _).trans (by kernel_rfl)
theorem Qdz(a:AV)(s:St):cw (.f Q3w) [a] s =
 bn Q0 .eql (.val a) (sv [105,110,116]) λb=>
 condS b (
 Q19 (.val a) b s) (
 bn Q0 .eql (.val a) (sv [98,111,111,108]) λc=>
 condS c (
 Q19 (.val a) c s) (
 bn Q0 .eql (.val a) (sv [117,110,105,116]) λd=>
 condS d (
 Q19 (.val a) d s) (
 bn Q0 .eql (.val a) (sv [101,120,110]) λe=>
 Q19 (.val a) e s))):=(Q5 _ _ _).trans (by kernel_rfl)
theorem Qgf(a:AV)(s:St):cw (.f Q7A) [a] s =
 bd ZK [(0,QL,(iv 2)),(2,Q0,(.val a))] λc=>
 ca Q2g [c] s λd b=>
 bind1 (fieldS (C.ti Qc) (C.ti QE) 0 d) λe=>
 bn QE .eql e (iv 0) λg=>
 some (.ret g,b):=(Q5 _ _ _).trans (by kernel_rfl)
theorem Qbj(a:AV)(d:AV)(b:AV)(s:St):cw (.f Q3M) [a,d,b] s =
 ld Qm s (.val d) λA=>
 lk Q1 Q1 s A (.val a) true λg=>
 ex g 0 λo=>
 ex g 1 λp=>
 nt p λq=>
 condS q (
 ld ZW s (.val b) λr=>
 ln ZW r λh=>
 ld Qm s (.val d) λt=>
 upd2 Q1 Q1 s t (.val a) h λ_ e=>
 ld ZW e (.val b) λu=>
 bs Q1 [(.val a)] λw=>
 ap Q1 e u w λx m=>
 bx ZW x λc=>
 sto m (.val b) c λn=>
 bd Q2 [(0,Qa,(iv 1)),(1,Q1,h)] λy=>
 bx Q2 y λk=>
 pZ Q2 k λi=>
 gA Q2 i λv=>some (.ret v,n)) (
 bd Q2 [(0,Qa,(iv 1)),(1,Q1,o)] λz=>
 bx Q2 z λl=>
 pZ Q2 l λj=>
 gA Q2 j λv=>some (.ret v,s)):=(Q5 _ _ _).trans (by kernel_rfl)
theorem Qb3(j:AV)(s:St):cw (.f Q3K) [j] s =
 bx Q2 (.val j) λa=>
 gC Qa 0 a λP=>
 bn Qa .eql P (iv 1) λY=>
 condS Y (
 gC Q1 1 a λa1=>
 bn Q1 .geq a1 (iv 0) λe=>
 iT e λw=>
 iT e λa2=>
 gG a2 w Q0 2 a λn=>
 iT e λb3=>
 gB b3 Q0 .eql n (sv []) λo=>
 pk e o (bv false) λc=>
 iT c λb9=>
 iT c λd0=>
 gG d0 b9 Q8 3 a λp=>
 iT c λd1=>
 gL d1 Q8 p λq=>
 iT c λd2=>
 gB d2 Q1 .eql q (iv 0) λr=>
 pk c r (bv false) λt=>
 some (.ret t,s)) (
 gC Qa 0 a λu=>
 bn Qa .neq u (iv 2) λg=>
 iF g λd3=>
 iF g λd4=>
 gG d4 d3 Q1 1 a λv=>
 iF g λd5=>
 gB d5 Q1 .neq v (iv 0) λx=>
 pk g (bv true) x λy=>
 condS y (
 some (.ret (bv false),s)) (
 gC Q0 2 a λz=>
 bn Q0 .neq z (sv [114,101,102]) λh=>
 iT h λa3=>
 iT h λa4=>
 gG a4 a3 Q0 2 a λA=>
 iT h λa5=>
 gB a5 Q0 .neq A (sv [45,62]) λB=>
 pk h B (bv false) λi=>
 iT i λa6=>
 iT i λa7=>
 gG a7 a6 Q0 2 a λD=>
 iT i λa8=>
 gB a8 Q0 .neq D (sv [42]) λE=>
 pk i E (bv false) λd=>
 iT d λa9=>
 iT d λb0=>
 gG b0 a9 Q0 2 a λF=>
 iT d λb1=>
 cg b1 Q4t [F] s λG k=>
 iT d λb2=>
 gN b2 G λH=>
 pk d H (bv false) λI=>
 condS I (
 some (.ret (bv false),k)) (
 gC Q0 2 a λJ=>
 ca Q2d [J] k λl m=>
 ex l 0 λL=>
 ex l 1 λM=>
 gC Q8 3 a λN=>
 ln Q8 N λO=>
 bn Q1 .geq O L λb=>
 iT b λb4=>
 iT b λb5=>
 gG b5 b4 Q8 3 a λR=>
 iT b λb6=>
 gL b6 Q8 R λU=>
 iT b λb7=>
 iT b λb8=>
 gB b8 Q1 .leq U (gdV b7 M) λV=>
 pk b V (bv false) λW=>
 some (.ret W,m)))):=(Q5 _ _ _).trans (by kernel_rfl)
noncomputable def Q0n:List Slot->Slot->List Slot->St->Res:=λa b c s=>pwD Q2a [.seqR,.scope,.seqR,.seqR,.seqR,.seqR,.seqR] Tryz.f80 [(3,.var a),(4,.s b),(5,.var c)] s
noncomputable def Q0o:Slot->List Slot->Slot->List Slot->Slot->St->Res:=λa b c d e s=>lpD Q2a [.seqR,.scope,.seqR,.seqR,.seqR,.seqR,.seqL,.seqR,.block] Tryz.f80 [(0,.s a),(3,.var b),(4,.s c),(5,.var d),(6,.s e)] s
theorem Q9v:∀ c d a b,Q0n c d a b =
 gC QE 0 a λi=>
 bn QE .neq i (iv 0) λj=>
 condS j (
 gA Qc a λk=>
 bx Qc k λg=>
 pt c 0 g λe=>
 rt [(some (.val (.nils))),(ofSlots (C.ti Qc) (List.take (C.ti Qc).size e))] b) (
 gA Qc a λl=>
 bx Qc l λh=>
 pt c 0 h λf=>
 rt [(some d),(ofSlots (C.ti Qc) (List.take (C.ti Qc).size f))] b):=by intros;unfold Q0n;exact (Q0b _).trans (by kernel_rfl)
theorem Q9w:∀ d e a f b h,Q0o d e a f b h =
 ln Q0 d λB=>
 bn Q1 .lss b B λD=>
 condS D (
 bind1 (indexS (C.ti Q0) (C.ti T_0) d b) λa2=>
 ca Q1b [(sv [32,9,10,13]),a2] h λa3 j=>
 bn Q1 .geq a3 (iv 0) λa4=>
 condS a4 (
 nx b λa5=>
 Q0o d e a f a5 j) (
 bind1 (sliceS (C.ti Q0) 0 d (some b) none none) λa6=>
 ca Q1a [a6,(sv [40,42])] j λa7 g=>
 condS a7 (
 ca Q2c [d,b] g λo k=>
 bn Q1 .lss o (iv 0) λa8=>
 condS a8 (
 bd Qc [(0,QE,(iv 12)),(1,Q1,b)] λa9=>
 bx Qc a9 λu=>
 pt f 0 u λp=>
 Q0n e a p k) (
 Q0o d e a f o k)) (
 ln Q1z a λb0=>
 bn Q1 .geq b0 (iv 16384) λb1=>
 condS b1 (
 bd Qc [(0,QE,(iv 4)),(1,Q1,b)] λb2=>
 bx Qc b2 λv=>
 pt f 0 v λq=>
 Q0n e a q g) (
 bind1 (sliceS (C.ti Q0) 0 d (some b) none none) λE=>
 ln Q1z a λF=>
 bn Q1 .gtr F (iv 0) λc=>
 iT c λw=>
 iT c λb3=>
 iT c λb4=>
 gL b4 Q1z (gdV b3 a) λG=>
 iT c λb5=>
 gB b5 Q1 .sub G (iv 1) λH=>
 iT c λb6=>
 bind1 (gd b6 (ixS (C.ti Qg).size (gdV w a) H)) λI=>
 iT c λb7=>
 bind1 (gd b7 (faV 2 I)) λJ=>
 iT c λb8=>
 bind1 (gd b8 (ldV (C.ti Q0) false g J)) λL=>
 iT c λb9=>
 gB b9 Q0 .eql L (sv [126]) λM=>
 pk c M (bv false) λN=>
 cn Q44 [E,N] g λm l=>
 ex m 0 λO=>
 ex m 1 λn=>
 bx Qg O λx=>
 pZ Qg x λt=>
 bn QE .neq n (iv 0) λP=>
 condS P (
 bd Qc [(0,QE,n),(1,Q1,b)] λR=>
 bx Qc R λy=>
 pt f 0 y λr=>
 Q0n e a r l) (
 bx Q1 b λz=>
 pt t 1 z λi=>
 gA Qg i λU=>
 bs Qg [U] λV=>
 ap Qg l a V λW A=>
 gC Q0 2 i λY=>
 ln Q0 Y λa0=>
 bn Q1 .add b a0 λa1=>
 Q0o d e W f a1 A))))) (
 Q0n e a f h):=by intros;unfold Q0o;exact (Qj _ _ _ _ _ _).trans (by kernel_rfl)
theorem Qdf(a:AV)(s:St):cw (.f Q2a) [a] s =
 ln Q0 (.val a) λg=>
 bn Q1 .gtr g (iv 65536) λh=>
 condS h (
 bd Qc [(0,QE,(iv 4))] λi=>
 bx Qc i λc=>
 pZ Qc c λb=>
 rt [(some (.val (.nils))),(ofSlots (C.ti Qc) (List.take (C.ti Qc).size b))] s) (
 bd Qc [] λj=>
 bx Qc j λe=>
 pZ Qc e λd=>
 Q0o (.val a) ((List.map .val (C.ti Qc).zero)) (.val (.nils)) d (iv 0) s):=(Q5 _ _ _).trans (by kernel_rfl)
theorem Q9O(a:AV)(b:AV)(s:St):cw (.f Q01) [a,b] s =
 bx Q2 (.val a) λc=>
 gA Q2 c λe=>
 ld Q1y s (.val b) λg=>
 ca Q10 [e,g] s λh d=>
 nt h λi=>
 some (.ret i,d):=(Q5 _ _ _).trans (by kernel_rfl)
theorem Q1N(a:AV)(b:AV)(s:St):cw (.f Qf) [a,b] s =
 ca QP [(.val a),(.val b)] s λd c=>
 bn Q1 .geq d (iv 0) λe=>
 some (.ret e,c):=(Q5 _ _ _).trans (by kernel_rfl)
theorem ZR(a:AV)(s:St):cw (.f Q0k) [a] s =
 some (.ret (.val a),s):=(Q5 _ _ _).trans (by kernel_rfl)
theorem Q2Q(a:AV)(b:AV)(s:St):cw (.f Zn) [a,b] s =
 ca QW [(.val a)] s λo d=>
 bind1 (nilCheckV (.val a)) λn=>
 fa 1 n λh=>
 ld QR d h λi=>
 bs Qb [(.val b)] λj=>
 ap Qb d i j λk e=>
 bind1 (nilCheckV (.val a)) λl=>
 fa 1 l λm=>
 bx QR k λc=>
 sto e m c λg=>
 some (.ret (.val (.nili)),g):=(Q5 _ _ _).trans (by kernel_rfl)
theorem Q2C(a:AV)(b:AV)(s:St):cw (.f QQ) [a,b] s =
 ca QW [(.val a)] s λo d=>
 bind1 (nilCheckV (.val a)) λh=>
 fa 1 h λi=>
 ld QR d i λj=>
 bind2 (appendStr Qb (C.ti Qb) d j (.val b)) λk e=>
 bind1 (nilCheckV (.val a)) λl=>
 fa 1 l λm=>
 bx QR k λc=>
 sto e m c λg=>
 ln Q0 (.val b) λn=>
 rt [(some n),(some (.val (.nili)))] g:=(Q5 _ _ _).trans (by kernel_rfl)
theorem Q7Z(a:AV)(s:St):cw (.f Q2f) [a] s =
 bn Q1 .rem (.val a) (iv 26) λi=>
 bn Q1 .add (iv 97) i λj=>
 bind1 (convS (C.ti Q1) (C.ti Q0y) j) λk=>
 bind1 (convS (C.ti Q0y) (C.ti Q0) k) λl=>
 bn Q0 .add (sv [39]) l λb=>
 bn Q1 .gtr (.val a) (iv 25) λd=>
 condS d (
 bn Q1 .quo (.val a) (iv 26) λe=>
 ca Q3v [e] s λg c=>
 bn Q0 .add b g λh=>
 some (.ret h,c)) (
 some (.ret b,s)):=(Q5 _ _ _).trans (by kernel_rfl)
theorem Qdp(a:AV)(s:St):cw (.f Q05) [a] s =
 ca QG [(.val a)] s λc b=>
 some (.ret c,b):=(Q5 _ _ _).trans (by kernel_rfl)
noncomputable def Zx:Slot->Slot->Slot->Slot->Slot->St->Res:=λa c d e b s=>lpD Q0t [.seqR,.seqR,.seqL,.seqR,.block] Tryz.f89 [(0,.s a),(2,.s c),(7,.s d),(9,.s e),(10,.s b)] s
theorem Q34:∀ d b e f a c,Zx d b e f a c =
 bn Q1 .lss a f λl=>
 condS l (
 bn Q1 .gtr a (iv 0) λm=>
 condS m (
 bs Q0 [d] λn=>
 ap Q0 c e n λo g=>
 back (cal cw true (tgtV b [a]) g) λp h=>
 ap Q0 h o p λr i=>
 nx a λu=>
 Zx d b r f u i) (
 back (cal cw true (tgtV b [a]) c) λq j=>
 ap Q0 j e q λt k=>
 nx a λv=>
 Zx d b t f v k)) (
 some (.ret e,c)):=by intros;unfold Zx;exact (Qj _ _ _ _ _ _).trans (by kernel_rfl)
theorem Q8W(a:AV)(b:AV)(c:AV)(s:St):cw (.f Q0t) [a,b,c] s =
 Zx (.val a) (.val c) (.val (.nils)) (.val b) (iv 0) s:=(Q5 _ _ _).trans (by kernel_rfl)
theorem Qb9(a:AV)(b:AV)(s:St):cw (.f Q1g) [a,b] s =
 fa 3 (.val b) λd=>
 ld Q8 s d λe=>
 ix Q2 e (.val a) λg=>
 ld Q2 s g λh=>
 ca ZJ [h,(iv 2)] s λi c=>
 some (.ret i,c):=(Q5 _ _ _).trans (by kernel_rfl)
theorem QeM(a:AV)(s:St):cw (.f Q45) [a] s =
 bs Q0 [(sv [40])] λe=>
 ca Q0k [e] s λg b=>
 bs Q0 [(sv [41])] λh=>
 ca Q0k [h] b λi c=>
 bs Qu [g,(.val a),i] λj=>
 ca Q05 [j] c λk d=>
 some (.ret k,d):=(Q5 _ _ _).trans (by kernel_rfl)
theorem Qba(a:AV)(b:AV)(s:St):cw (.f Q1h) [a,b] s =
 fa 3 (.val b) λd=>
 ld Q8 s d λe=>
 ix Q2 e (.val a) λg=>
 ld Q2 s g λh=>
 ca ZJ [h,(iv 0)] s λi c=>
 some (.ret i,c):=(Q5 _ _ _).trans (by kernel_rfl)
theorem ZQ(c:AV)(b:AV)(s:St):cw (.f Qy) [c,b] s =
 ln Q0 (.val c) λi=>
 ln Q0 (.val b) λj=>
 bn Q1 .geq i j λa=>
 iT a λw=>
 iT a λk=>
 iT a λl=>
 gL l Q0 (gdV k (.val b)) λd=>
 iT a λm=>
 bind1 (gd m (sliceS (C.ti Q0) 0 (gdV w (.val c)) none (some d) none)) λe=>
 iT a λn=>
 iT a λo=>
 gB o Q0 .eql e (gdV n (.val b)) λg=>
 pk a g (bv false) λh=>
 some (.ret h,s):=(Q5 _ _ _).trans (by kernel_rfl)
theorem Q83(a:AV)(s:St):cw (.f Q2g) [a] s =
 bx ZK (.val a) λb=>
 bindA (avs b) λl1=>
 ld ZK s (.val (.cp l1)) λh=>
 ca Q2H [h] s λi e=>
 bind1 (fnS Q1D [(.val (.cp l1))]) λj=>
 ca Q2k [i,j] e λk g=>
 bx Qc k λc=>
 pZ Qc c λd=>
 gA Qc d λv=>some (.ret v,g):=(Q5 _ _ _).trans (by kernel_rfl)
theorem Qcw(a:AV)(s:St):cw (.f Q4t) [a] s =
 ca Q1t [(.val a),(bv false)] s λd g=>
 iT d λw=>
 iT d λq=>
 gB q Q0 .neq (gdV w (.val a)) (sv [95]) λp=>
 pk d p (bv false) λe=>
 iT e λr=>
 iT e λt=>
 gB t Q0 .neq (gdV r (.val a)) (sv [116,114,117,101]) λj=>
 pk e j (bv false) λc=>
 iT c λu=>
 iT c λv=>
 gB v Q0 .neq (gdV u (.val a)) (sv [102,97,108,115,101]) λk=>
 pk c k (bv false) λb=>
 iT b λx=>
 iT b λy=>
 cg y Q39 [] g λl h=>
 iT b λz=>
 cg z Q1S [(gdV x (.val a)),l] h λm i=>
 iT b λA=>
 gN A m λn=>
 pk b n (bv false) λo=>
 some (.ret o,i):=(Q5 _ _ _).trans (by kernel_rfl)
noncomputable def Q03:Slot->Slot->St->Res:=λa b s=>pwD Q2d [.seqR,.seqL,.seqR,.block,.seqR] Tryz.f99 [(4,.s a),(5,.s b)] s
theorem Q7N:∀ b c a,Q03 b c a =
 condS c (
 rt [(some (iv 0)),(some (iv 0))] a) (
 bn Q0 .eql b (sv [114,101,102]) λd=>
 condS d (
 rt [(some (iv 1)),(some (iv 1))] a) (
 bn Q0 .eql b (sv [45,62]) λe=>
 condS e (
 rt [(some (iv 2)),(some (iv 2))] a) (
 bn Q0 .eql b (sv [42]) λf=>
 condS f (
 rt [(some (iv 2)),(some (iv 8))] a) (
 rt [(some (iv 0)),(some (iv 8))] a)))):=by intros;unfold Q03;exact (Q0b _).trans (by kernel_rfl)
theorem QaY(a:AV)(s:St):cw (.f Q2d) [a] s =
 bn Q0 .eql (.val a) (sv [105,110,116]) λb=>
 condS b (
 Q03 (.val a) b s) (
 bn Q0 .eql (.val a) (sv [98,111,111,108]) λc=>
 condS c (
 Q03 (.val a) c s) (
 bn Q0 .eql (.val a) (sv [117,110,105,116]) λd=>
 condS d (
 Q03 (.val a) d s) (
 bn Q0 .eql (.val a) (sv [101,120,110]) λe=>
 Q03 (.val a) e s))):=(Q5 _ _ _).trans (by kernel_rfl)
theorem Q5u(a:AV)(b:AV)(s:St):cw (.f Q1a) [a,b] s =
 ca Qy [(.val a),(.val b)] s λd c=>
 some (.ret d,c):=(Q5 _ _ _).trans (by kernel_rfl)
noncomputable def ZB:Slot->Slot->Slot->St->Res:=λa b c s=>lpD Q2c [.seqR,.seqL,.seqR,.block] Tryz.f102 [(0,.s a),(1,.s b),(5,.s c)] s
theorem Q7I:∀ c a d b,ZB c a d b =
 nx a λp=>
 ln Q0 c λq=>
 bn Q1 .lss p q λh=>
 condS h (
 bn Q1 .add a (iv 2) λi=>
 bind1 (sliceS (C.ti Q0) 0 c (some a) (some i) none) λe=>
 bn Q0 .eql e (sv [40,42]) λk=>
 condS k (
 nx d λl=>
 bn Q1 .add a (iv 2) λm=>
 ZB c m l b) (
 bn Q0 .eql e (sv [42,41]) λn=>
 condS n (
 bn Q1 .sub d (iv 1) λf=>
 bn Q1 .add a (iv 2) λg=>
 bn Q1 .eql f (iv 0) λo=>
 condS o (
 some (.ret g,b)) (
 ZB c g f b)) (
 nx a λj=>
 ZB c j d b))) (
 some (.ret (iv (-1)),b)):=by intros;unfold ZB;exact (Qj _ _ _ _ _ _).trans (by kernel_rfl)
theorem QaU(a:AV)(b:AV)(s:St):cw (.f Q2c) [a,b] s =
 ZB (.val a) (.val b) (iv 0) s:=(Q5 _ _ _).trans (by kernel_rfl)
noncomputable def Q2t:Slot->List Slot->St->Res:=λa b s=>pwD Q44 [.seqR,.seqR,.seqR] Tryz.f103 [(2,.s a),(4,.var b)] s
theorem QaT:∀ e b a,Q2t e b a =
 ld Q0 a e λj=>
 ca Q3u [j] a λd c=>
 bn Q0 .neq d (sv []) λk=>
 condS k (
 bd Qg [(0,Zo,(iv 6)),(2,Q0,d)] λl=>
 bx Qg l λh=>
 pt b 0 h λf=>
 rt [(ofSlots (C.ti Qg) (List.take (C.ti Qg).size f)),(some (iv 0))] c) (
 bd Qg [] λm=>
 bx Qg m λi=>
 pt b 0 i λg=>
 rt [(ofSlots (C.ti Qg) (List.take (C.ti Qg).size g)),(some (iv 11))] c):=by intros;unfold Q2t;exact (Q0b _).trans (by kernel_rfl)
theorem QeD(j:AV)(k:AV)(s:St):cw (.f Q44) [j,k] s =
 bx Q0 (.val j) λt=>
 bindA (avs t) λl2=>
 bind1 (fnS Q0j [(.val (.cp l2))]) λh=>
 ld Q0 s (.val (.cp l2)) λJ=>
 bind1 (indexS (C.ti Q0) (C.ti T_0) J (iv 0)) λi=>
 ca Q0i [i] s λL l=>
 condS L (
 back (cal cw true (tgtV h [(iv 0),(.val (.fn Q0i []))]) l) λp H=>
 ca Q2b [p,(.val k)] H λq n=>
 ex q 0 λM=>
 ex q 1 λN=>
 nt N λO=>
 condS O (
 bd Qg [] λP=>
 bx Qg P λc=>
 pZ Qg c λu=>
 rt [(ofSlots (C.ti Qg) (List.take (C.ti Qg).size u)),(some (iv 13))] n) (
 bd Qg [(0,Zo,(iv 1)),(2,Q0,p),(3,Q1,M)] λR=>
 bx Qg R λB=>
 pZ Qg B λv=>
 rt [(ofSlots (C.ti Qg) (List.take (C.ti Qg).size v)),(some (iv 0))] n)) (
 ca Q1H [i] l λU a=>
 condS U (
 back (cal cw true (tgtV h [(iv 0),(.val (.fn ZL []))]) a) λb g=>
 bn Q0 .eql b (sv [95]) λV=>
 condS V (
 Q2t (.val (.cp l2)) ((List.map .val (C.ti Qg).zero)) g) (
 ln Q0 b λW=>
 bn Q1 .gtr W (iv 32) λY=>
 condS Y (
 bd Qg [] λa2=>
 bx Qg a2 λD=>
 pZ Qg D λx=>
 rt [(ofSlots (C.ti Qg) (List.take (C.ti Qg).size x)),(some (iv 4))] g) (
 ca Q4s [b] g λa3 I=>
 bd Qg [(0,Zo,a3),(2,Q0,b)] λa4=>
 bx Qg a4 λE=>
 pZ Qg E λy=>
 rt [(ofSlots (C.ti Qg) (List.take (C.ti Qg).size y)),(some (iv 0))] I))) (
 bn Qb .eql i (.val (.int .u8 39)) λd=>
 iT d λw=>
 bind1 (gd w (ldV (C.ti Q0) false a (.val (.cp l2)))) λa5=>
 iT d λb7=>
 gL b7 Q0 a5 λa6=>
 iT d λb8=>
 gB b8 Q1 .gtr a6 (iv 1) λa7=>
 pk d a7 (bv false) λe=>
 iT e λb9=>
 bind1 (gd b9 (ldV (C.ti Q0) false a (.val (.cp l2)))) λa8=>
 iT e λd0=>
 bind1 (gd d0 (indexS (C.ti Q0) (C.ti T_0) a8 (iv 1))) λa9=>
 iT e λd1=>
 cg d1 Q1H [a9] a λb0 o=>
 pk e b0 (bv false) λb1=>
 condS b1 (
 back (cal cw true (tgtV h [(iv 1),(.val (.fn ZL []))]) o) λr m=>
 ln Q0 r λb2=>
 bn Q1 .sub b2 (iv 1) λb3=>
 bn Q1 .gtr b3 (iv 32) λb4=>
 condS b4 (
 bd Qg [] λb5=>
 bx Qg b5 λF=>
 pZ Qg F λz=>
 rt [(ofSlots (C.ti Qg) (List.take (C.ti Qg).size z)),(some (iv 4))] m) (
 bd Qg [(0,Zo,(iv 4)),(2,Q0,r)] λb6=>
 bx Qg b6 λG=>
 pZ Qg G λA=>
 rt [(ofSlots (C.ti Qg) (List.take (C.ti Qg).size A)),(some (iv 0))] m)) (
 Q2t (.val (.cp l2)) ((List.map .val (C.ti Qg).zero)) o))):=(Q5 _ _ _).trans (by kernel_rfl)
noncomputable def QI:Slot->Slot->Slot->Slot->St->Res:=λa b c d s=>lpD QP [.seqR,.seqL,.seqR,.block] Tryz.f104 [(0,.s a),(1,.s b),(7,.s c),(8,.s d)] s
theorem ZS:∀ c d e b a,QI c d e b a =
 bn Q1 .lss b e λj=>
 condS j (
 ix Q0 c b λf=>
 ld Q0 a f λg=>
 bn Q0 .eql d g λh=>
 condS h (
 some (.ret b,a)) (
 nx b λi=>
 QI c d e i a)) (
 some (.ret (iv (-1)),a)):=by intros;unfold QI;exact (Qj _ _ _ _ _ _).trans (by kernel_rfl)
theorem Q2A(a:AV)(b:AV)(s:St):cw (.f QP) [a,b] s =
 ln Qu (.val a) λc=>
 QI (.val a) (.val b) c (iv 0) s:=(Q5 _ _ _).trans (by kernel_rfl)
noncomputable def QD:Slot->Slot->Slot->Slot->St->Res:=λd a b c s=>lpD QG [.seqR,.seqR,.seqR,.seqR,.seqL,.seqR,.block] Tryz.f106 [(6,.s d),(25,.s a),(26,.s b),(27,.s c)] s
noncomputable def QC:Slot->Slot->Slot->Slot->Slot->St->Res:=λa d e b c s=>lpD QG [.seqR,.seqR,.seqL,.seqR,.block] Tryz.f106 [(0,.s a),(3,.s d),(9,.s e),(10,.s b),(11,.s c)] s
theorem ZI:∀ e c d b a,QD e c d b a =
 bn Q1 .lss b d λg=>
 condS g (
 ix Qu c b λh=>
 ld Qu a h λi=>
 ap Q0 a e i λj f=>
 nx b λk=>
 QD j c d k f) (
 some (.ret e,a)):=by intros;unfold QD;exact (Qj _ _ _ _ _ _).trans (by kernel_rfl)
theorem ZH:∀ b e f d c a,QC b e f d c a =
 bn Q1 .lss c d λi=>
 condS i (
 ix Qu f c λj=>
 ld Qu a j λk=>
 ln Qu k λl=>
 bn Q1 .add e l λg=>
 bn Q1 .lss g (iv 0) λm=>
 condS m (
 bind1 (ifcS Q0 (sv [108,101,110,32,111,117,116,32,111,102,32,114,97,110,103,101])) λn=>
 panK n a) (
 nx c λo=>
 QC b g f d o a)) (
 ca Zh [(.val (.nils)),e] a λp h=>
 ln Q0l b λq=>
 QD p b q (iv 0) h):=by intros;unfold QC;exact (Qj _ _ _ _ _ _).trans (by kernel_rfl)
theorem Q29(a:AV)(s:St):cw (.f QG) [a] s =
 ln Q0l (.val a) λb=>
 QC (.val a) (iv 0) (.val a) b (iv 0) s:=(Q5 _ _ _).trans (by kernel_rfl)
noncomputable def Q3g(a:Slot):Am.Obj:=.loop .ready none Q2k [(4,.s a)] [16] (rngAsg (codeAt [.seqR,.seqR,.seqR,.seqL,.seqR,.block] (body Tryz.f108))) (rngBody (codeAt [.seqR,.seqR,.seqR,.seqL,.seqR,.block] (body Tryz.f108)))
theorem Q85(d:Slot)(e:AV)(loc:Nat)(b:St):yldR C (Q3g d) loc [e] b=noPan (
 bx QZ (.val e) λg=>
 pZ QZ g λf=>
 bindS (beginL loc b) λk=>
 gA QZ f λn=>
 ca Q07 [n] k λo c=>
 bx Qc o λh=>
 pZ Qc h λa=>
 gC QE 0 a λp=>
 bn QE .neq p (iv 0) λq=>
 condS q (
 gA Qc a λr=>
 bx Qc r λi=>
 sto c d i λl=>
 bindS (setLoop loc .done (some .ret) l) λm=>
 some (.ret (bv false),m)) (
 bindS (setLoop loc .ready none c) λj=>
 some (.ret (bv true),j))):=by kernel_rfl
theorem Qbg(b:AV)(d:AV)(s:St):cw (.f Q2k) [b,d] s =
 ca Q2h [(.val b),(iv 8193)] (St.addLoc s (.var (List.map .val (C.ti Qc).zero))) λA e=>
 bn Q1 .gtr A (iv 8192) λB=>
 condS B (
 bd Qc [(0,QE,(iv 4))] λt=>
 bx Qc t λc=>
 sto e (.val (.vp s.locs.length 0)) c λk=>
 bind1 (ldV (C.ti Qc) false k (.val (.vp s.locs.length 0))) λv=>some (.ret v,k)) (
 back (cal cw true (tgtV (.val d) []) e) λu a=>
 bn Q1 .gtr u (iv 100) λw=>
 condS w (
 bd Qc [(0,QE,(iv 7))] λx=>
 bx Qc x λm=>
 sto a (.val (.vp s.locs.length 0)) m λl=>
 bind1 (ldV (C.ti Qc) false l (.val (.vp s.locs.length 0))) λv=>some (.ret v,l)) (
 rangeC C cw (.val b) a.locs.length (St.addLoc a (Q3g (.val (.vp s.locs.length 0)))) λp=>
 endX a.locs.length p (λq=>
 bd Qc [] λy=>
 bx Qc y λn=>
 sto q (.val (.vp s.locs.length 0)) n λh=>
 bind1 (ldV (C.ti Qc) false h (.val (.vp s.locs.length 0))) λv=>some (.ret v,h)) (λg=>
 bind1 (ldV (C.ti Qc) false g (.val (.vp s.locs.length 0))) λv=>some (.ret v,g)) (λj r=>
 bif Nat.beq j 0 then (
 bd Qc [] λz=>
 bx Qc z λo=>
 sto r (.val (.vp s.locs.length 0)) o λi=>
 bind1 (ldV (C.ti Qc) false i (.val (.vp s.locs.length 0))) λv=>some (.ret v,i)) else (
(none:Res))))):=(Q5 _ _ _).trans (by kernel_rfl)
theorem Q95(a:AV)(s:St):cw (.f Q2H) [a] s =
 bx ZK (.val a) λb=>
 bindA (avs b) λl1=>
 bind1 (fnS Q1Y [(.val (.cp l1))]) λc=>
 some (.ret c,s):=(Q5 _ _ _).trans (by kernel_rfl)
theorem Q6z(a:AV)(s:St):cw (.f Q1D) [a] s =
 ld ZK s (.val a) λc=>
 ca ZU [c] s λd b=>
 some (.ret d,b):=(Q5 _ _ _).trans (by kernel_rfl)
noncomputable def Q0h:Slot->Slot->Slot->Slot->St->Res:=λa b c d s=>lpD ZU [.seqR,.seqR,.seqL,.seqR,.block] Tryz.f111 [(3,.s a),(7,.s b),(8,.s c),(9,.s d)] s
theorem Q37:∀ d e f b a,Q0h d e f b a =
 bn Q1 .lss b f λi=>
 condS i (
 ix ZK e b λj=>
 ld ZK a j λk=>
 bx ZK k λc=>
 pZ ZK c λg=>
 gA ZK g λl=>
 ca ZU [l] a λm h=>
 bind1 (max2 d m) λn=>
 nx b λo=>
 Q0h n e f o h) (
 nx d λp=>
 some (.ret p,a)):=by intros;unfold Q0h;exact (Qj _ _ _ _ _ _).trans (by kernel_rfl)
theorem Q94(a:AV)(s:St):cw (.f ZU) [a] s =
 bx ZK (.val a) λc=>
 gC Za 4 c λb=>
 ln Za b λd=>
 Q0h (iv 0) b d (iv 0) s:=(Q5 _ _ _).trans (by kernel_rfl)
noncomputable def Zw:Slot->Slot->St->Res:=λa b s=>lpD Q1t [.seqR,.seqR,.seqL,.seqR,.block] Tryz.f112 [(0,.s a),(5,.s b)] s
theorem Q31:∀ a b c,Zw a b c =
 ln Q0 a λe=>
 bn Q1 .lss b e λf=>
 condS f (
 bind1 (indexS (C.ti Q0) (C.ti T_0) a b) λh=>
 ca Q3I [h] c λi d=>
 nt i λj=>
 condS j (
 some (.ret (bv false),d)) (
 nx b λg=>
 Zw a g d)) (
 some (.ret (bv true),c)):=by intros;unfold Zw;exact (Qj _ _ _ _ _ _).trans (by kernel_rfl)
theorem Q8O(b:AV)(d:AV)(s:St):cw (.f Q1t) [b,d] s =
 ln Q0 (.val b) λm=>
 bn Q1 .lss m (iv 1) λc=>
 iF c λw=>
 iF c λn=>
 gL n Q0 (gdV w (.val b)) λg=>
 iF c λo=>
 gB o Q1 .gtr g (iv 32) λh=>
 pk c (bv true) h λa=>
 iF a λp=>
 iF a λq=>
 bind1 (gd q (indexS (C.ti Q0) (C.ti T_0) (gdV p (.val b)) (iv 0))) λi=>
 iF a λr=>
 iF a λt=>
 cg t Q2F [i,(gdV r (.val d))] s λj e=>
 iF a λu=>
 gN u j λk=>
 pk a (bv true) k λl=>
 condS l (
 some (.ret (bv false),e)) (
 Zw (.val b) (iv 1) e):=(Q5 _ _ _).trans (by kernel_rfl)
noncomputable def Q0B:Slot->Slot->Slot->St->Res:=λa b c s=>lpD Q1S [.seqR,.seqL,.seqR,.block] Tryz.f113 [(0,.s a),(1,.s b),(5,.s c)] s
theorem Q3k:∀ d b c a,Q0B d b c a =
 ln Qu b λi=>
 bn Q1 .lss c i λj=>
 condS j (
 ix Q0 b c λf=>
 ld Q0 a f λg=>
 bn Q0 .eql g d λh=>
 condS h (
 some (.ret (bv true),a)) (
 nx c λe=>
 Q0B d b e a)) (
 some (.ret (bv false),a)):=by intros;unfold Q0B;exact (Qj _ _ _ _ _ _).trans (by kernel_rfl)
theorem Q9B(a:AV)(b:AV)(s:St):cw (.f Q1S) [a,b] s =
 Q0B (.val a) (.val b) (iv 0) s:=(Q5 _ _ _).trans (by kernel_rfl)
theorem Q9A(s:St):cw (.f Q39) [] s =
 bs Q0 [(sv [97,110,100]),(sv [97,110,100,97,108,115,111]),(sv [97,115]),(sv [99,97,115,101]),(sv [100,97,116,97,116,121,112,101]),(sv [100,105,118]),(sv [101,108,115,101]),(sv [101,110,100]),(sv [101,120,99,101,112,116,105,111,110]),(sv [102,110]),(sv [102,117,110]),(sv [104,97,110,100,108,101]),(sv [105,102]),(sv [105,110]),(sv [108,101,116]),(sv [109,111,100]),(sv [111,102]),(sv [111,114,101,108,115,101]),(sv [112,114,105,110,116]),(sv [114,97,105,115,101]),(sv [114,101,97,100]),(sv [114,101,102]),(sv [116,104,101,110]),(sv [118,97,108])] λa=>
 some (.ret a,s):=(Q5 _ _ _).trans (by kernel_rfl)
noncomputable def Q1o:Slot->Slot->Slot->St->Res:=λa b c s=>lpD Q0j [.seqR,.seqR,.seqL,.block] Tryz.f116 [(1,.s a),(2,.s b),(6,.s c)] s
theorem Q4c:∀ f b c d,Q1o f b c d =
 ld Q0 d b λo=>
 ln Q0 o λg=>
 bn Q1 .lss c g λa=>
 iT a λw=>
 iT a λp=>
 bind1 (gd p (ldV (C.ti Q0) false d b)) λh=>
 iT a λq=>
 iT a λr=>
 bind1 (gd r (indexS (C.ti Q0) (C.ti T_0) h (gdV q c))) λi=>
 iT a λt=>
 back (cal cw t (tgtV (gdV w f) [i]) d) λj e=>
 pk a j (bv false) λk=>
 condS k (
 nx c λl=>
 Q1o f b l e) (
 ld Q0 e b λm=>
 bind1 (sliceS (C.ti Q0) 0 m none (some c) none) λn=>
 some (.ret n,e)):=by intros;unfold Q1o;exact (Qj _ _ _ _ _ _).trans (by kernel_rfl)
theorem Qc8(a:AV)(b:AV)(c:AV)(s:St):cw (.f Q0j) [a,b,c] s =
 Q1o (.val b) (.val c) (.val a) s:=(Q5 _ _ _).trans (by kernel_rfl)
theorem Qc5(a:AV)(s:St):cw (.f Q0i) [a] s =
 bn Qb .geq (.val a) (.val (.int .u8 48)) λb=>
 iT b λw=>
 iT b λe=>
 gB e Qb .leq (gdV w (.val a)) (.val (.int .u8 57)) λc=>
 pk b c (bv false) λd=>
 some (.ret d,s):=(Q5 _ _ _).trans (by kernel_rfl)
noncomputable def Q0W:Slot->Slot->Slot->Slot->Slot->St->Res:=λa b e c d s=>lpD Q2b [.seqR,.seqR,.seqR,.seqL,.seqR,.block] Tryz.f118 [(0,.s a),(1,.s b),(6,.s e),(22,.s c),(23,.s d)] s
theorem Q3S:∀ e f b g c d,Q0W e f b g c d =
 bn Q1 .lss c g λj=>
 condS j (
 bn Q1 .mul (iv 10) b λk=>
 bind1 (indexS (C.ti Q0) (C.ti T_0) e c) λl=>
 bn Qb .sub l (.val (.int .u8 48)) λm=>
 bind1 (convS (C.ti Qb) (C.ti Q1) m) λn=>
 bn Q1 .add k n λo=>
 nx c λp=>
 Q0W e f o g p d) (
 bn Q1 .lss b (iv 1073741824) λa=>
 iF a λu=>
 iF a λv=>
 gB v Q1 .eql (gdV u b) (iv 1073741824) λh=>
 iF a λi=>
 bindB (Slot.isB (gdV i h) true) λw=>
 iF a λt=>
 bind1 (gd t (pickS (gdV i h) (gdV w f) (bv false))) λq=>
 pk a (bv true) q λr=>
 rt [(some b),(some r)] d):=by intros;unfold Q0W;exact (Qj _ _ _ _ _ _).trans (by kernel_rfl)
theorem QaS(a:AV)(d:AV)(s:St):cw (.f Q2b) [a,d] s =
 ln Q0 (.val a) λl=>
 bn Q1 .gtr l (iv 1) λb=>
 iT b λw=>
 iT b λm=>
 bind1 (gd m (indexS (C.ti Q0) (C.ti T_0) (gdV w (.val a)) (iv 0))) λe=>
 iT b λn=>
 gB n Qb .eql e (.val (.int .u8 48)) λg=>
 pk b g (bv false) λc=>
 iF c λo=>
 iF c λp=>
 gL p Q0 (gdV o (.val a)) λh=>
 iF c λq=>
 gB q Q1 .gtr h (iv 10) λi=>
 pk c (bv true) i λj=>
 condS j (
 rt [(some (iv 0)),(some (bv false))] s) (
 ln Q0 (.val a) λk=>
 Q0W (.val a) (.val d) (iv 0) k (iv 0) s):=(Q5 _ _ _).trans (by kernel_rfl)
theorem Qc6(a:AV)(s:St):cw (.f Q1H) [a] s =
 bn Qb .geq (.val a) (.val (.int .u8 97)) λe=>
 iT e λw=>
 iT e λm=>
 gB m Qb .leq (gdV w (.val a)) (.val (.int .u8 122)) λl=>
 pk e l (bv false) λb=>
 iF b λn=>
 iF b λo=>
 gB o Qb .geq (gdV n (.val a)) (.val (.int .u8 65)) λc=>
 iF b λg=>
 bindB (Slot.isB (gdV g c) true) λp=>
 bindB (Slot.isB (gdV g c) true) λq=>
 gB q Qb .leq (gdV p (.val a)) (.val (.int .u8 90)) λh=>
 iF b λr=>
 bind1 (gd r (pickS (gdV g c) h (bv false))) λi=>
 pk b (bv true) i λd=>
 iF d λt=>
 iF d λu=>
 gB u Qb .eql (gdV t (.val a)) (.val (.int .u8 95)) λj=>
 pk d (bv true) j λk=>
 some (.ret k,s):=(Q5 _ _ _).trans (by kernel_rfl)
theorem Qc4(a:AV)(s:St):cw (.f ZL) [a] s =
 ca Q1H [(.val a)] s λb d=>
 iF b λw=>
 iF b λj=>
 cg j Q0i [(gdV w (.val a))] d λi e=>
 pk b (bv true) i λc=>
 iF c λk=>
 iF c λl=>
 gB l Qb .eql (gdV k (.val a)) (.val (.int .u8 39)) λg=>
 pk c (bv true) g λh=>
 some (.ret h,e):=(Q5 _ _ _).trans (by kernel_rfl)
theorem Qc7(a:AV)(s:St):cw (.f Q4s) [a] s =
 bind1 (sliceA 24 (C.ti Q0) (.val (.cp glob0)) none none none) λn=>
 ca Qf [n,(.val a)] s λo e=>
 condS o (
 some (.ret (iv 5),e)) (
 bn Q0 .eql (.val a) (sv [116,114,117,101]) λg=>
 iF g λw=>
 iF g λp=>
 gB p Q0 .eql (gdV w (.val a)) (sv [102,97,108,115,101]) λh=>
 pk g (bv true) h λb=>
 iF b λq=>
 iF b λr=>
 bind1 (gd r (indexS (C.ti Q0) (C.ti T_0) (gdV q (.val a)) (iv 0))) λi=>
 iF b λt=>
 gB t Qb .geq i (.val (.int .u8 65)) λc=>
 iF b λd=>
 bindB (Slot.isB (gdV d c) true) λu=>
 bindB (Slot.isB (gdV d c) true) λv=>
 bind1 (gd v (indexS (C.ti Q0) (C.ti T_0) (gdV u (.val a)) (iv 0))) λj=>
 bindB (Slot.isB (gdV d c) true) λx=>
 gB x Qb .leq j (.val (.int .u8 90)) λk=>
 iF b λy=>
 bind1 (gd y (pickS (gdV d c) k (bv false))) λl=>
 pk b (bv true) l λm=>
 condS m (
 some (.ret (iv 3),e)) (
 some (.ret (iv 2),e))):=(Q5 _ _ _).trans (by kernel_rfl)
noncomputable def Q1J:Slot->Slot->St->Res:=λa b s=>lpD Q3u [.seqR,.seqL,.seqR,.block] Tryz.f122 [(0,.s a),(3,.s b)] s
theorem Q4O:∀ b a c,Q1J b a c =
 bn Q1 .gtr a (iv 0) λj=>
 condS j (
 bind1 (sliceA 19 (C.ti Q0) (.val (.cp glob1)) none none none) λf=>
 bind1 (sliceS (C.ti Q0) 0 b none (some a) none) λg=>
 cn Qf [f,g] c λh d=>
 condS h (
 bind1 (sliceS (C.ti Q0) 0 b none (some a) none) λi=>
 some (.ret i,d)) (
 bn Q1 .sub a (iv 1) λe=>
 Q1J b e d)) (
 some (.ret (sv []),c)):=by intros;unfold Q1J;exact (Qj _ _ _ _ _ _).trans (by kernel_rfl)
theorem Qdg(a:AV)(s:St):cw (.f Q3u) [a] s =
 ln Q0 (.val a) λb=>
 bind1 (min2 (iv 2) b) λc=>
 Q1J (.val a) c s:=(Q5 _ _ _).trans (by kernel_rfl)
noncomputable def Q3f(a:Slot)(b:Slot):Am.Obj:=.loop .ready none Q2h [(3,.s a),(5,.s b)] [8] (rngAsg (codeAt [.seqR,.seqR,.seqL,.seqR,.block] (body Tryz.f126))) (rngBody (codeAt [.seqR,.seqR,.seqL,.seqR,.block] (body Tryz.f126)))
theorem Q84(d:Slot)(b:Slot)(f:AV)(loc:Nat)(e:St):yldR C (Q3f d b) loc [f] e=noPan (
 bx QZ (.val f) λh=>
 pZ QZ h λg=>
 bindS (beginL loc e) λj=>
 gA QZ g λy=>
 ca Q1E [y] j λo a=>
 condS o (
 ld Q1 a b λp=>
 nx p λq=>
 bx Q1 q λi=>
 sto a b i λc=>
 ld Q1 c b λr=>
 ld Q1 c d λu=>
 bn Q1 .geq r u λw=>
 condS w (
 bindS (setLoop loc .done (some (.exit 0)) c) λk=>
 some (.ret (bv false),k)) (
 bindS (setLoop loc .ready none c) λl=>
 some (.ret (bv true),l))) (
 ld Q1 a b λt=>
 ld Q1 a d λv=>
 bn Q1 .geq t v λx=>
 condS x (
 bindS (setLoop loc .done (some (.exit 0)) a) λm=>
 some (.ret (bv false),m)) (
 bindS (setLoop loc .ready none a) λn=>
 some (.ret (bv true),n)))):=by kernel_rfl
theorem Qbd(b:AV)(d:AV)(s:St):cw (.f Q2h) [b,d] s =
 bx Q1 (.val d) λh=>
 bindA (avs h) λl3=>
 bx Q1 (iv 0) λc=>
 sto (St.addLoc s (.var (List.map .val (C.ti Q1).zero))) (.val (.vp s.locs.length 0)) c λa=>
 rangeC C cw (.val b) a.locs.length (St.addLoc a (Q3f (.val (.cp l3)) (.val (.vp s.locs.length 0)))) λi=>
 endX a.locs.length i (λe=>
 ld Q1 e (.val (.vp s.locs.length 0)) λl=>
 some (.ret l,e)) (λk=>
 some (.ret (iv 0),k)) (λj g=>
 bif Nat.beq j 0 then (
 ld Q1 g (.val (.vp s.locs.length 0)) λm=>
 some (.ret m,g)) else (
(none:Res))):=(Q5 _ _ _).trans (by kernel_rfl)
noncomputable def Qr:List Slot->List Slot->Slot->Slot->St->Res:=λa b c d s=>pwD Q07 [.seqR,.seqR,.seqR,.seqR] Tryz.f127 [(1,.var a),(2,.var b),(3,.s c),(4,.s d)] s
theorem Q4E:∀ e d a f b,Qr e d a f b =
 bn QE .eql a (iv 0) λl=>
 condS l (
 bd Qc [] λm=>
 bx Qc m λc=>
 pt d 0 c λg=>
 gA Qc g λv=>some (.ret v,b)) (
 bn QE .neq a (iv 8) λn=>
 condS n (
 gC Q1 7 e λo=>
 bd Qc [(0,QE,a),(1,Q1,o),(2,Q0,(sv []))] λq=>
 bx Qc q λj=>
 pt d 0 j λh=>
 gA Qc h λv=>some (.ret v,b)) (
 gC Q1 7 e λp=>
 bd Qc [(0,QE,a),(1,Q1,p),(2,Q0,f)] λr=>
 bx Qc r λk=>
 pt d 0 k λi=>
 gA Qc i λv=>some (.ret v,b))):=by intros;unfold Qr;exact (Q0b _).trans (by kernel_rfl)
theorem Q5N(c:AV)(s:St):cw (.f Q07) [c] s =
 bx QZ (.val c) λa=>
 gC Q1w 0 a λo=>
 bn Q1w .neq o (.val (.nilp)) λp=>
 condS p (
 gA QZ a λq=>
 cn Zt [q] s λr d=>
 gC Q1w 0 a λt=>
 bind1 (nilCheckV t) λu=>
 fa 2 u λv=>
 bind1 (ldV (C.ti Q0) true d v) λw=>
 Qr a ((List.map .val (C.ti Qc).zero)) r w d) (
 gC Q12 2 a λx=>
 bn Q12 .neq x (.val (.nilp)) λy=>
 condS y (
 gC Q12 2 a λz=>
 bind1 (nilCheckV z) λA=>
 fa 0 A λB=>
 ld Q0 s B λb=>
 ca Q0N [b] s λD e=>
 nt D λE=>
 condS E (
 Qr a ((List.map .val (C.ti Qc).zero)) (iv 8) b e) (
 Qr a ((List.map .val (C.ti Qc).zero)) (iv 0) b e)) (
 gC Q0v 3 a λF=>
 bn Q0v .neq F (.val (.nilp)) λG=>
 condS G (
 gC Q0v 3 a λH=>
 bind1 (nilCheckV H) λI=>
 bind1 (ldV (C.ti Q59) true s I) λJ=>
 cn Q2n [J] s λL g=>
 gC Q0v 3 a λM=>
 bind1 (nilCheckV M) λN=>
 fa 0 N λO=>
 bind1 (ldV (C.ti Q0) true g O) λP=>
 Qr a ((List.map .val (C.ti Qc).zero)) L P g) (
 gC Q1x 4 a λR=>
 bn Q1x .neq R (.val (.nilp)) λU=>
 condS U (
 gC Q1x 4 a λV=>
 bind1 (nilCheckV V) λW=>
 bind1 (ldV (C.ti Q5a) true s W) λY=>
 cn Q2o [Y] s λa2 h=>
 gC Q1x 4 a λa3=>
 bind1 (nilCheckV a3) λa4=>
 fa 2 a4 λa5=>
 bind1 (ldV (C.ti Q0) true h a5) λa6=>
 Qr a ((List.map .val (C.ti Qc).zero)) a2 a6 h) (
 gC Q13 5 a λa7=>
 bn Q13 .neq a7 (.val (.nilp)) λa8=>
 condS a8 (
 gC Q13 5 a λb0=>
 bind1 (nilCheckV b0) λb1=>
 bind1 (ldV (C.ti ZK) true s b1) λb2=>
 cn Q1e [b2] s λb3 i=>
 gC Q13 5 a λb4=>
 bind1 (nilCheckV b4) λb5=>
 fa 2 b5 λb6=>
 bind1 (ldV (C.ti Q0) true i b6) λb7=>
 Qr a ((List.map .val (C.ti Qc).zero)) b3 b7 i) (
 gC Q3N 6 a λa1=>
 bind1 (nilCheckV a1) λa9=>
 bind1 (ldV (C.ti Q2) true s a9) λb8=>
 cn Q0u [b8] s λb9 j=>
 gC Q3N 6 a λk=>
 bind1 (nilCheckV k) λl=>
 fa 2 l λm=>
 bind1 (ldV (C.ti Q0) true j m) λn=>
 Qr a ((List.map .val (C.ti Qc).zero)) b9 n j))))):=(Q5 _ _ _).trans (by kernel_rfl)
theorem Q71(a:AV)(b:AV)(s:St):cw (.f Q1Y) [a,b] s =
 bd Q1k [(0,QA,(.val a))] λd=>
 ca Z7 [d,(.val b)] s λe c=>
 rt [] c:=(Q5 _ _ _).trans (by kernel_rfl)
noncomputable def Zf:Slot->List Slot->Slot->Slot->St->Res:=λa b c d s=>lpD Z7 [.seqR,.seqR,.seqL,.seqR,.block] Tryz.f129 [(1,.s a),(2,.var b),(20,.s c),(21,.s d)] s
theorem Q1Q:∀ c d e b a,Zf c d e b a =
 bn Q1 .lss b e λg=>
 condS g (
 gA Q1k d λh=>
 bind1 (nilCheckV c) λi=>
 fa 4 i λj=>
 ld Za a j λk=>
 ix ZK k b λl=>
 cn Z7 [h,l] a λm f=>
 nt m λn=>
 condS n (
 some (.ret (bv false),f)) (
 nx b λo=>
 Zf c d e o f)) (
 some (.ret (bv true),a)):=by intros;unfold Zf;exact (Qj _ _ _ _ _ _).trans (by kernel_rfl)
theorem Q5O(c:AV)(a:AV)(s:St):cw (.f Z7) [c,a] s =
 bx Q1k (.val c) λd=>
 gC QA 0 d λp=>
 bind1 (nilCheckV (.val a)) λe=>
 fa 1 e λg=>
 ld Q1 s g λh=>
 bd QZ [(5,Q13,(.val a)),(7,Q1,h)] λi=>
 back (noPan (cal cw true (tgtV p [i]) s)) λj b=>
 nt j λk=>
 condS k (
 some (.ret (bv false),b)) (
 bind1 (nilCheckV (.val a)) λl=>
 fa 4 l λm=>
 ld Za b m λn=>
 ln Za n λo=>
 Zf (.val a) d o (iv 0) b):=(Q5 _ _ _).trans (by kernel_rfl)
theorem Q8M(a:AV)(e:AV)(s:St):cw (.f Q2F) [a,e] s =
 condS (.val e) (
 bn Qb .geq (.val a) (.val (.int .u8 65)) λd=>
 iT d λw=>
 iT d λl=>
 gB l Qb .leq (gdV w (.val a)) (.val (.int .u8 90)) λg=>
 pk d g (bv false) λh=>
 some (.ret h,s)) (
 bn Qb .geq (.val a) (.val (.int .u8 97)) λb=>
 iT b λm=>
 iT b λn=>
 gB n Qb .leq (gdV m (.val a)) (.val (.int .u8 122)) λi=>
 pk b i (bv false) λc=>
 iF c λo=>
 iF c λp=>
 gB p Qb .eql (gdV o (.val a)) (.val (.int .u8 95)) λj=>
 pk c (bv true) j λk=>
 some (.ret k,s)):=(Q5 _ _ _).trans (by kernel_rfl)
theorem Qb0(a:AV)(s:St):cw (.f Q3I) [a] s =
 bn Qb .geq (.val a) (.val (.int .u8 97)) λi=>
 iT i λw=>
 iT i λu=>
 gB u Qb .leq (gdV w (.val a)) (.val (.int .u8 122)) λt=>
 pk i t (bv false) λc=>
 iF c λE=>
 iF c λF=>
 gB F Qb .geq (gdV E (.val a)) (.val (.int .u8 65)) λd=>
 iF c λk=>
 bindB (Slot.isB (gdV k d) true) λG=>
 bindB (Slot.isB (gdV k d) true) λH=>
 gB H Qb .leq (gdV G (.val a)) (.val (.int .u8 90)) λl=>
 iF c λI=>
 bind1 (gd I (pickS (gdV k d) l (bv false))) λm=>
 pk c (bv true) m λb=>
 iF b λJ=>
 iF b λL=>
 gB L Qb .geq (gdV J (.val a)) (.val (.int .u8 48)) λe=>
 iF b λj=>
 bindB (Slot.isB (gdV j e) true) λv=>
 bindB (Slot.isB (gdV j e) true) λx=>
 gB x Qb .leq (gdV v (.val a)) (.val (.int .u8 57)) λn=>
 iF b λy=>
 bind1 (gd y (pickS (gdV j e) n (bv false))) λo=>
 pk b (bv true) o λg=>
 iF g λz=>
 iF g λA=>
 gB A Qb .eql (gdV z (.val a)) (.val (.int .u8 95)) λp=>
 pk g (bv true) p λh=>
 iF h λB=>
 iF h λD=>
 gB D Qb .eql (gdV B (.val a)) (.val (.int .u8 39)) λq=>
 pk h (bv true) q λr=>
 some (.ret r,s):=(Q5 _ _ _).trans (by kernel_rfl)
theorem Q6B(b:AV)(s:St):cw (.f Q1E) [b] s =
 bx QZ (.val b) λc=>
 gC Q12 2 c λe=>
 bn Q12 .eql e (.val (.nilp)) λa=>
 iT a λw=>
 iT a λi=>
 gG i w Q0v 3 c λg=>
 iT a λj=>
 gB j Q0v .eql g (.val (.nilp)) λh=>
 pk a h (bv false) λd=>
 some (.ret d,s):=(Q5 _ _ _).trans (by kernel_rfl)
noncomputable def QJ:List Slot->Slot->Slot->Slot->Slot->St->Res:=λa b c d e s=>pwD Zt [.seqR,.seqR,.seqR,.seqR,.seqR] Tryz.f138 [(1,.var a),(3,.s b),(5,.s c),(7,.s d),(8,.s e)] s
theorem Q3F:∀ m b n o p a,QJ m b n o p a =
 nt p λd=>
 iF d λf6=>
 iF d λd1=>
 gG d1 f6 Qd 1 m λh=>
 iF d λi=>
 bindB (Slot.isB (gdV i h) true) λd2=>
 bindB (Slot.isB (gdV i h) true) λd3=>
 bind1 (gd d3 (nilCheckV (gdV d2 b))) λb8=>
 bindB (Slot.isB (gdV i h) true) λd4=>
 bind1 (gd d4 (faV 0 b8)) λb9=>
 bindB (Slot.isB (gdV i h) true) λd5=>
 bind1 (gd d5 (ldV (C.ti QH) false a b9)) λd0=>
 bindB (Slot.isB (gdV i h) true) λd6=>
 gB d6 QH .neq d0 (iv 1) λq=>
 iF d λd7=>
 bind1 (gd d7 (pickS (gdV i h) q (bv false))) λf=>
 iF d λj=>
 bindB (Slot.isB (gdV j f) true) λd8=>
 bindB (Slot.isB (gdV j f) true) λd9=>
 bind1 (gd d9 (nilCheckV (gdV d8 b))) λr=>
 bindB (Slot.isB (gdV j f) true) λe0=>
 bind1 (gd e0 (faV 0 r)) λt=>
 bindB (Slot.isB (gdV j f) true) λe1=>
 bind1 (gd e1 (ldV (C.ti QH) false a t)) λu=>
 bindB (Slot.isB (gdV j f) true) λe2=>
 gB e2 QH .neq u (iv 2) λv=>
 iF d λe3=>
 bind1 (gd e3 (pickS (gdV j f) v (bv false))) λw=>
 pk d (bv true) w λx=>
 condS x (
 some (.ret (iv 29),a)) (
 bind1 (nilCheckV b) λy=>
 fa 0 y λz=>
 ld QH a z λk=>
 bn QH .eql k (iv 1) λA=>
 condS A (
 bind1 (nilCheckV b) λB=>
 fa 5 B λD=>
 ld Z6 a D λE=>
 ln Z6 E λF=>
 bn Q1 .eql F (iv 1) λG=>
 nt G λb3=>
 condS b3 (
 some (.ret (iv 19),a)) (
 some (.ret (iv 0),a))) (
 bn QH .eql k (iv 2) λH=>
 condS H (
 nt n λb4=>
 condS b4 (
 some (.ret (iv 19),a)) (
 some (.ret (iv 0),a))) (
 bn QH .eql k (iv 3) λI=>
 condS I (
 bind1 (nilCheckV b) λJ=>
 fa 2 J λL=>
 ld Q0 a L λM=>
 ca Q0N [M] a λN e=>
 nt N λO=>
 condS O (
 some (.ret (iv 8),e)) (
 bind1 (nilCheckV b) λP=>
 fa 3 P λR=>
 ld Q1 e R λU=>
 bn Q1 .geq U (iv 0) λg=>
 iT g λe4=>
 iT g λe5=>
 bind1 (gd e5 (nilCheckV (gdV e4 b))) λV=>
 iT g λe6=>
 bind1 (gd e6 (faV 3 V)) λW=>
 iT g λe7=>
 bind1 (gd e7 (ldV (C.ti Q1) false e W)) λY=>
 iT g λe8=>
 gB e8 Q1 .leq Y (iv 8) λa0=>
 pk g a0 (bv false) λl=>
 iT l λe9=>
 pk l (gdV e9 o) (bv false) λc=>
 iT c λf0=>
 iT c λf1=>
 bind1 (gd f1 (nilCheckV (gdV f0 b))) λa1=>
 iT c λf2=>
 bind1 (gd f2 (faV 4 a1)) λa2=>
 iT c λf3=>
 bind1 (gd f3 (ldV (C.ti Q0w) false e a2)) λa3=>
 iT c λf4=>
 gL f4 Q0w a3 λa4=>
 iT c λf5=>
 gB f5 Q1 .leq a4 (iv 64) λa5=>
 pk c a5 (bv false) λa6=>
 nt a6 λb5=>
 condS b5 (
 some (.ret (iv 19),e)) (
 some (.ret (iv 0),e)))) (
 bn QH .eql k (iv 4) λa7=>
 condS a7 (
 bind1 (nilCheckV b) λa8=>
 fa 4 a8 λa9=>
 ld Q0w a a9 λb0=>
 ln Q0w b0 λb1=>
 bn Q1 .eql b1 (iv 1) λb2=>
 nt b2 λb6=>
 condS b6 (
 some (.ret (iv 19),a)) (
 some (.ret (iv 0),a))) (
 bind1 (unS .not (bv true)) λb7=>
 condS b7 (
 some (.ret (iv 19),a)) (
 some (.ret (iv 0),a))))))):=by intros;unfold QJ;exact (Q0b _).trans (by kernel_rfl)
theorem Q4D(q:AV)(s:St):cw (.f Zt) [q] s =
 bx QZ (.val q) λd=>
 gC Q1w 0 d λa=>
 bind1 (nilCheckV a) λr=>
 fa 5 r λt=>
 ld Z6 s t λu=>
 ln Z6 u λv=>
 bn Q1 .gtr v (iv 0) λh=>
 bind1 (nilCheckV a) λx=>
 fa 6 x λy=>
 ld Q2J s y λz=>
 ln Q2J z λA=>
 bn Q1 .gtr A (iv 0) λb=>
 bind1 (nilCheckV a) λB=>
 fa 2 B λD=>
 ld Q0 s D λE=>
 bn Q0 .neq E (sv []) λe=>
 iF e λw=>
 iF e λb1=>
 bind1 (gd b1 (nilCheckV (gdV w a))) λF=>
 iF e λb2=>
 bind1 (gd b2 (faV 3 F)) λG=>
 iF e λb3=>
 bind1 (gd b3 (ldV (C.ti Q1) false s G)) λH=>
 iF e λb7=>
 gB b7 Q1 .neq H (iv 0) λI=>
 pk e (bv true) I λi=>
 bind1 (nilCheckV a) λJ=>
 fa 4 J λL=>
 ld Q0w s L λM=>
 ln Q0w M λN=>
 bn Q1 .gtr N (iv 0) λc=>
 bind1 (nilCheckV a) λO=>
 fa 0 O λP=>
 ld QH s P λg=>
 bn QH .eql g (iv 1) λR=>
 condS R (
 nt b λj=>
 iT j λd5=>
 iT j λd6=>
 bind1 (gd d6 (unS .not (gdV d5 i))) λU=>
 pk j U (bv false) λk=>
 iT k λd7=>
 iT k λd8=>
 bind1 (gd d8 (unS .not (gdV d7 c))) λV=>
 pk k V (bv false) λW=>
 QJ d a b c W s) (
 bn QH .eql g (iv 2) λY=>
 condS Y (
 nt h λl=>
 iT l λb4=>
 iT l λb5=>
 bind1 (gd b5 (unS .not (gdV b4 i))) λa1=>
 pk l a1 (bv false) λm=>
 iT m λb6=>
 iT m λb8=>
 bind1 (gd b8 (unS .not (gdV b6 c))) λa2=>
 pk m a2 (bv false) λa3=>
 QJ d a b c a3 s) (
 bn QH .eql g (iv 3) λa4=>
 condS a4 (
 nt h λn=>
 iT n λb9=>
 iT n λd0=>
 bind1 (gd d0 (unS .not (gdV b9 b))) λa5=>
 pk n a5 (bv false) λa6=>
 QJ d a b c a6 s) (
 bn QH .eql g (iv 4) λa7=>
 condS a7 (
 nt h λo=>
 iT o λd1=>
 iT o λd2=>
 bind1 (gd d2 (unS .not (gdV d1 b))) λa8=>
 pk o a8 (bv false) λp=>
 iT p λd3=>
 iT p λd4=>
 bind1 (gd d4 (unS .not (gdV d3 i))) λa9=>
 pk p a9 (bv false) λb0=>
 QJ d a b c b0 s) (
 QJ d a b c (bv false) s)))):=(Q5 _ _ _).trans (by kernel_rfl)
theorem Qdu(b:AV)(s:St):cw (.f Q0N) [b] s =
 bn Q0 .neq (.val b) (sv []) λc=>
 iT c λw=>
 iT c λq=>
 bind1 (gd q (indexS (C.ti Q0) (C.ti T_0) (gdV w (.val b)) (iv 0))) λo=>
 iT c λr=>
 cg r Q2m [o] s λp e=>
 pk c p (bv false) λd=>
 iT d λt=>
 iT d λu=>
 cg u Q2l [(gdV t (.val b))] e λi g=>
 pk d i (bv false) λa=>
 iT a λv=>
 iT a λx=>
 gB x Q0 .add (sv [32]) (gdV v (.val b)) λj=>
 iT a λy=>
 gB y Q0 .add j (sv [32]) λk=>
 iT a λz=>
 cg z Q1i [(.val (.str Q8b)),k] g λl h=>
 iT a λA=>
 gN A l λm=>
 pk a m (bv false) λn=>
 some (.ret n,h):=(Q5 _ _ _).trans (by kernel_rfl)
theorem Q86(l:AV)(s:St):cw (.f Q2n) [l] s =
 bx Q59 (.val l) λk=>
 gC Q2 3 k λD=>
 bx Q2 D λc=>
 pZ Q2 c λe=>
 gC Qd 2 k λE=>
 nt E λa=>
 iT a λw=>
 iT a λF=>
 gG F w Qa 0 e λn=>
 iT a λP=>
 gB P Qa .neq n (iv 0) λg=>
 iT a λi=>
 bindB (Slot.isB (gdV i g) false) λR=>
 bindB (Slot.isB (gdV i g) false) λU=>
 gG U R Q1 1 e λo=>
 bindB (Slot.isB (gdV i g) false) λV=>
 gB V Q1 .neq o (iv 0) λp=>
 iT a λW=>
 bind1 (gd W (pickS (gdV i g) (bv true) p)) λh=>
 iT a λj=>
 bindB (Slot.isB (gdV j h) false) λY=>
 bindB (Slot.isB (gdV j h) false) λG=>
 gG G Y Q0 2 e λq=>
 bindB (Slot.isB (gdV j h) false) λH=>
 gB H Q0 .neq q (sv []) λr=>
 iT a λI=>
 bind1 (gd I (pickS (gdV j h) (bv true) r)) λb=>
 iT a λd=>
 bindB (Slot.isB (gdV d b) false) λJ=>
 bindB (Slot.isB (gdV d b) false) λL=>
 gG L J Q8 3 e λt=>
 bindB (Slot.isB (gdV d b) false) λM=>
 gL M Q8 t λu=>
 bindB (Slot.isB (gdV d b) false) λN=>
 gB N Q1 .gtr u (iv 0) λv=>
 iT a λO=>
 bind1 (gd O (pickS (gdV d b) (bv true) v)) λx=>
 pk a x (bv false) λy=>
 condS y (
 some (.ret (iv 29),s)) (
 gC Q0 0 k λz=>
 ca Q1v [z] s λA m=>
 nt A λB=>
 condS B (
 some (.ret (iv 8),m)) (
 some (.ret (iv 0),m))):=(Q5 _ _ _).trans (by kernel_rfl)
theorem Q87(P:AV)(s:St):cw (.f Q2o) [P] s =
 bindL (boxCells (C.ti Q5a) (.val P)) λa=>
 bind1 (ofSlots (C.ti Q4) (List.take (C.ti Q4).size (List.drop 0 a))) λf9=>
 back (cal cw true (tgtV (.val (.fn Q0U [])) [f9]) s) λV R=>
 bind1 (extractS V 0) λg9=>
 bind1 (extractS V 1) λY=>
 bindL (boxCells (C.ti Q7) g9) λc=>
 bindL (putAt (List.map .val (C.ti Q7).zero) 0 c) λb=>
 bind1 (unS .not Y) λg=>
 bindB (Slot.isB g false) λw=>
 bindB (Slot.isB g false) λh4=>
 bind1 (gd h4 (bif w then (ofSlots (C.ti Qd) (List.take (C.ti Qd).size (List.drop 0 b))) else none)) λd4=>
 bindB (Slot.isB g false) λi3=>
 bind1 (gd i3 (unS .not d4)) λI=>
 bindB (Slot.isB g false) λM=>
 bindB (Slot.isB (gdV M I) true) λk2=>
 bindB (Slot.isB (gdV M I) true) λl3=>
 bind1 (gd l3 (bif k2 then (ofSlots (C.ti Q0) (List.take (C.ti Q0).size (List.drop 2 a))) else none)) λd5=>
 bindB (Slot.isB (gdV M I) true) λm3=>
 bind1 (gd m3 (binS (C.ti Q0) .neq d5 (.val (.str [])))) λd6=>
 bindB (Slot.isB g false) λn2=>
 bind1 (gd n2 (pickS (gdV M I) d6 (.val (.bool false)))) λd7=>
 bind1 (pickS g (.val (.bool true)) d7) λh=>
 bindB (Slot.isB h false) λo3=>
 bindB (Slot.isB h false) λp2=>
 bind1 (gd p2 (bif o3 then (ofSlots (C.ti Qd) (List.take (C.ti Qd).size (List.drop 1 b))) else none)) λd8=>
 bindB (Slot.isB h false) λh5=>
 bind1 (gd h5 (unS .not d8)) λJ=>
 bindB (Slot.isB h false) λL=>
 bindB (Slot.isB (gdV L J) true) λh6=>
 bindB (Slot.isB (gdV L J) true) λh7=>
 bind1 (gd h7 (bif h6 then (ofSlots (C.ti Q1) (List.take (C.ti Q1).size (List.drop 3 a))) else none)) λd9=>
 bindB (Slot.isB (gdV L J) true) λh8=>
 bind1 (gd h8 (binS (C.ti Q1) .neq d9 (.val (.int .i64 0)))) λe0=>
 bindB (Slot.isB h false) λh9=>
 bind1 (gd h9 (pickS (gdV L J) e0 (.val (.bool false)))) λe1=>
 bind1 (pickS h (.val (.bool true)) e1) λi=>
 bindB (Slot.isB i false) λi0=>
 bindB (Slot.isB i false) λi1=>
 bind1 (gd i1 (bif i0 then (ofSlots (C.ti Qd) (List.take (C.ti Qd).size (List.drop 2 b))) else none)) λe2=>
 bindB (Slot.isB i false) λi2=>
 bind1 (gd i2 (unS .not e2)) λt=>
 bindB (Slot.isB i false) λA=>
 bindB (Slot.isB (gdV A t) true) λi4=>
 bindB (Slot.isB (gdV A t) true) λi5=>
 bind1 (gd i5 (bif i4 then (ofSlots (C.ti Z6) (List.take (C.ti Z6).size (List.drop 5 a))) else none)) λe3=>
 bindB (Slot.isB (gdV A t) true) λi6=>
 bind1 (gd i6 (lenS (C.ti Z6) e3)) λe4=>
 bindB (Slot.isB (gdV A t) true) λi7=>
 bind1 (gd i7 (binS (C.ti Q1) .gtr e4 (.val (.int .i64 0)))) λe5=>
 bindB (Slot.isB i false) λi8=>
 bind1 (gd i8 (pickS (gdV A t) e5 (.val (.bool false)))) λe6=>
 bind1 (pickS i (.val (.bool true)) e6) λj=>
 bindB (Slot.isB j false) λi9=>
 bindB (Slot.isB j false) λj0=>
 bind1 (gd j0 (bif i9 then (ofSlots (C.ti Qd) (List.take (C.ti Qd).size (List.drop 3 b))) else none)) λe7=>
 bindB (Slot.isB j false) λj1=>
 bind1 (gd j1 (unS .not e7)) λu=>
 bindB (Slot.isB j false) λB=>
 bindB (Slot.isB (gdV B u) true) λj2=>
 bindB (Slot.isB (gdV B u) true) λj3=>
 bind1 (gd j3 (bif j2 then (ofSlots (C.ti Q0x) (List.take (C.ti Q0x).size (List.drop 6 a))) else none)) λe8=>
 bindB (Slot.isB (gdV B u) true) λj4=>
 bind1 (gd j4 (lenS (C.ti Q0x) e8)) λe9=>
 bindB (Slot.isB (gdV B u) true) λj5=>
 bind1 (gd j5 (binS (C.ti Q1) .gtr e9 (.val (.int .i64 0)))) λf0=>
 bindB (Slot.isB j false) λj6=>
 bind1 (gd j6 (pickS (gdV B u) f0 (.val (.bool false)))) λf1=>
 bind1 (pickS j (.val (.bool true)) f1) λk=>
 bindB (Slot.isB k false) λj7=>
 bindB (Slot.isB k false) λj8=>
 bind1 (gd j8 (bif j7 then (ofSlots (C.ti Q1) (List.take (C.ti Q1).size (List.drop 5 b))) else none)) λf2=>
 bindB (Slot.isB k false) λj9=>
 bind1 (gd j9 (binS (C.ti Q1) .eql f2 (.val (.int .i64 0)))) λv=>
 bindB (Slot.isB k false) λD=>
 bindB (Slot.isB (gdV D v) true) λk0=>
 bindB (Slot.isB (gdV D v) true) λk1=>
 bind1 (gd k1 (bif k0 then (ofSlots (C.ti Zu) (List.take (C.ti Zu).size (List.drop 4 a))) else none)) λf3=>
 bindB (Slot.isB (gdV D v) true) λk3=>
 bind1 (gd k3 (lenS (C.ti Zu) f3)) λf4=>
 bindB (Slot.isB (gdV D v) true) λk4=>
 bind1 (gd k4 (binS (C.ti Q1) .gtr f4 (.val (.int .i64 0)))) λf5=>
 bindB (Slot.isB k false) λk5=>
 bind1 (gd k5 (pickS (gdV D v) f5 (.val (.bool false)))) λf6=>
 bind1 (pickS k (.val (.bool true)) f6) λf7=>
 condS f7 (
 some (.ret (.val (.int .i64 29)),R)) (
 bind1 (ofSlots (C.ti Q4) (List.take (C.ti Q4).size (List.drop 0 a))) λf8=>
 bind1 (binS (C.ti Q4) .eql f8 (.val (.int .i64 2))) λx=>
 bindB (Slot.isB x true) λk6=>
 bindB (Slot.isB x true) λk7=>
 bind1 (gd k7 (bif k6 then (ofSlots (C.ti Q0) (List.take (C.ti Q0).size (List.drop 2 a))) else none)) λg0=>
 bindB (Slot.isB x true) λk8=>
 back (cal cw k8 (tgtV (.val (.fn Q0N [])) [g0]) R) λg1 W=>
 bindB (Slot.isB x true) λk9=>
 bind1 (gd k9 (unS .not g1)) λg2=>
 bind1 (pickS x g2 (.val (.bool false))) λl=>
 bindB (Slot.isB l false) λl0=>
 bindB (Slot.isB l false) λl1=>
 bind1 (gd l1 (bif l0 then (ofSlots (C.ti Q4) (List.take (C.ti Q4).size (List.drop 0 a))) else none)) λg3=>
 bindB (Slot.isB l false) λl2=>
 bind1 (gd l2 (binS (C.ti Q4) .eql g3 (.val (.int .i64 3)))) λy=>
 bindB (Slot.isB l false) λE=>
 bindB (Slot.isB (gdV E y) true) λl4=>
 bindB (Slot.isB (gdV E y) true) λl5=>
 bind1 (gd l5 (bif l4 then (ofSlots (C.ti Q0) (List.take (C.ti Q0).size (List.drop 2 a))) else none)) λg4=>
 bindB (Slot.isB (gdV E y) true) λl6=>
 back (cal cw l6 (tgtV (.val (.fn Q06 [])) [g4]) W) λg5 U=>
 bindB (Slot.isB (gdV E y) true) λl7=>
 bind1 (gd l7 (unS .not g5)) λg6=>
 bindB (Slot.isB l false) λl8=>
 bind1 (gd l8 (pickS (gdV E y) g6 (.val (.bool false)))) λg7=>
 bind1 (pickS l (.val (.bool true)) g7) λg8=>
 condS g8 (
 some (.ret (.val (.int .i64 8)),U)) (
 bind1 (ofSlots (C.ti Q4) (List.take (C.ti Q4).size (List.drop 0 a))) λh0=>
 bind1 (binS (C.ti Q4) .eql h0 (.val (.int .i64 1))) λz=>
 bindB (Slot.isB z true) λl9=>
 bindB (Slot.isB z true) λm0=>
 bind1 (gd m0 (bif l9 then (ofSlots (C.ti Q1) (List.take (C.ti Q1).size (List.drop 3 a))) else none)) λh1=>
 bindB (Slot.isB z true) λm1=>
 back (cal cw m1 (tgtV (.val (.fn Q2j [])) [h1]) U) λh2 O=>
 bindB (Slot.isB z true) λm2=>
 bind1 (gd m2 (unS .not h2)) λh3=>
 bind1 (pickS z h3 (.val (.bool false))) λm=>
 bindB (Slot.isB m false) λm4=>
 bindB (Slot.isB m false) λm5=>
 bind1 (gd m5 (bif m4 then (ofSlots (C.ti Q4) (List.take (C.ti Q4).size (List.drop 0 a))) else none)) λa1=>
 bindB (Slot.isB m false) λm6=>
 bind1 (gd m6 (binS (C.ti Q4) .eql a1 (.val (.int .i64 13)))) λe=>
 bindB (Slot.isB m false) λn=>
 bindB (Slot.isB (gdV n e) true) λm7=>
 bindB (Slot.isB (gdV n e) true) λm8=>
 bind1 (gd m8 (bif m7 then (ofSlots (C.ti Q1) (List.take (C.ti Q1).size (List.drop 3 a))) else none)) λa2=>
 bindB (Slot.isB (gdV n e) true) λm9=>
 bind1 (gd m9 (binS (C.ti Q1) .lss a2 (.val (.int .i64 1)))) λH=>
 bindB (Slot.isB (gdV n e) true) λN=>
 bindB (Slot.isB (gdV N H) false) λn0=>
 bindB (Slot.isB (gdV N H) false) λn1=>
 bind1 (gd n1 (bif n0 then (ofSlots (C.ti Q1) (List.take (C.ti Q1).size (List.drop 3 a))) else none)) λa3=>
 bindB (Slot.isB (gdV N H) false) λn3=>
 bind1 (gd n3 (binS (C.ti Q1) .gtr a3 (.val (.int .i64 9)))) λa4=>
 bindB (Slot.isB (gdV n e) true) λn4=>
 bind1 (gd n4 (pickS (gdV N H) (.val (.bool true)) a4)) λa5=>
 bindB (Slot.isB m false) λn5=>
 bind1 (gd n5 (pickS (gdV n e) a5 (.val (.bool false)))) λa6=>
 bind1 (pickS m (.val (.bool true)) a6) λa7=>
 condS a7 (
 some (.ret (.val (.int .i64 2)),O)) (
 bind1 (ofSlots (C.ti Zu) (List.take (C.ti Zu).size (List.drop 4 a))) λa8=>
 bind1 (lenS (C.ti Zu) a8) λa9=>
 bind1 (ofSlots (C.ti Q1) (List.take (C.ti Q1).size (List.drop 4 b))) λb0=>
 bind1 (binS (C.ti Q1) .lss a9 b0) λd=>
 bindB (Slot.isB d false) λn6=>
 bindB (Slot.isB d false) λn7=>
 bind1 (gd n7 (bif n6 then (ofSlots (C.ti Zu) (List.take (C.ti Zu).size (List.drop 4 a))) else none)) λb1=>
 bindB (Slot.isB d false) λn8=>
 bind1 (gd n8 (lenS (C.ti Zu) b1)) λb2=>
 bindB (Slot.isB d false) λn9=>
 bindB (Slot.isB d false) λo0=>
 bind1 (gd o0 (bif n9 then (ofSlots (C.ti Q1) (List.take (C.ti Q1).size (List.drop 5 b))) else none)) λb3=>
 bindB (Slot.isB d false) λo1=>
 bind1 (gd o1 (binS (C.ti Q1) .gtr b2 b3)) λb4=>
 bind1 (pickS d (.val (.bool true)) b4) λo=>
 bindB (Slot.isB o false) λo2=>
 bindB (Slot.isB o false) λo4=>
 bind1 (gd o4 (bif o2 then (ofSlots (C.ti Qd) (List.take (C.ti Qd).size (List.drop 2 b))) else none)) λp=>
 bindB (Slot.isB o false) λF=>
 bindB (Slot.isB (gdV F p) true) λo5=>
 bindB (Slot.isB (gdV F p) true) λo6=>
 bind1 (gd o6 (bif o5 then (ofSlots (C.ti Z6) (List.take (C.ti Z6).size (List.drop 5 a))) else none)) λb5=>
 bindB (Slot.isB (gdV F p) true) λo7=>
 bind1 (gd o7 (lenS (C.ti Z6) b5)) λb6=>
 bindB (Slot.isB (gdV F p) true) λo8=>
 bind1 (gd o8 (binS (C.ti Q1) .eql b6 (.val (.int .i64 0)))) λb7=>
 bindB (Slot.isB o false) λo9=>
 bind1 (gd o9 (pickS (gdV F p) b7 (.val (.bool false)))) λb8=>
 bind1 (pickS o (.val (.bool true)) b8) λq=>
 bindB (Slot.isB q false) λp0=>
 bindB (Slot.isB q false) λp1=>
 bind1 (gd p1 (bif p0 then (ofSlots (C.ti Qd) (List.take (C.ti Qd).size (List.drop 3 b))) else none)) λr=>
 bindB (Slot.isB q false) λG=>
 bindB (Slot.isB (gdV G r) true) λp3=>
 bindB (Slot.isB (gdV G r) true) λp4=>
 bind1 (gd p4 (bif p3 then (ofSlots (C.ti Q0x) (List.take (C.ti Q0x).size (List.drop 6 a))) else none)) λb9=>
 bindB (Slot.isB (gdV G r) true) λp5=>
 bind1 (gd p5 (lenS (C.ti Q0x) b9)) λd0=>
 bindB (Slot.isB (gdV G r) true) λp6=>
 bind1 (gd p6 (binS (C.ti Q1) .eql d0 (.val (.int .i64 0)))) λd1=>
 bindB (Slot.isB q false) λp7=>
 bind1 (gd p7 (pickS (gdV G r) d1 (.val (.bool false)))) λd2=>
 bind1 (pickS q (.val (.bool true)) d2) λd3=>
 condS d3 (
 some (.ret (.val (.int .i64 19)),O)) (
 some (.ret (.val (.int .i64 0)),O))))):=(Q5 _ _ _).trans (by kernel_rfl)
noncomputable def QU:List Slot->Slot->Slot->Slot->Slot->St->Res:=λa b c d e s=>pwD Q1e [.seqR,.seqR,.seqR] Tryz.f142 [(1,.var a),(3,.s b),(4,.s c),(5,.s d),(6,.s e)] s
theorem Q5P:∀ a e b x u r,QU a e b x u r =
 nt e λm=>
 iT m λw=>
 iT m λb1=>
 gG b1 w Q0 2 a λz=>
 iT m λd1=>
 gB d1 Q0 .neq z (sv []) λA=>
 pk m A (bv false) λf=>
 iF f λd9=>
 iF f λf0=>
 bind1 (gd f0 (unS .not (gdV d9 b))) λn=>
 iF f λq=>
 bindB (Slot.isB (gdV q n) true) λf4=>
 bindB (Slot.isB (gdV q n) true) λf5=>
 gG f5 f4 Q1 3 a λB=>
 bindB (Slot.isB (gdV q n) true) λf6=>
 gB f6 Q1 .neq B (iv 0) λD=>
 iF f λf7=>
 bind1 (gd f7 (pickS (gdV q n) D (bv false))) λE=>
 pk f (bv true) E λg=>
 iF g λb2=>
 iF g λb3=>
 gB b3 Q1 .eql (gdV b2 u) (iv 0) λh=>
 iF g λk=>
 bindB (Slot.isB (gdV k h) true) λb4=>
 bindB (Slot.isB (gdV k h) true) λb5=>
 gG b5 b4 Za 4 a λF=>
 bindB (Slot.isB (gdV k h) true) λb6=>
 gL b6 Za F λG=>
 bindB (Slot.isB (gdV k h) true) λb7=>
 gB b7 Q1 .gtr G (iv 0) λH=>
 iF g λb8=>
 bind1 (gd b8 (pickS (gdV k h) H (bv false))) λI=>
 pk g (bv true) I λJ=>
 condS J (
 some (.ret (iv 29),r)) (
 gC QL 0 a λL=>
 bn QL .eql L (iv 4) λi=>
 iT i λb9=>
 iT i λd0=>
 gG d0 b9 Q0 2 a λM=>
 iT i λd2=>
 cg d2 Q06 [M] r λN y=>
 iT i λd3=>
 gN d3 N λO=>
 pk i O (bv false) λc=>
 iF c λo=>
 iF c λp=>
 bindB (Slot.isB (gdV p (gdV o e)) true) λd4=>
 bindB (Slot.isB (gdV p (gdV o e)) true) λd5=>
 gG d5 d4 QL 0 a λP=>
 bindB (Slot.isB (gdV p (gdV o e)) true) λd6=>
 gB d6 QL .neq P (iv 4) λR=>
 iF c λd7=>
 bind1 (gd d7 (pickS (gdV p (gdV o e)) R (bv false))) λj=>
 iF c λl=>
 bindB (Slot.isB (gdV l j) true) λd8=>
 bindB (Slot.isB (gdV l j) true) λe0=>
 gG e0 d8 Q0 2 a λU=>
 bindB (Slot.isB (gdV l j) true) λe1=>
 cg e1 Q0N [U] y λV v=>
 bindB (Slot.isB (gdV l j) true) λe2=>
 gN e2 V λW=>
 iF c λe3=>
 bind1 (gd e3 (pickS (gdV l j) W (bv false))) λY=>
 pk c (bv true) Y λa0=>
 condS a0 (
 some (.ret (iv 8),v)) (
 iT b λe4=>
 iT b λe5=>
 gG e5 e4 Q1 3 a λa1=>
 iT b λe6=>
 cg e6 Q2j [a1] v λa2 t=>
 iT b λe7=>
 gN e7 a2 λa3=>
 pk b a3 (bv false) λa4=>
 condS a4 (
 some (.ret (iv 2),t)) (
 gC Za 4 a λa5=>
 ln Za a5 λa6=>
 bn Q1 .lss a6 x λd=>
 iF d λe8=>
 iF d λe9=>
 gG e9 e8 Za 4 a λa7=>
 iF d λf1=>
 gL f1 Za a7 λa8=>
 iF d λf2=>
 iF d λf3=>
 gB f3 Q1 .gtr a8 (gdV f2 u) λa9=>
 pk d (bv true) a9 λb0=>
 condS b0 (
 some (.ret (iv 19),t)) (
 some (.ret (iv 0),t))))):=by intros;unfold QU;exact (Q0b _).trans (by kernel_rfl)
theorem Q88(c:AV)(s:St):cw (.f Q1e) [c] s =
 bx ZK (.val c) λa=>
 gC QL 0 a λb=>
 bn QL .eql b (iv 1) λd=>
 condS d (
 QU a (bv false) (bv false) (iv 0) (iv 0) s) (
 bn QL .eql b (iv 2) λe=>
 condS e (
 QU a (bv true) (bv false) (iv 0) (iv 0) s) (
 bn QL .eql b (iv 3) λg=>
 condS g (
 QU a (bv false) (bv true) (iv 0) (iv 0) s) (
 bn QL .eql b (iv 4) λh=>
 condS h (
 QU a (bv true) (bv false) (iv 0) (iv 1) s) (
 bn QL .eql b (iv 5) λi=>
 condS i (
 QU a (bv false) (bv false) (iv 2) (iv 8) s) (
 bn QL .eql b (iv 6) λj=>
 condS j (
 QU a (bv true) (bv false) (iv 1) (iv 1) s) (
 some (.ret (iv 29),s))))))):=(Q5 _ _ _).trans (by kernel_rfl)
noncomputable def Z9:Slot->Slot->Slot->St->Res:=λa b c s=>pwD Q0u [.seqR,.seqR,.seqR,.seqR,.seqR] Tryz.f143 [(3,.s a),(4,.s b),(5,.s c)] s
noncomputable def Zy:List Slot->Slot->Slot->Slot->Slot->Slot->St->Res:=λa b c d e f s=>pwD Q0u [.seqR,.seqR,.seqR,.seqR,.seqL,.seqR,.block,.seqR] Tryz.f143 [(1,.var a),(3,.s b),(4,.s c),(5,.s d),(56,.s e),(61,.s f)] s
theorem Q6H:∀ c d e b,Z9 c d e b =
 bn Q1 .lss c d λa=>
 iF a λh=>
 iF a λi=>
 iF a λj=>
 gB j Q1 .gtr (gdV h c) (gdV i e) λf=>
 pk a (bv true) f λg=>
 condS g (
 some (.ret (iv 19),b)) (
 some (.ret (iv 0),b)):=by intros;unfold Z9;exact (Q0b _).trans (by kernel_rfl)
theorem Q6G:∀ f b d g c h a,Zy f b d g c h a =
 condS h (
 Z9 b d g a) (
 bn Q0 .eql c (sv [114,101,102]) λl=>
 condS l (
 Z9 b (iv 1) (iv 1) a) (
 bn Q0 .eql c (sv [45,62]) λm=>
 condS m (
 Z9 b (iv 2) (iv 2) a) (
 bn Q0 .eql c (sv [42]) λn=>
 condS n (
 Z9 b (iv 2) (iv 8) a) (
 gC Q0 2 f λi=>
 ca Q0N [i] a λj e=>
 nt j λk=>
 condS k (
 some (.ret (iv 8),e)) (
 Z9 b d (iv 8) e))))):=by intros;unfold Zy;exact (Q0b _).trans (by kernel_rfl)
theorem Q97(o:AV)(s:St):cw (.f Q0u) [o] s =
 bx Q2 (.val o) λa=>
 gC Q8 3 a λR=>
 ln Q8 R λg=>
 gC Qa 0 a λt=>
 bn Qa .eql t (iv 1) λc=>
 iT c λw=>
 iT c λU=>
 gG U w Q0 2 a λu=>
 iT c λa6=>
 gB a6 Q0 .neq u (sv []) λm=>
 iT c λn=>
 bindB (Slot.isB (gdV n m) false) λb3=>
 bindB (Slot.isB (gdV n m) false) λb4=>
 gB b4 Q1 .gtr (gdV b3 g) (iv 0) λv=>
 iT c λb5=>
 bind1 (gd b5 (pickS (gdV n m) (bv true) v)) λx=>
 pk c x (bv false) λd=>
 iF d λb6=>
 iF d λb7=>
 gG b7 b6 Qa 0 a λy=>
 iF d λb8=>
 gB b8 Qa .eql y (iv 2) λh=>
 iF d λk=>
 bindB (Slot.isB (gdV k h) true) λV=>
 bindB (Slot.isB (gdV k h) true) λW=>
 gG W V Q1 1 a λz=>
 bindB (Slot.isB (gdV k h) true) λY=>
 gB Y Q1 .neq z (iv 0) λA=>
 iF d λa1=>
 bind1 (gd a1 (pickS (gdV k h) A (bv false))) λB=>
 pk d (bv true) B λe=>
 iF e λa2=>
 iF e λa3=>
 gG a3 a2 Qa 0 a λD=>
 iF e λa4=>
 gB a4 Qa .neq D (iv 1) λi=>
 iF e λl=>
 bindB (Slot.isB (gdV l i) true) λa5=>
 bindB (Slot.isB (gdV l i) true) λa7=>
 gG a7 a5 Qa 0 a λE=>
 bindB (Slot.isB (gdV l i) true) λa8=>
 gB a8 Qa .neq E (iv 2) λF=>
 iF e λa9=>
 bind1 (gd a9 (pickS (gdV l i) F (bv false))) λG=>
 pk e (bv true) G λH=>
 condS H (
 some (.ret (iv 29),s)) (
 gC Qa 0 a λI=>
 bn Qa .eql I (iv 1) λj=>
 iT j λb0=>
 iT j λb1=>
 gG b1 b0 Q1 1 a λJ=>
 iT j λb2=>
 gB b2 Q1 .lss J (iv 0) λL=>
 pk j L (bv false) λM=>
 condS M (
 some (.ret (iv 2),s)) (
 gC Qa 0 a λN=>
 bn Qa .eql N (iv 1) λO=>
 condS O (
 some (.ret (iv 0),s)) (
 gC Q0 2 a λb=>
 bn Q0 .eql b (sv [105,110,116]) λp=>
 condS p (
 Zy a g (iv 0) (iv 0) b p s) (
 bn Q0 .eql b (sv [98,111,111,108]) λq=>
 condS q (
 Zy a g (iv 0) (iv 0) b q s) (
 bn Q0 .eql b (sv [117,110,105,116]) λr=>
 condS r (
 Zy a g (iv 0) (iv 0) b r s) (
 bn Q0 .eql b (sv [101,120,110]) λP=>
 Zy a g (iv 0) (iv 0) b P s)))))):=(Q5 _ _ _).trans (by kernel_rfl)
theorem Qbi(a:AV)(s:St):cw (.f Q2m) [a] s =
 bn Qb .geq (.val a) (.val (.int .u8 97)) λb=>
 iT b λw=>
 iT b λh=>
 gB h Qb .leq (gdV w (.val a)) (.val (.int .u8 122)) λg=>
 pk b g (bv false) λc=>
 iF c λi=>
 iF c λj=>
 gB j Qb .eql (gdV i (.val a)) (.val (.int .u8 95)) λd=>
 pk c (bv true) d λe=>
 some (.ret e,s):=(Q5 _ _ _).trans (by kernel_rfl)
noncomputable def Q1P:Slot->Slot->St->Res:=λa b s=>lpD Q2l [.seqR,.seqL,.seqR,.block] Tryz.f150 [(0,.s a),(3,.s b)] s
theorem Q52:∀ c e f,Q1P c e f =
 ln Q0 c λx=>
 bn Q1 .lss e x λy=>
 condS y (
 bind1 (indexS (C.ti Q0) (C.ti T_0) c e) λa=>
 ca Q2m [a] f λm k=>
 nt m λd=>
 iT d λw=>
 iT d λz=>
 cg z Q2i [(gdV w a)] k λn j=>
 iT d λB=>
 gN B n λo=>
 pk d o (bv false) λb=>
 iT b λD=>
 iT b λE=>
 gB E Qb .lss (gdV D a) (.val (.int .u8 48)) λg=>
 iT b λi=>
 bindB (Slot.isB (gdV i g) false) λF=>
 bindB (Slot.isB (gdV i g) false) λG=>
 gB G Qb .gtr (gdV F a) (.val (.int .u8 57)) λp=>
 iT b λH=>
 bind1 (gd H (pickS (gdV i g) (bv true) p)) λq=>
 pk b q (bv false) λh=>
 iT h λI=>
 iT h λA=>
 gB A Qb .neq (gdV I a) (.val (.int .u8 39)) λr=>
 pk h r (bv false) λt=>
 condS t (
 some (.ret (bv false),j)) (
 nx e λl=>
 Q1P c l j)) (
 ln Q0 c λu=>
 bn Q1 .leq u (iv 32) λv=>
 some (.ret v,f)):=by intros;unfold Q1P;exact (Qj _ _ _ _ _ _).trans (by kernel_rfl)
theorem Qdv(a:AV)(s:St):cw (.f Q2l) [a] s =
 Q1P (.val a) (iv 1) s:=(Q5 _ _ _).trans (by kernel_rfl)
theorem Q92(a:AV)(s:St):cw (.f Q1v) [a] s =
 bn Q0 .neq (.val a) (sv []) λb=>
 iT b λw=>
 iT b λk=>
 bind1 (gd k (indexS (C.ti Q0) (C.ti T_0) (gdV w (.val a)) (iv 0))) λi=>
 iT b λl=>
 cg l Q2i [i] s λj d=>
 pk b j (bv false) λc=>
 iT c λm=>
 iT c λn=>
 cg n Q2l [(gdV m (.val a))] d λg e=>
 pk c g (bv false) λh=>
 some (.ret h,e):=(Q5 _ _ _).trans (by kernel_rfl)
end Go.Proofs.YtobelgghegmhhaaGreatDoor