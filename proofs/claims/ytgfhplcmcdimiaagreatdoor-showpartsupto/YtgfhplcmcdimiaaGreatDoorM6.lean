/- A part of the proof: G2. -/
import Derived.Test.YtgfhplcmcdimiaaGreatDoorM4
set_option linter.unusedVariables false
set_option linter.unusedSimpArgs false
namespace Go.Proofs.YtgfhplcmcdimiaaGreatDoor
open Go Go.Am
theorem QaX(i:AV)(j:AV)(k:AV)(s:St):cw (.f Q3V) [i,j,k] s =
 bx Q6 (.val i) λe=>
 bx Ql (.val j) λg=>
 bx Qo (.val k) λh=>
 gA Q6 e λa7=>
 ca Q6e [a7,(iv 500)] s λa8 n=>
 nt a8 λd=>
 iF d λw=>
 bind1 (gd w (ofSlots (C.ti Ql) (List.take (C.ti Ql).size g))) λz=>
 iF d λa9=>
 cg a9 Q6f [z,(iv 300)] n λA q=>
 iF d λb7=>
 gN b7 A λB=>
 pk d (bv true) B λc=>
 iF c λb8=>
 bind1 (gd b8 (ofSlots (C.ti Qo) (List.take (C.ti Qo).size h))) λD=>
 iF c λb9=>
 cg b9 Q7d [D,(iv 500)] q λE l=>
 iF c λd0=>
 gN d0 E λF=>
 pk c (bv true) F λG=>
 condS G (
 ca Q4s [] l λH r=>
 some (.ret H,r)) (
 gA Q6 e λI=>
 cn Q2Z [I] l λJ t=>
 gA Q6 e λL=>
 cn Q82 [L] t λM u=>
 bn Q0 .eql J M λa=>
 iT a λd1=>
 bind1 (gd d1 (ofSlots (C.ti Ql) (List.take (C.ti Ql).size g))) λN=>
 iT a λd2=>
 back (noPan (cal cw d2 (tgtV (.val (.fn Q3K [])) [N]) u)) λO v=>
 iT a λd3=>
 bind1 (gd d3 (ofSlots (C.ti Ql) (List.take (C.ti Ql).size g))) λP=>
 iT a λd4=>
 back (noPan (cal cw d4 (tgtV (.val (.fn Q5h [])) [P]) v)) λR x=>
 iT a λb0=>
 gB b0 Q0 .eql O R λU=>
 pk a U (bv false) λb=>
 iT b λb1=>
 bind1 (gd b1 (ofSlots (C.ti Qo) (List.take (C.ti Qo).size h))) λV=>
 iT b λb2=>
 back (noPan (cal cw b2 (tgtV (.val (.fn Q47 [])) [V]) x)) λW y=>
 iT b λb3=>
 bind1 (gd b3 (ofSlots (C.ti Qo) (List.take (C.ti Qo).size h))) λY=>
 iT b λb4=>
 back (noPan (cal cw b4 (tgtV (.val (.fn Q83 [])) [Y]) y)) λa3 o=>
 iT b λb5=>
 gB b5 Q0 .eql W a3 λa4=>
 pk b a4 (bv false) λm=>
 iT m λb6=>
 back (noPan (cal cw b6 (tgtV (.val (.fn Q4s [])) []) o)) λa5 p=>
 pk m a5 (bv false) λa6=>
 some (.ret a6,p)):=(Q3 _ _ _).trans (by kernel_rfl)
theorem QdY(a:AV)(b:AV)(s:St):cw (.f Q6e) [a,b] s =
 bx Q6 (.val a) λc=>
 gA Q6 c λe=>
 ca Q0U [e,(.val b),(iv 0)] s λg d=>
 bn Q1 .geq g (iv 0) λh=>
 some (.ret h,d):=(Q3 _ _ _).trans (by kernel_rfl)
theorem QdZ(a:AV)(b:AV)(s:St):cw (.f Q6f) [a,b] s =
 bx Ql (.val a) λc=>
 gA Ql c λe=>
 ca Q0V [e,(.val b),(iv 0)] s λg d=>
 bn Q1 .geq g (iv 0) λh=>
 some (.ret h,d):=(Q3 _ _ _).trans (by kernel_rfl)
theorem Qfj(a:AV)(b:AV)(s:St):cw (.f Q7d) [a,b] s =
 bx Qo (.val a) λc=>
 gA Qo c λe=>
 ca Q1m [e,(.val b),(iv 0)] s λg d=>
 bn Q1 .geq g (iv 0) λh=>
 some (.ret h,d):=(Q3 _ _ _).trans (by kernel_rfl)
theorem QeQ(s:St):cw (.f Q4s) [] s =
 ca Q2w [(iv 1)] s λU e=>
 ca Q2w [(iv 2)] e λW m=>
 ca Q2w [(iv 3)] m λY n=>
 ca Q3F [(iv 2),W,Y] n λa0 o=>
 ca Q3F [(iv 2),U,a0] o λa1 p=>
 ca Q2Z [a1] p λa2 q=>
 ca Q2w [(iv 1)] q λv r=>
 ca Q2w [(iv 2)] r λx t=>
 ca Q3F [(iv 2),v,x] t λy u=>
 ca Q2w [(iv (-3))] u λz g=>
 ca Q3F [(iv 2),y,z] g λA h=>
 ca Q2Z [A] h λB i=>
 bd Qo [(0,Qt,(iv 1)),(1,Q1,(iv 27))] λD=>
 bd Qo [(0,Qt,(iv 2)),(2,Q0,(sv [105,110,116]))] λE=>
 bs Qo [D,E] λF=>
 bd Qo [(0,Qt,(iv 2)),(2,Q0,(sv [45,62])),(3,Qn,F)] λG=>
 ca Q47 [G] i λH j=>
 bn Q0 .eql a2 (sv [49,32,45,32,40,50,32,45,32,51,41]) λc=>
 iT c λw=>
 iT c λa3=>
 gB a3 Q0 .eql (gdV w B) (sv [49,32,45,32,50,32,45,32,126,51]) λI=>
 pk c I (bv false) λd=>
 iT d λa4=>
 iT d λa5=>
 gB a5 Q0 .eql (gdV a4 H) (sv [39,98,49,32,45,62,32,105,110,116]) λJ=>
 pk d J (bv false) λa=>
 iT a λa6=>
 bind1 (gd a6 (buildS (C.ti Q6).zero [])) λL=>
 iT a λa7=>
 cg a7 Q2Z [L] j λM k=>
 iT a λa8=>
 gB a8 Q0 .eql M (sv []) λN=>
 pk a N (bv false) λb=>
 iT b λa9=>
 bind1 (gd a9 (buildS (C.ti Ql).zero [(0,(C.ti Qi).size,(iv 1))])) λO=>
 iT b λb0=>
 cg b0 Q3K [O] k λP l=>
 iT b λb1=>
 gB b1 Q0 .eql P (sv [95]) λR=>
 pk b R (bv false) λV=>
 some (.ret V,l):=(Q3 _ _ _).trans (by kernel_rfl)
theorem QiO(a:AV)(s:St):cw (.f Q2Z) [a] s =
 bx Q6 (.val a) λb=>
 gA Q6 b λg=>
 ca Q5p [g] s λh c=>
 bind1 (fieldS (C.ti Qa) (C.ti QB) 0 h) λi=>
 bn QB .neq i (iv 0) λj=>
 condS j (
 some (.ret (sv []),c)) (
 gA Q6 b λk=>
 ca ZL [k] c λl d=>
 ca Q30 [l] d λm e=>
 some (.ret m,e)):=(Q3 _ _ _).trans (by kernel_rfl)
theorem QgT(a:AV)(s:St):cw (.f Q82) [a] s =
 bx Q6 (.val a) λb=>
 gA Q6 b λe=>
 ca Q4F [e] s λg c=>
 bind1 (fieldS (C.ti Qa) (C.ti QB) 0 g) λh=>
 bn QB .neq h (iv 0) λi=>
 condS i (
 some (.ret (sv []),c)) (
 gA Q6 b λj=>
 ca Zg [j] c λk d=>
 some (.ret k,d)):=(Q3 _ _ _).trans (by kernel_rfl)
theorem Qeb(a:AV)(s:St):cw (.f Q3K) [a] s =
 bx Ql (.val a) λb=>
 gA Ql b λg=>
 ca Q5q [g] s λh c=>
 bind1 (fieldS (C.ti Qa) (C.ti QB) 0 h) λi=>
 bn QB .neq i (iv 0) λj=>
 condS j (
 some (.ret (sv []),c)) (
 gA Ql b λk=>
 ca Q2A [k] c λl d=>
 ca Q30 [l] d λm e=>
 some (.ret m,e)):=(Q3 _ _ _).trans (by kernel_rfl)
theorem Qd3(a:AV)(s:St):cw (.f Q5h) [a] s =
 bx Ql (.val a) λb=>
 gA Ql b λe=>
 ca Q4G [e] s λg c=>
 bind1 (fieldS (C.ti Qa) (C.ti QB) 0 g) λh=>
 bn QB .neq h (iv 0) λi=>
 condS i (
 some (.ret (sv []),c)) (
 gA Ql b λj=>
 ca Q0q [j] c λk d=>
 some (.ret k,d)):=(Q3 _ _ _).trans (by kernel_rfl)
theorem Qbf(a:AV)(s:St):cw (.f Q47) [a] s =
 bx Qo (.val a) λb=>
 bx Q1 (iv 256) λc=>
 sto (St.addLoc s (.var (List.map .val (C.ti Q1).zero))) (.val (.vp s.locs.length 0)) c λe=>
 gA Qo b λi=>
 ca Q1N [i,(.val (.vp s.locs.length 0))] e λj d=>
 nt j λk=>
 condS k (
 some (.ret (sv []),d)) (
 gA Qo b λl=>
 ca Q0e [l,(iv 0)] d λm g=>
 ca Q30 [m] g λn h=>
 some (.ret n,h)):=(Q3 _ _ _).trans (by kernel_rfl)
theorem QgV(a:AV)(s:St):cw (.f Q83) [a] s =
 bx Qo (.val a) λb=>
 gA Qo b λe=>
 ca Q3W [e] s λg c=>
 nt g λh=>
 condS h (
 some (.ret (sv []),c)) (
 gA Qo b λi=>
 ca Zu [i] c λj d=>
 some (.ret j,d)):=(Q3 _ _ _).trans (by kernel_rfl)
noncomputable def Q1A:Slot->Slot->List Slot->Slot->Slot->St->Res:=λa b e c d s=>lpD Q0U [.seqR,.seqR,.seqR,.seqL,.seqR,.block] Tryz.f18 [(1,.s a),(2,.s b),(3,.var e),(23,.s c),(24,.s d)] s
theorem Q6W:∀ e a b f d c,Q1A e a b f d c =
 bn Q1 .lss d f λl=>
 condS l (
 gC Q8 4 b λm=>
 ix Q6 m d λn=>
 ld Q6 c n λo=>
 nx a λp=>
 ca Q0U [o,e,p] c λi g=>
 bn Q1 .lss i (iv 0) λq=>
 condS q (
 some (.ret (iv (-1)),g)) (
 nx d λr=>
 Q1A i a b f r g)) (
 gC Qf 5 b λt=>
 nx a λu=>
 ca Q07 [t,e,u] c λj h=>
 bn Q1 .lss j (iv 0) λv=>
 condS v (
 some (.ret (iv (-1)),h)) (
 gC QG 6 b λw=>
 nx a λx=>
 ca Q0p [w,j,x] h λy k=>
 some (.ret y,k))):=by intros;unfold Q1A;exact (Qd _ _ _ _ _ _).trans (by kernel_rfl)
theorem Qe2(d:AV)(e:AV)(a:AV)(s:St):cw (.f Q0U) [d,e,a] s =
 bx Q6 (.val d) λb=>
 bn Q1 .sub (.val e) (iv 1) λo=>
 gC Q0 2 b λh=>
 ln Q0 h λi=>
 bn Q1 .quo i (iv 100) λj=>
 bn Q1 .sub o j λg=>
 bn Q1 .lss g (iv 0) λc=>
 iF c λw=>
 iF c λp=>
 gB p Q1 .gtr (gdV w (.val a)) (iv 130) λk=>
 pk c (bv true) k λl=>
 condS l (
 some (.ret (iv (-1)),s)) (
 gC Q8 4 b λm=>
 ln Q8 m λn=>
 Q1A g (.val a) b n (iv 0) s):=(Q3 _ _ _).trans (by kernel_rfl)
noncomputable def Q1B:Slot->Slot->List Slot->Slot->Slot->St->Res:=λa b e c d s=>lpD Q0V [.seqR,.seqR,.seqR,.seqL,.seqR,.block] Tryz.f19 [(1,.s a),(2,.s b),(3,.var e),(23,.s c),(24,.s d)] s
theorem Q6X:∀ c d f e b a,Q1B c d f e b a =
 bn Q1 .lss b e λi=>
 condS i (
 gC Qv 4 f λj=>
 ix Ql j b λk=>
 ld Ql a k λl=>
 nx d λm=>
 ca Q0V [l,c,m] a λh g=>
 bn Q1 .lss h (iv 0) λn=>
 condS n (
 some (.ret (iv (-1)),g)) (
 nx b λo=>
 Q1B h d f e o g)) (
 some (.ret c,a)):=by intros;unfold Q1B;exact (Qd _ _ _ _ _ _).trans (by kernel_rfl)
theorem Qe3(d:AV)(e:AV)(a:AV)(s:St):cw (.f Q0V) [d,e,a] s =
 bx Ql (.val d) λb=>
 bn Q1 .sub (.val e) (iv 1) λo=>
 gC Q0 2 b λh=>
 ln Q0 h λi=>
 bn Q1 .quo i (iv 100) λj=>
 bn Q1 .sub o j λg=>
 bn Q1 .lss g (iv 0) λc=>
 iF c λw=>
 iF c λp=>
 gB p Q1 .gtr (gdV w (.val a)) (iv 130) λk=>
 pk c (bv true) k λl=>
 condS l (
 some (.ret (iv (-1)),s)) (
 gC Qv 4 b λm=>
 ln Qv m λn=>
 Q1B g (.val a) b n (iv 0) s):=(Q3 _ _ _).trans (by kernel_rfl)
noncomputable def Q2r:Slot->Slot->List Slot->Slot->Slot->St->Res:=λa b e c d s=>lpD Q1m [.seqR,.seqR,.seqR,.seqL,.seqR,.block] Tryz.f20 [(1,.s a),(2,.s b),(3,.var e),(23,.s c),(24,.s d)] s
theorem Q7w:∀ c d f e b a,Q2r c d f e b a =
 bn Q1 .lss b e λi=>
 condS i (
 gC Qn 3 f λj=>
 ix Qo j b λk=>
 ld Qo a k λl=>
 nx d λm=>
 ca Q1m [l,c,m] a λh g=>
 bn Q1 .lss h (iv 0) λn=>
 condS n (
 some (.ret (iv (-1)),g)) (
 nx b λo=>
 Q2r h d f e o g)) (
 some (.ret c,a)):=by intros;unfold Q2r;exact (Qd _ _ _ _ _ _).trans (by kernel_rfl)
theorem Qfm(d:AV)(e:AV)(a:AV)(s:St):cw (.f Q1m) [d,e,a] s =
 bx Qo (.val d) λb=>
 bn Q1 .sub (.val e) (iv 1) λo=>
 gC Q0 2 b λh=>
 ln Q0 h λi=>
 bn Q1 .quo i (iv 100) λj=>
 bn Q1 .sub o j λg=>
 bn Q1 .lss g (iv 0) λc=>
 iF c λw=>
 iF c λp=>
 gB p Q1 .gtr (gdV w (.val a)) (iv 130) λk=>
 pk c (bv true) k λl=>
 condS l (
 some (.ret (iv (-1)),s)) (
 gC Qn 3 b λm=>
 ln Qn m λn=>
 Q2r g (.val a) b n (iv 0) s):=(Q3 _ _ _).trans (by kernel_rfl)
theorem Qjy(a:AV)(b:AV)(d:AV)(s:St):cw (.f Q3F) [a,b,d] s =
 bx Q6 (.val b) λe=>
 bx Q6 (.val d) λg=>
 gA Q6 e λk=>
 gA Q6 g λl=>
 bs Q6 [k,l] λi=>
 bd Q6 [(0,Q2,(iv 13)),(3,Q1,(.val a)),(4,Q8,i)] λj=>
 bx Q6 j λc=>
 pZ Q6 c λh=>
 gA Q6 h λv=>some (.ret v,s):=(Q3 _ _ _).trans (by kernel_rfl)
theorem Ql5(a:AV)(s:St):cw (.f Q2w) [a] s =
 bd Q6 [(0,Q2,(iv 1)),(3,Q1,(.val a))] λd=>
 bx Q6 d λc=>
 pZ Q6 c λb=>
 gA Q6 b λv=>some (.ret v,s):=(Q3 _ _ _).trans (by kernel_rfl)
theorem Qdc(a:AV)(s:St):cw (.f Q5p) [a] s =
 bx Q6 (.val a) λb=>
 bindA (avs b) λl1=>
 ld Q6 s (.val (.cp l1)) λh=>
 ca Q3Z [h] s λi e=>
 bind1 (fnS Q3X [(.val (.cp l1))]) λj=>
 ca Q3q [i,j] e λk g=>
 bx Qa k λc=>
 pZ Qa c λd=>
 gA Qa d λv=>some (.ret v,g):=(Q3 _ _ _).trans (by kernel_rfl)
noncomputable def ZI:Slot->Slot->Slot->Slot->Slot->St->Res:=λa b c d e s=>lpD Q30 [.seqR,.seqR,.seqL,.seqR,.block] Tryz.f24 [(0,.s a),(3,.s b),(6,.s c),(7,.s d),(8,.s e)] s
theorem Q8N:∀ f b g h c e,ZI f b g h c e =
 bn Q1 .lss c h λL=>
 condS L (
 ix Q0 g c λr=>
 ld Q0 e r λi=>
 bn Q1 .gtr c (iv 0) λa=>
 iT a λw=>
 bind1 (gd w (bslF (C.ti Q0).size [(sv [40]),(sv [126]),(sv [33])])) λt=>
 iT a λM=>
 back (noPan (cal cw M (tgtV (.val (.fn Qq [])) [t]) e)) λu j=>
 iT a λU=>
 iT a λV=>
 iT a λW=>
 gB W Q1 .sub (gdV V c) (iv 1) λv=>
 iT a λY=>
 bind1 (gd Y (ixS (C.ti Q0).size (gdV U f) v)) λx=>
 iT a λa0=>
 bind1 (gd a0 (ldV (C.ti Q0) true j x)) λy=>
 iT a λa1=>
 back (noPan (cal cw a1 (tgtV (.val (.fn Qz [])) [u,y]) j)) λz l=>
 iT a λa2=>
 gN a2 z λA=>
 pk a A (bv false) λd=>
 iT d λa3=>
 bind1 (gd a3 (bslF (C.ti Q0).size [(sv [41]),(sv [44]),(sv [59])])) λB=>
 iT d λN=>
 back (noPan (cal cw N (tgtV (.val (.fn Qq [])) [B]) l)) λD m=>
 iT d λO=>
 iT d λP=>
 back (noPan (cal cw P (tgtV (.val (.fn Qz [])) [D,(gdV O i)]) m)) λE k=>
 iT d λR=>
 gN R E λF=>
 pk d F (bv false) λG=>
 condS G (
 ca Q0i [b,(.val (.int .u8 32))] k λa4 n=>
 ca Zl [b,i] n λa5 o=>
 nx c λH=>
 ZI f b g h H o) (
 ca Zl [b,i] k λa6 p=>
 nx c λI=>
 ZI f b g h I p)) (
 ca Q15 [b] e λJ q=>
 some (.ret J,q)):=by intros;unfold ZI;exact (Qd _ _ _ _ _ _).trans (by kernel_rfl)
theorem QiQ(a:AV)(s:St):cw (.f Q30) [a] s =
 ln Qj (.val a) λb=>
 ZI (.val a) (.val (.vp s.locs.length 0)) (.val a) b (iv 0) (St.addLocT s (.var (List.map .val (C.ti Zz).zero)) Zz):=(Q3 _ _ _).trans (by kernel_rfl)
noncomputable def Q4g:Slot->Slot->St->Res:=λa b s=>pwD ZL [.seqR,.seqR,.seqL,.seqR,.block,.seqR,.els,.seqR,.els,.seqR,.els,.seqR,.els,.seqR,.els,.seqR,.els,.seqR,.thn,.seqR,.seqR] Tryz.f25 [(1,.s a),(4,.s b)] s
noncomputable def Q4h:Slot->Slot->Slot->Slot->Slot->St->Res:=λd e a b c s=>lpD ZL [.seqR,.seqR,.seqL,.seqR,.block,.seqR,.els,.seqR,.els,.seqR,.els,.seqR,.els,.seqR,.els,.seqR,.els,.seqR,.els,.seqR,.thn,.seqR,.seqL,.seqR,.block] Tryz.f25 [(3,.s d),(6,.s e),(102,.s a),(103,.s b),(104,.s c)] s
theorem Qft:∀ b c a,Q4g b c a =
 fa 4 b λf=>
 ld Q8 a f λg=>
 ix Q6 g (iv 1) λh=>
 ld Q6 a h λi=>
 ca Zd [i,(iv 9)] a λj d=>
 bs Qj [c,j] λk=>
 ca Qs [k] d λl e=>
 some (.ret l,e):=by intros;unfold Q4g;exact (QM _).trans (by kernel_rfl)
theorem Q9q:∀ e f c d b a,Q4h e f c d b a =
 bn Q1 .lss b d λo=>
 condS o (
 ix QL c b λp=>
 ld QL a p λq=>
 bx QL q λh=>
 pZ QL h λg=>
 gA QL g λr=>
 ca Q5l [r] a λt i=>
 bs Qj [f,t] λu=>
 ca Qs [u] i λv j=>
 nx b λw=>
 Q4h e v c d w j) (
 bs Q0 [(sv [105,110])] λx=>
 ca Qq [x] a λy k=>
 back (cal cw true (tgtV e [(iv 0)]) k) λz l=>
 bs Q0 [(sv [101,110,100])] λA=>
 ca Qq [A] l λB m=>
 bs Qj [f,y,z,B] λD=>
 ca Qs [D] m λE n=>
 some (.ret E,n)):=by intros;unfold Q4h;exact (Qd _ _ _ _ _ _).trans (by kernel_rfl)
theorem ZH(i:AV)(s:St):cw (.f ZL) [i] s =
 bx Q6 (.val i) λo=>
 bindA (avs o) λl1=>
 bind1 (fnS Q14 [(.val (.cp l1))]) λb=>
 fa 0 (.val (.cp l1)) λW=>
 ld Q2 s W λa=>
 bn Q2 .eql a (iv 1) λa8=>
 condS a8 (
 fa 3 (.val (.cp l1)) λb6=>
 ld Q1 s b6 λd6=>
 ca Q4x [d6] s λe5 p=>
 some (.ret e5,p)) (
 bn Q2 .eql a (iv 2) λe8=>
 condS e8 (
 fa 2 (.val (.cp l1)) λe9=>
 ld Q0 s e9 λf0=>
 bs Q0 [f0] λf1=>
 ca Qq [f1] s λf2 u=>
 some (.ret f2,u)) (
 bn Q2 .eql a (iv 3) λf3=>
 condS f3 (
 fa 4 (.val (.cp l1)) λf4=>
 ld Q8 s f4 λf5=>
 ln Q8 f5 λf6=>
 bn Q1 .gtr f6 (iv 0) λf7=>
 condS f7 (
 fa 2 (.val (.cp l1)) λf8=>
 ld Q0 s f8 λf9=>
 ld Q6 s (.val (.cp l1)) λg0=>
 ca Q31 [f9,g0] s λg1 B=>
 some (.ret g1,B)) (
 fa 2 (.val (.cp l1)) λg2=>
 ld Q0 s g2 λg3=>
 bs Q0 [g3] λg4=>
 ca Qq [g4] s λg5 N=>
 some (.ret g5,N))) (
 bn Q2 .eql a (iv 4) λg6=>
 condS g6 (
 fa 4 (.val (.cp l1)) λg7=>
 ld Q8 s g7 λg8=>
 ln Q8 g8 λg9=>
 ca QX [(sv [44]),g9,b] s λh0 P=>
 ca Zx [h0] P λh1 R=>
 some (.ret h1,R)) (
 bn Q2 .eql a (iv 10) λh2=>
 condS h2 (
 fa 4 (.val (.cp l1)) λh3=>
 ld Q8 s h3 λh4=>
 ln Q8 h4 λh5=>
 ca QX [(sv [59]),h5,b] s λh6 U=>
 ca Zx [h6] U λh7 V=>
 some (.ret h7,V)) (
 bn Q2 .eql a (iv 5) λh8=>
 condS h8 (
 bs Q0 [(sv [102,110])] λh9=>
 cn Qq [h9] s λi0 l=>
 fa 5 (.val (.cp l1)) λi1=>
 bind1 (ldV (C.ti Qf) true l i1) λi2=>
 cn Q3l [i2] l λi3 q=>
 bs Qj [i0,i3] λi4=>
 cn Qs [i4] q λi5 r=>
 some (.ret i5,r)) (
 bn Q2 .eql a (iv 6) λi6=>
 condS i6 (
 fa 4 (.val (.cp l1)) λi7=>
 ld Q8 s i7 λi8=>
 ix Q6 i8 (iv 0) λi9=>
 ld Q6 s i9 λj0=>
 ca Zd [j0,(iv 8)] s λn e=>
 fa 4 (.val (.cp l1)) λj1=>
 ld Q8 e j1 λj2=>
 ix Q6 j2 (iv 0) λj3=>
 ld Q6 e j3 λj4=>
 bx Q6 j4 λc=>
 pZ Q6 c λh=>
 gC Q2 0 h λj5=>
 bn Q2 .eql j5 (iv 3) λd=>
 iT d λw=>
 iT d λk5=>
 gG k5 w Q8 4 h λj6=>
 iT d λk6=>
 gL k6 Q8 j6 λj7=>
 iT d λk7=>
 gB k7 Q1 .eql j7 (iv 0) λj8=>
 pk d j8 (bv false) λg=>
 iT g λk8=>
 iT g λk9=>
 gG k9 k8 Q0 2 h λj9=>
 iT g λl0=>
 gB l0 Q0 .neq j9 (sv [40,41]) λk0=>
 pk g k0 (bv false) λk1=>
 condS k1 (
 ca Zx [n] e λk2 t=>
 Q4g (.val (.cp l1)) k2 t) (
 Q4g (.val (.cp l1)) n e)) (
 bn Q2 .eql a (iv 7) λk3=>
 condS k3 (
 bs Q0 [(sv [108,101,116])] λk4=>
 ca Qq [k4] s λY j=>
 fa 6 (.val (.cp l1)) λa1=>
 ld QG j a1 λm=>
 ln QG m λa2=>
 Q4h b Y m a2 (iv 0) j) (
 bn Q2 .eql a (iv 8) λa3=>
 condS a3 (
 bs Q0 [(sv [105,102])] λa4=>
 ca Qq [a4] s λa5 v=>
 back (cal cw true (tgtV b [(iv 0)]) v) λa6 x=>
 bs Q0 [(sv [116,104,101,110])] λa7=>
 ca Qq [a7] x λa9 y=>
 back (cal cw true (tgtV b [(iv 1)]) y) λb0 z=>
 bs Q0 [(sv [101,108,115,101])] λb1=>
 ca Qq [b1] z λb2 A=>
 back (cal cw true (tgtV b [(iv 2)]) A) λb3 D=>
 bs Qj [a5,a6,a9,b0,b2,b3] λb4=>
 ca Qs [b4] D λb5 E=>
 some (.ret b5,E)) (
 bn Q2 .eql a (iv 9) λb7=>
 condS b7 (
 bs Q0 [(sv [99,97,115,101])] λb8=>
 cn Qq [b8] s λb9 F=>
 back (noPan (cal cw true (tgtV b [(iv 0)]) F)) λd0 G=>
 bs Q0 [(sv [111,102])] λd1=>
 cn Qq [d1] G λd2 k=>
 fa 5 (.val (.cp l1)) λd3=>
 bind1 (ldV (C.ti Qf) true k d3) λd4=>
 cn Q3l [d4] k λd5 H=>
 bs Qj [b9,d0,d2,d5] λd7=>
 cn Qs [d7] H λd8 I=>
 some (.ret d8,I)) (
 bn Q2 .eql a (iv 12) λd9=>
 condS d9 (
 bs Q0 [(sv [114,97,105,115,101])] λe0=>
 ca Qq [e0] s λe1 J=>
 back (cal cw true (tgtV b [(iv 0)]) J) λe2 L=>
 bs Qj [e1,e2] λe3=>
 ca Qs [e3] L λe4 M=>
 some (.ret e4,M)) (
 ld Q6 s (.val (.cp l1)) λe6=>
 ca Q48 [e6] s λe7 O=>
 some (.ret e7,O)))))))))))):=(Q3 _ _ _).trans (by kernel_rfl)
theorem QbO(a:AV)(s:St):cw (.f Q4F) [a] s =
 bx Q6 (.val a) λb=>
 gA Q6 b λi=>
 cn ZJ [i] s λj e=>
 gA Q6 b λk=>
 cn Z9 [k] e λl g=>
 cn Q1l [j,l] g λm h=>
 bx Qa m λc=>
 pZ Qa c λd=>
 gA Qa d λv=>some (.ret v,h):=(Q3 _ _ _).trans (by kernel_rfl)
theorem QI(c:AV)(s:St):cw (.f Zg) [c] s =
 bx Q6 (.val c) λa=>
 gC Q2 0 a λb=>
 bn Q2 .eql b (iv 1) λf8=>
 condS f8 (
 gC Q1 3 a λh5=>
 ca Q3I [h5] s λi4 h=>
 some (.ret i4,h)) (
 bn Q2 .eql b (iv 2) λH=>
 condS H (
 gC Q0 2 a λa4=>
 some (.ret a4,s)) (
 bn Q2 .eql b (iv 3) λb6=>
 condS b6 (
 gC Q8 4 a λb7=>
 ln Q8 b7 λb8=>
 bn Q1 .eql b8 (iv 0) λb9=>
 condS b9 (
 gC Q0 2 a λd0=>
 some (.ret d0,s)) (
 gC Q0 2 a λd1=>
 bn Q0 .add d1 (sv [32]) λd2=>
 gC Q8 4 a λd3=>
 ix Q6 d3 (iv 0) λd4=>
 ld Q6 s d4 λd5=>
 cn QA [d5,(iv 9)] s λd6 t=>
 bn Q0 .add d2 d6 λd7=>
 some (.ret d7,t))) (
 bn Q2 .eql b (iv 4) λd8=>
 condS d8 (
 gC Q8 4 a λd9=>
 ca Q21 [d9,(sv [44,32])] s λe0 u=>
 some (.ret e0,u)) (
 bn Q2 .eql b (iv 10) λe1=>
 condS e1 (
 gC Q8 4 a λe2=>
 ca Q21 [e2,(sv [59,32])] s λe3 v=>
 some (.ret e3,v)) (
 bn Q2 .eql b (iv 5) λe4=>
 condS e4 (
 gC Qf 5 a λe5=>
 ca Q0A [e5] s λe6 w=>
 bn Q0 .add (sv [102,110,32]) e6 λe7=>
 some (.ret e7,w)) (
 bn Q2 .eql b (iv 7) λe8=>
 condS e8 (
 gC QG 6 a λe9=>
 cn Q5i [e9,(sv [32])] s λf0 d=>
 bn Q0 .add (sv [108,101,116,32]) f0 λf1=>
 bn Q0 .add f1 (sv [105,110,32]) λf2=>
 gC Q8 4 a λf3=>
 ix Q6 f3 (iv 0) λf4=>
 bind1 (ldV (C.ti Q6) true d f4) λf5=>
 cn QA [f5,(iv 0)] d λf6 x=>
 bn Q0 .add f2 f6 λf7=>
 bn Q0 .add f7 (sv [32,101,110,100]) λf9=>
 some (.ret f9,x)) (
 bn Q2 .eql b (iv 8) λg0=>
 condS g0 (
 gC Q8 4 a λg1=>
 ix Q6 g1 (iv 0) λg2=>
 bind1 (ldV (C.ti Q6) true s g2) λg3=>
 cn QA [g3,(iv 0)] s λg4 e=>
 bn Q0 .add (sv [105,102,32]) g4 λg5=>
 bn Q0 .add g5 (sv [32,116,104,101,110,32]) λg6=>
 gC Q8 4 a λg7=>
 ix Q6 g7 (iv 1) λg8=>
 bind1 (ldV (C.ti Q6) true e g8) λg9=>
 cn QA [g9,(iv 0)] e λh0 g=>
 bn Q0 .add g6 h0 λh1=>
 bn Q0 .add h1 (sv [32,101,108,115,101,32]) λh2=>
 gC Q8 4 a λh3=>
 ix Q6 h3 (iv 2) λh4=>
 bind1 (ldV (C.ti Q6) true g h4) λh6=>
 cn QA [h6,(iv 0)] g λh7 i=>
 bn Q0 .add h2 h7 λh8=>
 some (.ret h8,i)) (
 bn Q2 .eql b (iv 9) λh9=>
 condS h9 (
 gC Q8 4 a λi0=>
 ix Q6 i0 (iv 0) λi1=>
 ld Q6 s i1 λi2=>
 cn QA [i2,(iv 0)] s λi3 j=>
 bn Q0 .add (sv [99,97,115,101,32]) i3 λi5=>
 bn Q0 .add i5 (sv [32,111,102,32]) λi6=>
 gC Qf 5 a λi7=>
 cn Q0A [i7] j λi8 k=>
 bn Q0 .add i6 i8 λi9=>
 some (.ret i9,k)) (
 bn Q2 .eql b (iv 11) λj0=>
 condS j0 (
 gC Q8 4 a λj1=>
 ix Q6 j1 (iv 0) λy=>
 ld Q6 s y λz=>
 cn QA [z,(iv 3)] s λA l=>
 bn Q0 .add A (sv [32,104,97,110,100,108,101,32]) λB=>
 gC Qf 5 a λD=>
 cn Q0A [D] l λE m=>
 bn Q0 .add B E λF=>
 some (.ret F,m)) (
 bn Q2 .eql b (iv 12) λG=>
 condS G (
 gC Q8 4 a λI=>
 ix Q6 I (iv 0) λJ=>
 ld Q6 s J λL=>
 ca QA [L,(iv 0)] s λM n=>
 bn Q0 .add (sv [114,97,105,115,101,32]) M λN=>
 some (.ret N,n)) (
 bn Q2 .eql b (iv 16) λO=>
 condS O (
 gC Q8 4 a λP=>
 ix Q6 P (iv 0) λR=>
 ld Q6 s R λU=>
 ca QA [U,(iv 9)] s λV o=>
 bn Q0 .add (sv [114,101,102,32]) V λW=>
 some (.ret W,o)) (
 bn Q2 .eql b (iv 17) λY=>
 condS Y (
 gC Q8 4 a λa1=>
 ix Q6 a1 (iv 0) λa2=>
 ld Q6 s a2 λa3=>
 ca QA [a3,(iv 9)] s λa5 p=>
 bn Q0 .add (sv [33]) a5 λa6=>
 some (.ret a6,p)) (
 bn Q2 .eql b (iv 19) λa7=>
 condS a7 (
 gC Q8 4 a λa8=>
 ix Q6 a8 (iv 0) λa9=>
 ld Q6 s a9 λb0=>
 ca QA [b0,(iv 9)] s λb1 q=>
 bn Q0 .add (sv [112,114,105,110,116,32]) b1 λb2=>
 some (.ret b2,q)) (
 bn Q2 .eql b (iv 20) λb3=>
 condS b3 (
 some (.ret (sv [114,101,97,100,32,40,41]),s)) (
 gA Q6 a λb4=>
 ca Q90 [b4] s λb5 r=>
 some (.ret b5,r)))))))))))))))):=(Q3 _ _ _).trans (by kernel_rfl)
theorem Qdd(a:AV)(s:St):cw (.f Q5q) [a] s =
 bx Ql (.val a) λb=>
 bindA (avs b) λl1=>
 ld Ql s (.val (.cp l1)) λh=>
 ca Q6h [h] s λi e=>
 bind1 (fnS Q3Y [(.val (.cp l1))]) λj=>
 ca Q3q [i,j] e λk g=>
 bx Qa k λc=>
 pZ Qa c λd=>
 gA Qa d λv=>some (.ret v,g):=(Q3 _ _ _).trans (by kernel_rfl)
theorem QjQ(a:AV)(s:St):cw (.f Q2A) [a] s =
 bx Ql (.val a) λb=>
 gA Ql b λd=>
 ca Q23 [d,(iv 0)] s λe c=>
 some (.ret e,c):=(Q3 _ _ _).trans (by kernel_rfl)
theorem QbP(a:AV)(s:St):cw (.f Q4G) [a] s =
 bx Ql (.val a) λb=>
 gA Ql b λi=>
 cn Q0z [i] s λj e=>
 gA Ql b λk=>
 cn Zf [k] e λl g=>
 cn Q1l [j,l] g λm h=>
 bx Qa m λc=>
 pZ Qa c λd=>
 gA Qa d λv=>some (.ret v,h):=(Q3 _ _ _).trans (by kernel_rfl)
noncomputable def Q2H:List Slot->Slot->Slot->Slot->Slot->St->Res:=λa d e b c s=>pwD Q0q [.seqR,.seqR,.seqL,.seqR,.block,.seqR,.els,.seqR,.els,.seqR,.els,.seqR,.thn,.seqL,.seqR,.block,.loop,.seqR,.seqR,.seqL,.block,.seqR,.seqR] Tryz.f31 [(1,.var a),(3,.s d),(4,.s e),(29,.s b),(30,.s c)] s
noncomputable def Q1e:List Slot->Slot->Slot->Slot->St->Res:=λa c b d s=>lpD Q0q [.seqR,.seqR,.seqL,.seqR,.block,.seqR,.els,.seqR,.els,.seqR,.els,.seqR,.thn,.seqL,.seqR,.block] Tryz.f31 [(1,.var a),(3,.s c),(29,.s b),(30,.s d)] s
theorem Q65:∀ b e f c d a,Q2H b e f c d a =
 gC Qv 4 b λh=>
 ix Ql h f λi=>
 ld Ql a i λj=>
 ca Q0M [j,(iv 0)] a λk g=>
 bn Q0 .add e k λl=>
 nx d λm=>
 Q1e b l c m g:=by intros;unfold Q2H;exact (QM _).trans (by kernel_rfl)
theorem Q66:∀ e d c a b,Q1e e d c a b =
 bn Q1 .lss a c λf=>
 condS f (
 bn Q1 .gtr a (iv 0) λg=>
 condS g (
 bn Q0 .add d (sv [44,32]) λh=>
 Q2H e h a c a b) (
 Q2H e d a c a b)) (
 bn Q0 .add (sv [40]) d λi=>
 bn Q0 .add i (sv [41]) λj=>
 some (.ret j,b)):=by intros;unfold Q1e;exact (Qd _ _ _ _ _ _).trans (by kernel_rfl)
theorem Qd6(c:AV)(s:St):cw (.f Q0q) [c] s =
 bx Ql (.val c) λa=>
 gC Qi 0 a λb=>
 bn Qi .eql b (iv 1) λI=>
 condS I (
 some (.ret (sv [95]),s)) (
 bn Qi .eql b (iv 3) λh=>
 condS h (
 gC Q1 3 a λi=>
 ca Q3I [i] s λj d=>
 some (.ret j,d)) (
 bn Qi .eql b (iv 6) λk=>
 condS k (
 gC Q0 2 a λl=>
 bn Q0 .add l (sv [32,97,115,32]) λm=>
 gC Qv 4 a λn=>
 ix Ql n (iv 0) λo=>
 ld Ql s o λp=>
 cn Q0M [p,(iv 0)] s λq e=>
 bn Q0 .add m q λr=>
 some (.ret r,e)) (
 bn Qi .eql b (iv 5) λt=>
 condS t (
 gC Qv 4 a λu=>
 ln Qv u λv=>
 Q1e a (sv []) v (iv 0) s) (
 gC Qv 4 a λw=>
 ln Qv w λx=>
 bn Q1 .gtr x (iv 0) λy=>
 condS y (
 gC Q0 2 a λz=>
 bn Q0 .add z (sv [32]) λA=>
 gC Qv 4 a λB=>
 ix Ql B (iv 0) λD=>
 ld Ql s D λE=>
 cn Q0M [E,(iv 2)] s λF g=>
 bn Q0 .add A F λG=>
 some (.ret G,g)) (
 gC Q0 2 a λH=>
 some (.ret H,s)))))):=(Q3 _ _ _).trans (by kernel_rfl)
noncomputable def Zq:List Slot->Slot->Slot->St->Res:=λa b c s=>pwD Q1N [.seqR,.seqR,.seqR,.seqR,.seqR,.seqR] Tryz.f32 [(2,.var a),(3,.s b),(6,.s c)] s
noncomputable def Q0n:List Slot->Slot->Slot->Slot->Slot->St->Res:=λa b c d e s=>pwD Q1N [.seqR,.seqR,.seqR,.seqR,.seqR,.seqL,.seqR,.block,.seqR] Tryz.f32 [(2,.var a),(3,.s b),(5,.s c),(52,.s d),(87,.s e)] s
theorem Q8O:∀ c d a b,Zq c d a b =
 iT a λk=>
 iT a λl=>
 gG l k Qn 3 c λf=>
 iT a λm=>
 bind1 (gd m (fnS Zs [d])) λg=>
 iT a λn=>
 cg n Zv [f,g] b λh e=>
 iT a λo=>
 gN o h λi=>
 pk a i (bv false) λj=>
 some (.ret j,e):=by intros;unfold Zq;exact (QM _).trans (by kernel_rfl)
theorem Q5O:∀ b f c h n d,Q0n b f c h n d =
 condS n (
 bn Q1 .eql c (iv 0) λN=>
 Zq b f N d) (
 bn Q0 .eql h (sv [114,101,102]) λO=>
 condS O (
 bn Q1 .eql c (iv 1) λP=>
 Zq b f P d) (
 bn Q0 .eql h (sv [45,62]) λR=>
 condS R (
 bn Q1 .eql c (iv 2) λq=>
 Zq b f q d) (
 bn Q0 .eql h (sv [42]) λr=>
 condS r (
 bn Q1 .geq c (iv 2) λj=>
 iT j λU=>
 iT j λV=>
 gB V Q1 .leq (gdV U c) (iv 8) λt=>
 pk j t (bv false) λu=>
 Zq b f u d) (
 gC Q0 2 b λv=>
 ca Q58 [v] d λm i=>
 ex m 0 λk=>
 ex m 1 λw=>
 bx Qa w λp=>
 pZ Qa p λo=>
 gC QB 0 o λx=>
 bn QB .eql x (iv 0) λg=>
 iT g λW=>
 iT g λY=>
 gL Y Q0W (gdV W k) λy=>
 iT g λa0=>
 gB a0 Q1 .eql y (iv 1) λz=>
 pk g z (bv false) λe=>
 iT e λa1=>
 iT e λa2=>
 bind1 (gd a2 (ixS (C.ti Q9).size (gdV a1 k) (iv 0))) λA=>
 iT e λa3=>
 bind1 (gd a3 (faV 0 A)) λB=>
 iT e λa4=>
 bind1 (gd a4 (ldV (C.ti Z3) false i B)) λD=>
 iT e λa5=>
 gB a5 Z3 .eql D (iv 2) λE=>
 pk e E (bv false) λa=>
 iT a λa6=>
 iT a λa7=>
 bind1 (gd a7 (ixS (C.ti Q9).size (gdV a6 k) (iv 0))) λF=>
 iT a λa8=>
 bind1 (gd a8 (faV 2 F)) λG=>
 iT a λa9=>
 bind1 (gd a9 (ldV (C.ti Q0) false i G)) λH=>
 iT a λb0=>
 iT a λb1=>
 gG b1 b0 Q0 2 b λI=>
 iT a λb2=>
 gB b2 Q0 .eql H I λJ=>
 pk a J (bv false) λl=>
 iT l λb3=>
 iT l λb4=>
 gB b4 Q1 .leq (gdV b3 c) (iv 8) λL=>
 pk l L (bv false) λM=>
 Zq b f M i)))):=by intros;unfold Q0n;exact (QM _).trans (by kernel_rfl)
theorem Q5N(k:AV)(l:AV)(s:St):cw (.f Q1N) [k,l] s =
 bx Qo (.val k) λa=>
 bx Q3M (.val l) λq=>
 bindA (avs q) λl3=>
 ld Q3M s (.val (.cp l3)) λo=>
 bind1 (nilCheckV o) λr=>
 ld Q1 s r λt=>
 bn Q1 .sub t (iv 1) λu=>
 bind1 (nilCheckV o) λv=>
 bx Q1 u λc=>
 sto s v c λb=>
 ld Q3M b (.val (.cp l3)) λx=>
 bind1 (nilCheckV x) λy=>
 ld Q1 b y λz=>
 bn Q1 .lss z (iv 0) λA=>
 condS A (
 some (.ret (bv false),b)) (
 gC Qn 3 a λB=>
 ln Qn B λe=>
 gC Qt 0 a λD=>
 bn Qt .eql D (iv 1) λE=>
 condS E (
 gC Q1 1 a λF=>
 bn Q1 .geq F (iv 0) λg=>
 iT g λw=>
 iT g λV=>
 gG V w Q1 1 a λG=>
 iT g λY=>
 gB Y Q1 .leq G (iv 1000) λH=>
 pk g H (bv false) λh=>
 iT h λa2=>
 iT h λa3=>
 gG a3 a2 Q0 2 a λI=>
 iT h λa4=>
 gB a4 Q0 .eql I (sv []) λJ=>
 pk h J (bv false) λj=>
 iT j λa5=>
 iT j λa6=>
 gB a6 Q1 .eql (gdV a5 e) (iv 0) λL=>
 pk j L (bv false) λM=>
 some (.ret M,b)) (
 gC Qt 0 a λN=>
 bn Qt .neq N (iv 2) λi=>
 iF i λa7=>
 iF i λa8=>
 gG a8 a7 Q1 1 a λO=>
 iF i λW=>
 gB W Q1 .neq O (iv 0) λP=>
 pk i (bv true) P λR=>
 condS R (
 some (.ret (bv false),b)) (
 gC Q0 2 a λd=>
 bn Q0 .eql d (sv [105,110,116]) λm=>
 condS m (
 Q0n a (.val (.cp l3)) e d m b) (
 bn Q0 .eql d (sv [98,111,111,108]) λn=>
 condS n (
 Q0n a (.val (.cp l3)) e d n b) (
 bn Q0 .eql d (sv [117,110,105,116]) λp=>
 condS p (
 Q0n a (.val (.cp l3)) e d p b) (
 bn Q0 .eql d (sv [101,120,110]) λU=>
 Q0n a (.val (.cp l3)) e d U b)))))):=(Q3 _ _ _).trans (by kernel_rfl)
noncomputable def Q4j:Slot->Slot->Slot->St->Res:=λa b c s=>pwD Q0e [.seqR,.seqR,.seqR,.seqR] Tryz.f33 [(1,.s a),(5,.s b),(6,.s c)] s
theorem Qfu:∀ c d b a,Q4j c d b a =
 bn Q1 .lss d c λf=>
 condS f (
 ca Zx [b] a λg e=>
 some (.ret g,e)) (
 some (.ret b,a)):=by intros;unfold Q4j;exact (QM _).trans (by kernel_rfl)
theorem QjR(c:AV)(a:AV)(s:St):cw (.f Q0e) [c,a] s =
 bx Qo (.val c) λg=>
 bindA (avs g) λl2=>
 fa 0 (.val (.cp l2)) λE=>
 ld Qt s E λF=>
 bn Qt .eql F (iv 1) λG=>
 condS G (
 fa 1 (.val (.cp l2)) λH=>
 ld Q1 s H λI=>
 ca Q3f [I] s λJ h=>
 bs Q0 [J] λL=>
 ca Qq [L] h λM o=>
 some (.ret M,o)) (
 fa 2 (.val (.cp l2)) λN=>
 ld Q0 s N λO=>
 bn Q0 .eql O (sv [45,62]) λP=>
 condS P (
 fa 3 (.val (.cp l2)) λR=>
 bind1 (ldV (C.ti Qn) true s R) λU=>
 ix Qo U (iv 0) λV=>
 bind1 (ldV (C.ti Qo) true s V) λW=>
 cn Q0e [W,(iv 1)] s λY p=>
 bs Q0 [(sv [45,62])] λa2=>
 cn Qq [a2] p λa3 b=>
 fa 3 (.val (.cp l2)) λa4=>
 bind1 (ldV (C.ti Qn) true b a4) λa5=>
 ix Qo a5 (iv 1) λa6=>
 bind1 (ldV (C.ti Qo) true b a6) λa7=>
 cn Q0e [a7,(iv 0)] b λa8 q=>
 bs Qj [Y,a3,a8] λa9=>
 cn Qs [a9] q λb0 r=>
 Q4j (.val a) (iv 0) b0 r) (
 fa 2 (.val (.cp l2)) λb1=>
 ld Q0 s b1 λb2=>
 bn Q0 .eql b2 (sv [42]) λb3=>
 condS b3 (
 fa 3 (.val (.cp l2)) λb4=>
 ld Qn s b4 λb5=>
 ln Qn b5 λb6=>
 bind1 (fnS Q3n [(.val (.cp l2))]) λb7=>
 ca QX [(sv [42]),b6,b7] s λb8 t=>
 Q4j (.val a) (iv 1) b8 t) (
 fa 3 (.val (.cp l2)) λb9=>
 ld Qn s b9 λd0=>
 ln Qn d0 λd1=>
 bn Q1 .eql d1 (iv 0) λd2=>
 condS d2 (
 fa 2 (.val (.cp l2)) λd3=>
 ld Q0 s d3 λd4=>
 bs Q0 [d4] λd5=>
 ca Qq [d5] s λd6 i=>
 some (.ret d6,i)) (
 fa 3 (.val (.cp l2)) λd7=>
 ld Qn s d7 λd8=>
 ln Qn d8 λd9=>
 bn Q1 .eql d9 (iv 1) λe0=>
 condS e0 (
 fa 3 (.val (.cp l2)) λe1=>
 bind1 (ldV (C.ti Qn) true s e1) λe3=>
 ix Qo e3 (iv 0) λe4=>
 bind1 (ldV (C.ti Qo) true s e4) λe5=>
 cn Q0e [e5,(iv 2)] s λe6 d=>
 fa 2 (.val (.cp l2)) λe7=>
 bind1 (ldV (C.ti Q0) true d e7) λe8=>
 bs Q0 [e8] λe9=>
 cn Qq [e9] d λf0 j=>
 bs Qj [e6,f0] λf1=>
 cn Qs [f1] j λf2 k=>
 some (.ret f2,k)) (
 fa 3 (.val (.cp l2)) λe2=>
 bind1 (ldV (C.ti Qn) true s e2) λf3=>
 ln Qn f3 λf4=>
 bind1 (fnS Q3o [(.val (.cp l2))]) λu=>
 cn QX [(sv [44]),f4,u] s λv l=>
 cn Zx [v] l λw e=>
 fa 2 (.val (.cp l2)) λx=>
 bind1 (ldV (C.ti Q0) true e x) λy=>
 bs Q0 [y] λz=>
 cn Qq [z] e λA m=>
 bs Qj [w,A] λB=>
 cn Qs [B] m λD n=>
 some (.ret D,n)))))):=(Q3 _ _ _).trans (by kernel_rfl)
theorem Qbc(a:AV)(s:St):cw (.f Q3W) [a] s =
 bx Qo (.val a) λb=>
 gA Qo b λd=>
 ca Q2K [d,(iv 256)] s λe c=>
 bn Q1 .geq e (iv 0) λg=>
 some (.ret g,c):=(Q3 _ _ _).trans (by kernel_rfl)
noncomputable def Q3i:List Slot->Slot->Slot->Slot->Slot->St->Res:=λa d e b c s=>pwD Zu [.seqR,.seqR,.seqR,.seqR,.seqL,.seqR,.thn,.seqL,.seqR,.block,.loop,.seqR,.seqR,.seqL,.block,.seqR,.seqR] Tryz.f35 [(1,.var a),(3,.s d),(4,.s e),(33,.s b),(34,.s c)] s
noncomputable def Q1C:List Slot->Slot->Slot->Slot->St->Res:=λa b c d s=>lpD Zu [.seqR,.seqR,.seqR,.seqR,.seqL,.seqR,.thn,.seqL,.seqR,.block] Tryz.f35 [(1,.var a),(3,.s b),(33,.s c),(34,.s d)] s
noncomputable def Q3j:List Slot->Slot->Slot->Slot->Slot->St->Res:=λa b c d e s=>pwD Zu [.seqR,.seqR,.seqR,.seqR,.seqR,.seqR,.seqR,.seqL,.seqR,.block,.loop,.seqR,.seqR,.seqL,.block,.seqR,.seqR] Tryz.f35 [(1,.var a),(3,.s b),(5,.s c),(72,.s d),(73,.s e)] s
noncomputable def Q1D:List Slot->Slot->Slot->Slot->St->Res:=λa b c d s=>lpD Zu [.seqR,.seqR,.seqR,.seqR,.seqR,.seqR,.seqR,.seqL,.seqR,.block] Tryz.f35 [(1,.var a),(3,.s b),(72,.s c),(73,.s d)] s
theorem Q6Z:∀ b e f c d a,Q3i b e f c d a =
 gC Qn 3 b λh=>
 ix Qo h f λi=>
 ld Qo a i λj=>
 ca Q2z [j,(iv 2)] a λk g=>
 bn Q0 .add e k λl=>
 nx d λm=>
 Q1C b l c m g:=by intros;unfold Q3i;exact (QM _).trans (by kernel_rfl)
theorem Q71:∀ e c d a b,Q1C e c d a b =
 bn Q1 .lss a d λf=>
 condS f (
 bn Q1 .gtr a (iv 0) λg=>
 condS g (
 bn Q0 .add c (sv [32,42,32]) λh=>
 Q3i e h a d a b) (
 Q3i e c a d a b)) (
 some (.ret c,b)):=by intros;unfold Q1C;exact (Qd _ _ _ _ _ _).trans (by kernel_rfl)
theorem Q70:∀ b c d e f a,Q3j b c d e f a =
 gC Qn 3 b λh=>
 ix Qo h d λi=>
 ld Qo a i λj=>
 ca Q2z [j,(iv 0)] a λk g=>
 bn Q0 .add c k λl=>
 nx f λm=>
 Q1D b l e m g:=by intros;unfold Q3j;exact (QM _).trans (by kernel_rfl)
theorem Q72:∀ c d e a b,Q1D c d e a b =
 bn Q1 .lss a e λf=>
 condS f (
 bn Q1 .gtr a (iv 0) λg=>
 condS g (
 bn Q0 .add d (sv [44,32]) λh=>
 Q3j c h a e a b) (
 Q3j c d a e a b)) (
 bn Q0 .add (sv [40]) d λi=>
 bn Q0 .add i (sv [41,32]) λj=>
 gC Q0 2 c λk=>
 bn Q0 .add j k λl=>
 some (.ret l,b)):=by intros;unfold Q1D;exact (Qd _ _ _ _ _ _).trans (by kernel_rfl)
theorem Qe6(b:AV)(s:St):cw (.f Zu) [b] s =
 bx Qo (.val b) λa=>
 gC Qt 0 a λU=>
 bn Qt .eql U (iv 1) λY=>
 condS Y (
 gC Q1 1 a λh=>
 ca Q46 [h] s λi d=>
 bn Q0 .add (sv [39]) i λj=>
 some (.ret j,d)) (
 gC Q0 2 a λk=>
 bn Q0 .eql k (sv [45,62]) λl=>
 condS l (
 gC Qn 3 a λm=>
 ix Qo m (iv 0) λn=>
 bind1 (ldV (C.ti Qo) true s n) λo=>
 cn Q2z [o,(iv 1)] s λp c=>
 bn Q0 .add p (sv [32,45,62,32]) λq=>
 gC Qn 3 a λr=>
 ix Qo r (iv 1) λt=>
 bind1 (ldV (C.ti Qo) true c t) λu=>
 cn Q2z [u,(iv 0)] c λv e=>
 bn Q0 .add q v λw=>
 some (.ret w,e)) (
 gC Q0 2 a λx=>
 bn Q0 .eql x (sv [42]) λy=>
 condS y (
 gC Qn 3 a λz=>
 ln Qn z λA=>
 Q1C a (sv []) A (iv 0) s) (
 gC Qn 3 a λB=>
 ln Qn B λD=>
 bn Q1 .eql D (iv 0) λE=>
 condS E (
 gC Q0 2 a λF=>
 some (.ret F,s)) (
 gC Qn 3 a λG=>
 ln Qn G λH=>
 bn Q1 .eql H (iv 1) λI=>
 condS I (
 gC Qn 3 a λJ=>
 ix Qo J (iv 0) λL=>
 ld Qo s L λM=>
 cn Q2z [M,(iv 2)] s λN g=>
 bn Q0 .add N (sv [32]) λO=>
 gC Q0 2 a λP=>
 bn Q0 .add O P λR=>
 some (.ret R,g)) (
 gC Qn 3 a λV=>
 ln Qn V λW=>
 Q1D a (sv []) W (iv 0) s))))):=(Q3 _ _ _).trans (by kernel_rfl)
noncomputable def Q1d:Slot->Slot->Slot->List Slot->Slot->Slot->Slot->Slot->St->Res:=λa d e h b c f g s=>lpD Q0p [.seqR,.seqL,.seqR,.block,.loop,.seqR,.seqR,.seqL,.block,.seqR,.seqR,.seqR,.seqR,.seqR,.seqR,.seqR,.block] Tryz.f36 [(0,.s a),(1,.s d),(2,.s e),(8,.var h),(12,.s b),(13,.s c),(71,.s f),(72,.s g)] s
noncomputable def Q1c:Slot->Slot->Slot->List Slot->Slot->Slot->Slot->Slot->St->Res:=λa d e h b c f g s=>lpD Q0p [.seqR,.seqL,.seqR,.block,.loop,.seqR,.seqR,.seqL,.block,.seqR,.seqR,.seqR,.seqR,.seqR,.seqL,.seqR,.block] Tryz.f36 [(0,.s a),(1,.s d),(2,.s e),(8,.var h),(12,.s b),(13,.s c),(42,.s f),(43,.s g)] s
noncomputable def Zp:Slot->Slot->Slot->Slot->Slot->St->Res:=λa b e c d s=>lpD Q0p [.seqR,.seqL,.seqR,.block] Tryz.f36 [(0,.s a),(1,.s b),(2,.s e),(12,.s c),(13,.s d)] s
theorem Q64:∀ e h c d f g i b a,Q1d e h c d f g i b a =
 bn Q1 .lss b i λl=>
 condS l (
 gC QE 6 d λm=>
 ix Zi m b λn=>
 fa 2 n λo=>
 ld QF a o λp=>
 bs QF [p] λq=>
 bn Q1 .sub h (iv 1) λr=>
 gC QE 6 d λt=>
 ix Zi t b λu=>
 fa 0 u λv=>
 ld Q0 a v λw=>
 ln Q0 w λx=>
 bn Q1 .quo x (iv 100) λy=>
 bn Q1 .sub r y λz=>
 nx c λA=>
 cn Q07 [q,z,A] a λk j=>
 bn Q1 .lss k (iv 0) λB=>
 condS B (
 some (.ret (iv (-1)),j)) (
 nx b λD=>
 Q1d e k c d f g i D j)) (
 nx g λE=>
 Zp e h c f E a):=by intros;unfold Q1d;exact (Qd _ _ _ _ _ _).trans (by kernel_rfl)
theorem Q63:∀ e h d a f g i c b,Q1c e h d a f g i c b =
 bn Q1 .lss c i λl=>
 condS l (
 gC QC 4 a λm=>
 ix Z6 m c λn=>
 fa 3 n λo=>
 ld Qo b o λp=>
 bn Q1 .sub h (iv 1) λq=>
 gC QC 4 a λr=>
 ix Z6 r c λt=>
 fa 0 t λu=>
 ld Q0 b u λv=>
 ln Q0 v λw=>
 bn Q1 .quo w (iv 100) λx=>
 bn Q1 .sub q x λy=>
 nx d λz=>
 cn Q1m [p,y,z] b λk j=>
 bn Q1 .lss k (iv 0) λA=>
 condS A (
 some (.ret (iv (-1)),j)) (
 nx c λB=>
 Q1c e k d a f g i B j)) (
 gC QE 6 a λD=>
 ln QE D λE=>
 Q1d e h d a f g E (iv 0) b):=by intros;unfold Q1c;exact (Qd _ _ _ _ _ _).trans (by kernel_rfl)
theorem Q62:∀ g h e i d b,Zp g h e i d b =
 bn Q1 .lss d i λl=>
 condS l (
 ix QL g d λm=>
 ld QL b m λn=>
 bx QL n λc=>
 pZ QL c λa=>
 bn Q1 .sub h (iv 1) λo=>
 gC Q0 2 a λp=>
 ln Q0 p λq=>
 bn Q1 .quo q (iv 100) λr=>
 bn Q1 .sub o r λt=>
 gC Qf 5 a λu=>
 bind1 (max2 t (iv (-1))) λv=>
 nx e λx=>
 ca Q07 [u,v,x] b λk j=>
 bn Q1 .lss k (iv 0) λf=>
 iF f λw=>
 iF f λD=>
 gB D Q1 .gtr (gdV w e) (iv 130) λy=>
 pk f (bv true) y λz=>
 condS z (
 some (.ret (iv (-1)),j)) (
 gC QC 4 a λA=>
 ln QC A λB=>
 Q1c g k e a i d B (iv 0) j)) (
 some (.ret h,b)):=by intros;unfold Zp;exact (Qd _ _ _ _ _ _).trans (by kernel_rfl)
theorem Qd4(a:AV)(b:AV)(c:AV)(s:St):cw (.f Q0p) [a,b,c] s =
 ln QG (.val a) λd=>
 Zp (.val a) (.val b) (.val c) d (iv 0) s:=(Q3 _ _ _).trans (by kernel_rfl)
theorem Q5R(a:AV)(b:AV)(s:St):cw (.f Zl) [a,b] s =
 ca Zy [(.val a)] s λo d=>
 bind1 (nilCheckV (.val a)) λh=>
 fa 1 h λi=>
 ld QQ d i λj=>
 bind2 (appendStr Qb (C.ti Qb) d j (.val b)) λk e=>
 bind1 (nilCheckV (.val a)) λl=>
 fa 1 l λm=>
 bx QQ k λc=>
 sto e m c λg=>
 ln Q0 (.val b) λn=>
 rt [(some n),(some (.val (.nili)))] g:=(Q3 _ _ _).trans (by kernel_rfl)
noncomputable def Q4f:Slot->Slot->St->Res:=λa b s=>pwD Q5l [.seqR,.seqR,.seqR,.seqR,.seqR] Tryz.f39 [(1,.s a),(3,.s b)] s
noncomputable def Q4e:Slot->Slot->St->Res:=λa b s=>pwD Q5l [.seqR,.seqR,.seqR,.seqR] Tryz.f39 [(1,.s a),(3,.s b)] s
theorem Qfr:∀ a e b,Q4f a e b =
 bs Q0 [(sv [100,97,116,97,116,121,112,101])] λh=>
 cn Qq [h] b λi c=>
 fa 2 a λj=>
 bind1 (ldV (C.ti Q0) true c j) λk=>
 bs Q0 [k,(sv [61])] λl=>
 cn Qq [l] c λm d=>
 fa 4 a λn=>
 bind1 (ldV (C.ti QC) true d n) λo=>
 ln QC o λp=>
 bind1 (fnS Q5o [a]) λq=>
 cn QX [(sv [124]),p,q] d λr f=>
 bs Qj [i,e,m,r] λt=>
 cn Qs [t] f λu g=>
 some (.ret u,g):=by intros;unfold Q4f;exact (QM _).trans (by kernel_rfl)
theorem Qfq:∀ b c a,Q4e b c a =
 fa 3 b λe=>
 ld Q1 a e λf=>
 bn Q1 .gtr f (iv 1) λg=>
 condS g (
 ca Zx [c] a λh d=>
 Q4f b h d) (
 Q4f b c a):=by intros;unfold Q4e;exact (QM _).trans (by kernel_rfl)
theorem Q6D(e:AV)(s:St):cw (.f Q5l) [e] s =
 bx QL (.val e) λh=>
 bindA (avs h) λl1=>
 fa 0 (.val (.cp l1)) λa1=>
 ld Qx s a1 λd=>
 bn Qx .eql d (iv 1) λb6=>
 condS b6 (
 bs Q0 [(sv [118,97,108])] λb7=>
 cn Qq [b7] s λb8 a=>
 fa 5 (.val (.cp l1)) λq=>
 bind1 (ldV (C.ti Qf) true a q) λr=>
 ix QF r (iv 0) λt=>
 fa 0 t λu=>
 bind1 (ldV (C.ti Ql) true a u) λv=>
 cn Q2A [v] a λw l=>
 bs Q0 [(sv [61])] λx=>
 cn Qq [x] l λy b=>
 fa 5 (.val (.cp l1)) λz=>
 bind1 (ldV (C.ti Qf) true b z) λA=>
 ix QF A (iv 0) λB=>
 fa 5 B λD=>
 bind1 (ldV (C.ti Q6) true b D) λE=>
 cn ZL [E] b λF m=>
 bs Qj [b8,w,y,F] λG=>
 cn Qs [G] m λH n=>
 some (.ret H,n)) (
 bn Qx .eql d (iv 2) λI=>
 condS I (
 bs Q0 [(sv [102,117,110])] λJ=>
 cn Qq [J] s λL g=>
 fa 6 (.val (.cp l1)) λM=>
 bind1 (ldV (C.ti QE) true g M) λN=>
 ln QE N λO=>
 bind1 (fnS Q5m [(.val (.cp l1))]) λP=>
 cn QX [(sv [97,110,100]),O,P] g λR o=>
 bs Qj [L,R] λU=>
 cn Qs [U] o λV p=>
 some (.ret V,p)) (
 bn Qx .eql d (iv 4) λW=>
 condS W (
 bs Q0 [(sv [101,120,99,101,112,116,105,111,110])] λY=>
 cn Qq [Y] s λa2 c=>
 fa 4 (.val (.cp l1)) λa3=>
 bind1 (ldV (C.ti QC) true c a3) λa4=>
 ix Z6 a4 (iv 0) λa5=>
 bind1 (ldV (C.ti Z6) true c a5) λa6=>
 cn Q7M [a6] c λa7 i=>
 bs Qj [a2,a7] λa8=>
 cn Qs [a8] i λa9 j=>
 some (.ret a9,j)) (
 fa 3 (.val (.cp l1)) λb0=>
 ld Q1 s b0 λb1=>
 bn Q1 .gtr b1 (iv 0) λb2=>
 condS b2 (
 fa 3 (.val (.cp l1)) λb3=>
 ld Q1 s b3 λb4=>
 ca QX [(sv [44]),b4,(.val (.fn Q5n []))] s λb5 k=>
 Q4e (.val (.cp l1)) b5 k) (
 Q4e (.val (.cp l1)) (.val (.nils)) s)))):=(Q3 _ _ _).trans (by kernel_rfl)
theorem Q6v(a:AV)(b:AV)(s:St):cw (.f Q0i) [a,b] s =
 ca Zy [(.val a)] s λo d=>
 bind1 (nilCheckV (.val a)) λn=>
 fa 1 n λh=>
 ld QQ d h λi=>
 bs Qb [(.val b)] λj=>
 ap Qb d i j λk e=>
 bind1 (nilCheckV (.val a)) λl=>
 fa 1 l λm=>
 bx QQ k λc=>
 sto e m c λg=>
 some (.ret (.val (.nili)),g):=(Q3 _ _ _).trans (by kernel_rfl)
noncomputable def Q2U:Slot->Slot->Slot->Slot->Slot->St->Res:=λa b c d e s=>lpD Q5i [.seqR,.seqR,.seqL,.seqR,.block] Tryz.f43 [(0,.s a),(1,.s b),(5,.s c),(8,.s d),(9,.s e)] s
theorem Q8m:∀ c d e f b a,Q2U c d e f b a =
 bn Q1 .lss b f λh=>
 condS h (
 ix QL c b λi=>
 ld QL a i λj=>
 ca Q1M [j] a λk g=>
 bn Q0 .add e k λl=>
 bn Q0 .add l d λm=>
 nx b λn=>
 Q2U c d m f n g) (
 some (.ret e,a)):=by intros;unfold Q2U;exact (Qd _ _ _ _ _ _).trans (by kernel_rfl)
theorem QgW(a:AV)(b:AV)(s:St):cw (.f Q5i) [a,b] s =
 ln QG (.val a) λc=>
 Q2U (.val a) (.val b) (sv []) c (iv 0) s:=(Q3 _ _ _).trans (by kernel_rfl)
noncomputable def Q00:Slot->Slot->Slot->Slot->Slot->St->Res:=λa b d e c s=>lpD Q07 [.seqR,.seqL,.seqR,.block] Tryz.f44 [(0,.s a),(1,.s b),(2,.s d),(9,.s e),(10,.s c)] s
theorem Q5I:∀ b h c g a d,Q00 b h c g a d =
 bn Q1 .lss a g λk=>
 condS k (
 ix QF b a λl=>
 fa 0 l λm=>
 ld Ql d m λn=>
 ca Q0V [n,h,c] d λf e=>
 bn Q1 .geq f (iv 0) λo=>
 condS o (
 ix QF b a λp=>
 fa 5 p λq=>
 ld Q6 e q λr=>
 ca Q0U [r,f,c] e λj i=>
 bn Q1 .lss j (iv 0) λt=>
 condS t (
 some (.ret (iv (-1)),i)) (
 nx a λv=>
 Q00 b j c g v i)) (
 bn Q1 .lss f (iv 0) λu=>
 condS u (
 some (.ret (iv (-1)),e)) (
 nx a λw=>
 Q00 b f c g w e))) (
 some (.ret h,d)):=by intros;unfold Q00;exact (Qd _ _ _ _ _ _).trans (by kernel_rfl)
theorem QbV(a:AV)(b:AV)(c:AV)(s:St):cw (.f Q07) [a,b,c] s =
 ln Qf (.val a) λd=>
 Q00 (.val a) (.val b) (.val c) d (iv 0) s:=(Q3 _ _ _).trans (by kernel_rfl)
noncomputable def Q7g(a:Slot):Am.Obj:=.loop .ready none Q3q [(4,.s a)] [16] (rngAsg (codeAt [.seqR,.seqR,.seqR,.seqL,.seqR,.block] (body Tryz.f45))) (rngBody (codeAt [.seqR,.seqR,.seqR,.seqL,.seqR,.block] (body Tryz.f45)))
theorem Qdf(d:Slot)(e:AV)(loc:Nat)(b:St):yldR C (Q7g d) loc [e] b=noPan (
 bx Z7 (.val e) λg=>
 pZ Z7 g λf=>
 bindS (beginL loc b) λk=>
 gA Z7 f λn=>
 ca Q1v [n] k λo c=>
 bx Qa o λh=>
 pZ Qa h λa=>
 gC QB 0 a λp=>
 bn QB .neq p (iv 0) λq=>
 condS q (
 gA Qa a λr=>
 bx Qa r λi=>
 sto c d i λl=>
 bindS (setLoop loc .done (some .ret) l) λm=>
 some (.ret (bv false),m)) (
 bindS (setLoop loc .ready none c) λj=>
 some (.ret (bv true),j))):=by kernel_rfl
theorem Qhf(b:AV)(d:AV)(s:St):cw (.f Q3q) [b,d] s =
 ca Q5r [(.val b),(iv 8193)] (St.addLoc s (.var (List.map .val (C.ti Qa).zero))) λA e=>
 bn Q1 .gtr A (iv 8192) λB=>
 condS B (
 bd Qa [(0,QB,(iv 4))] λt=>
 bx Qa t λc=>
 sto e (.val (.vp s.locs.length 0)) c λk=>
 bind1 (ldV (C.ti Qa) false k (.val (.vp s.locs.length 0))) λv=>some (.ret v,k)) (
 back (cal cw true (tgtV (.val d) []) e) λu a=>
 bn Q1 .gtr u (iv 100) λw=>
 condS w (
 bd Qa [(0,QB,(iv 7))] λx=>
 bx Qa x λm=>
 sto a (.val (.vp s.locs.length 0)) m λl=>
 bind1 (ldV (C.ti Qa) false l (.val (.vp s.locs.length 0))) λv=>some (.ret v,l)) (
 rangeC C cw (.val b) a.locs.length (St.addLoc a (Q7g (.val (.vp s.locs.length 0)))) λp=>
 endX a.locs.length p (λq=>
 bd Qa [] λy=>
 bx Qa y λn=>
 sto q (.val (.vp s.locs.length 0)) n λh=>
 bind1 (ldV (C.ti Qa) false h (.val (.vp s.locs.length 0))) λv=>some (.ret v,h)) (λg=>
 bind1 (ldV (C.ti Qa) false g (.val (.vp s.locs.length 0))) λv=>some (.ret v,g)) (λj r=>
 bif Nat.beq j 0 then (
 bd Qa [] λz=>
 bx Qa z λo=>
 sto r (.val (.vp s.locs.length 0)) o λi=>
 bind1 (ldV (C.ti Qa) false i (.val (.vp s.locs.length 0))) λv=>some (.ret v,i)) else (
(none:Res))))):=(Q3 _ _ _).trans (by kernel_rfl)
theorem Qbp(a:AV)(s:St):cw (.f Q3Z) [a] s =
 bx Q6 (.val a) λb=>
 bindA (avs b) λl1=>
 bind1 (fnS Q3a [(.val (.cp l1))]) λc=>
 some (.ret c,s):=(Q3 _ _ _).trans (by kernel_rfl)
theorem Qbl(a:AV)(s:St):cw (.f Q3X) [a] s =
 ld Q6 s (.val a) λc=>
 ca Q09 [c] s λd b=>
 some (.ret d,b):=(Q3 _ _ _).trans (by kernel_rfl)
noncomputable def Q1H:Slot->Slot->Slot->Slot->St->Res:=λd a b c s=>lpD Q09 [.seqR,.seqR,.seqL,.seqR,.block] Tryz.f48 [(3,.s d),(14,.s a),(15,.s b),(16,.s c)] s
theorem Q75:∀ f d e b a,Q1H f d e b a =
 bn Q1 .lss b e λi=>
 condS i (
 ix Q6 d b λj=>
 ld Q6 a j λk=>
 bx Q6 k λc=>
 pZ Q6 c λg=>
 gA Q6 g λl=>
 ca Q09 [l] a λm h=>
 bind1 (max2 f m) λn=>
 nx b λo=>
 Q1H n d e o h) (
 nx f λp=>
 some (.ret p,a)):=by intros;unfold Q1H;exact (Qd _ _ _ _ _ _).trans (by kernel_rfl)
theorem Qem(b:AV)(s:St):cw (.f Q09) [b] s =
 bx Q6 (.val b) λa=>
 gC QG 6 a λk=>
 cn Q0r [k] s λl d=>
 gC Qf 5 a λg=>
 cn ZO [g] d λh e=>
 bind1 (max2 l h) λi=>
 gC Q8 4 a λc=>
 ln Q8 c λj=>
 Q1H i c j (iv 0) e:=(Q3 _ _ _).trans (by kernel_rfl)
theorem Q4k(a:AV)(b:AV)(s:St):cw (.f Qz) [a,b] s =
 ca Zk [(.val a),(.val b)] s λd c=>
 bn Q1 .geq d (iv 0) λe=>
 some (.ret e,c):=(Q3 _ _ _).trans (by kernel_rfl)
theorem Qp(a:AV)(s:St):cw (.f Qq) [a] s =
 some (.ret (.val a),s):=(Q3 _ _ _).trans (by kernel_rfl)
theorem Qh5(a:AV)(b:AV)(s:St):cw (.f Q14) [a,b] s =
 fa 4 (.val b) λd=>
 ld Q8 s d λe=>
 ix Q6 e (.val a) λg=>
 ld Q6 s g λh=>
 ca ZL [h] s λi c=>
 some (.ret i,c):=(Q3 _ _ _).trans (by kernel_rfl)
theorem Qfs(a:AV)(s:St):cw (.f Q4x) [a] s =
 bn Q1 .lss (.val a) (iv 0) λj=>
 condS j (
 bind1 (unS .neg (.val a)) λk=>
 ca Q5b [k] s λl b=>
 bs Q0 [(sv [126]),l] λm=>
 ca Qq [m] b λn c=>
 some (.ret n,c)) (
 ca Q5b [(.val a)] s λg d=>
 bs Q0 [g] λh=>
 ca Qq [h] d λi e=>
 some (.ret i,e)):=(Q3 _ _ _).trans (by kernel_rfl)
theorem QiR(a:AV)(b:AV)(s:St):cw (.f Q31) [a,b] s =
 bx Q6 (.val b) λd=>
 bs Q0 [(.val a)] λm=>
 cn Qq [m] s λn c=>
 gC Q8 4 d λo=>
 ix Q6 o (iv 0) λh=>
 bind1 (ldV (C.ti Q6) true c h) λi=>
 cn Zd [i,(iv 9)] c λj e=>
 bs Qj [n,j] λk=>
 cn Qs [k] e λl g=>
 some (.ret l,g):=(Q3 _ _ _).trans (by kernel_rfl)
theorem Qlg(a:AV)(s:St):cw (.f Zx) [a] s =
 bs Q0 [(sv [40])] λe=>
 ca Qq [e] s λg b=>
 bs Q0 [(sv [41])] λh=>
 ca Qq [h] b λi c=>
 bs Qj [g,(.val a),i] λj=>
 ca Qs [j] c λk d=>
 some (.ret k,d):=(Q3 _ _ _).trans (by kernel_rfl)
noncomputable def Q0x:Slot->Slot->Slot->Slot->Slot->St->Res:=λa c d e b s=>lpD QX [.seqR,.seqR,.seqL,.seqR,.block] Tryz.f55 [(0,.s a),(2,.s c),(7,.s d),(9,.s e),(10,.s b)] s
theorem Q73:∀ d b e f a c,Q0x d b e f a c =
 bn Q1 .lss a f λl=>
 condS l (
 bn Q1 .gtr a (iv 0) λm=>
 condS m (
 bs Q0 [d] λn=>
 ap Q0 c e n λo g=>
 back (cal cw true (tgtV b [a]) g) λp h=>
 ap Q0 h o p λr i=>
 nx a λu=>
 Q0x d b r f u i) (
 back (cal cw true (tgtV b [a]) c) λq j=>
 ap Q0 j e q λt k=>
 nx a λv=>
 Q0x d b t f v k)) (
 some (.ret e,c)):=by intros;unfold Q0x;exact (Qd _ _ _ _ _ _).trans (by kernel_rfl)
theorem Qec(a:AV)(b:AV)(c:AV)(s:St):cw (.f QX) [a,b,c] s =
 Q0x (.val a) (.val c) (.val (.nils)) (.val b) (iv 0) s:=(Q3 _ _ _).trans (by kernel_rfl)
theorem QjO(a:AV)(s:St):cw (.f Qs) [a] s =
 ca Z2 [(.val a)] s λc b=>
 some (.ret c,b):=(Q3 _ _ _).trans (by kernel_rfl)
theorem Qh1(a:AV)(s:St):cw (.f Q3l) [a] s =
 bx Qf (.val a) λb=>
 bindA (avs b) λl1=>
 ld Qf s (.val (.cp l1)) λd=>
 ln Qf d λe=>
 bind1 (fnS Q22 [(.val (.cp l1))]) λg=>
 ca QX [(sv [124]),e,g] s λh c=>
 some (.ret h,c):=(Q3 _ _ _).trans (by kernel_rfl)
theorem Qlf(b:AV)(c:AV)(s:St):cw (.f Zd) [b,c] s =
 bx Q6 (.val b) λa=>
 gA Q6 a λm=>
 ca Q3m [m] s λn d=>
 bn Q1 .lss n (.val c) λo=>
 condS o (
 gA Q6 a λp=>
 ca ZL [p] d λi e=>
 ca Zx [i] e λj g=>
 some (.ret j,g)) (
 gA Q6 a λk=>
 ca ZL [k] d λl h=>
 some (.ret l,h)):=(Q3 _ _ _).trans (by kernel_rfl)
noncomputable def Q3A:List Slot->Slot->St->Res:=λa b s=>pwD Q48 [.seqR,.seqL,.seqR,.block,.seqR,.els,.seqR,.thn,.seqR,.seqR] Tryz.f59 [(1,.var a),(3,.s b)] s
noncomputable def Q3B:List Slot->Slot->Slot->St->Res:=λa b c s=>pwD Q48 [.seqR,.seqL,.seqR,.block,.seqR,.els,.seqR,.els,.seqR,.els,.seqR,.els,.seqR,.thn,.seqR,.seqR,.seqR] Tryz.f59 [(1,.var a),(4,.s b),(5,.s c)] s
theorem Qee:∀ c d a,Q3A c d a =
 bs Q0 [(sv [58,61])] λg=>
 cn Qq [g] a λh b=>
 gC Q8 4 c λi=>
 ix Q6 i (iv 1) λj=>
 bind1 (ldV (C.ti Q6) true b j) λk=>
 cn Zd [k,(iv 1)] b λl f=>
 bs Qj [d,h,l] λm=>
 cn Qs [m] f λn e=>
 some (.ret n,e):=by intros;unfold Q3A;exact (QM _).trans (by kernel_rfl)
theorem Qef:∀ a e f b,Q3B a e f b =
 gC Q8 4 a λp=>
 ix Q6 p (iv 0) λq=>
 bind1 (ldV (C.ti Q6) true b q) λr=>
 cn Zd [r,f] b λt c=>
 gC Q1 3 a λu=>
 bn Q1 .sub u (iv 1) λv=>
 bind1 (ixA 9 (C.ti Q0).size (.val (.cp glob0)) v) λw=>
 bind1 (ldV (C.ti Q0) true c w) λx=>
 bs Q0 [x] λy=>
 cn Qq [y] c λz d=>
 gC Q8 4 a λi=>
 ix Q6 i (iv 1) λj=>
 bind1 (ldV (C.ti Q6) true d j) λk=>
 nx e λl=>
 cn Zd [k,l] d λm g=>
 bs Qj [t,z,m] λn=>
 cn Qs [n] g λo h=>
 some (.ret o,h):=by intros;unfold Q3B;exact (QM _).trans (by kernel_rfl)
theorem Q1f(e:AV)(s:St):cw (.f Q48) [e] s =
 bx Q6 (.val e) λa=>
 gC Q2 0 a λb=>
 bn Q2 .eql b (iv 11) λf2=>
 condS f2 (
 gC Q8 4 a λB=>
 ix Q6 B (iv 0) λM=>
 ld Q6 s M λP=>
 cn Zd [P,(iv 3)] s λR k=>
 bs Q0 [(sv [104,97,110,100,108,101])] λU=>
 cn Qq [U] k λV r=>
 gC Qf 5 a λW=>
 cn Q3l [W] r λY x=>
 bs Qj [R,V,Y] λa1=>
 cn Qs [a1] x λa2 y=>
 some (.ret a2,y)) (
 bn Q2 .eql b (iv 18) λa3=>
 condS a3 (
 gC Q8 4 a λa4=>
 ix Q6 a4 (iv 0) λa5=>
 ld Q6 s a5 λa6=>
 ca Zd [a6,(iv 2)] s λj d=>
 gC Q8 4 a λa7=>
 ix Q6 a7 (iv 0) λa8=>
 fa 0 a8 λa9=>
 ld Q2 d a9 λb0=>
 bn Q2 .eql b0 (iv 11) λb1=>
 condS b1 (
 ca Zx [j] d λb2 z=>
 Q3A a b2 z) (
 Q3A a j d)) (
 bn Q2 .eql b (iv 15) λb3=>
 condS b3 (
 gC Q8 4 a λb4=>
 ix Q6 b4 (iv 0) λb5=>
 bind1 (ldV (C.ti Q6) true s b5) λb6=>
 cn Zd [b6,(iv 4)] s λb7 l=>
 bs Q0 [(sv [111,114,101,108,115,101])] λb8=>
 cn Qq [b8] l λb9 g=>
 gC Q8 4 a λd0=>
 ix Q6 d0 (iv 1) λd1=>
 bind1 (ldV (C.ti Q6) true g d1) λd2=>
 cn Zd [d2,(iv 3)] g λd3 m=>
 bs Qj [b7,b9,d3] λd4=>
 cn Qs [d4] m λd5 n=>
 some (.ret d5,n)) (
 bn Q2 .eql b (iv 14) λd6=>
 condS d6 (
 gC Q8 4 a λd7=>
 ix Q6 d7 (iv 0) λd8=>
 bind1 (ldV (C.ti Q6) true s d8) λd9=>
 cn Zd [d9,(iv 5)] s λe0 o=>
 bs Q0 [(sv [97,110,100,97,108,115,111])] λe1=>
 cn Qq [e1] o λe2 h=>
 gC Q8 4 a λe3=>
 ix Q6 e3 (iv 1) λe4=>
 bind1 (ldV (C.ti Q6) true h e4) λe5=>
 cn Zd [e5,(iv 4)] h λe6 p=>
 bs Qj [e0,e2,e6] λe7=>
 cn Qs [e7] p λe8 q=>
 some (.ret e8,q)) (
 bn Q2 .eql b (iv 13) λe9=>
 condS e9 (
 gA Q6 a λf0=>
 ca Q3m [f0] s λc i=>
 bn Q1 .eql c (iv 5) λf1=>
 condS f1 (
 Q3B a c (iv 6) i) (
 Q3B a c c i)) (
 bn Q2 .eql b (iv 16) λA=>
 condS A (
 gA Q6 a λD=>
 ca Q31 [(sv [114,101,102]),D] s λE t=>
 some (.ret E,t)) (
 bn Q2 .eql b (iv 17) λF=>
 condS F (
 gA Q6 a λG=>
 ca Q31 [(sv [33]),G] s λH u=>
 some (.ret H,u)) (
 bn Q2 .eql b (iv 19) λI=>
 condS I (
 gA Q6 a λJ=>
 ca Q31 [(sv [112,114,105,110,116]),J] s λL v=>
 some (.ret L,v)) (
 bs Q0 [(sv [114,101,97,100]),(sv [40]),(sv [41])] λN=>
 ca Qq [N] s λO w=>
 some (.ret O,w))))))))):=(Q3 _ _ _).trans (by kernel_rfl)
noncomputable def Q2m:Slot->List Slot->Slot->Slot->Slot->St->Res:=λa b c d e s=>pwD Q1l [.seqR,.seqR,.seqR,.seqL,.seqR,.block,.loop,.seqR,.seqL,.block,.seqR,.seqR,.thn,.seqR] Tryz.f60 [(0,.s a),(4,.var b),(5,.s c),(6,.s d),(7,.s e)] s
noncomputable def Q2n:Slot->List Slot->Slot->St->Res:=λa b c s=>lpD Q1l [.seqR,.seqR,.seqR,.seqL,.seqR,.block] Tryz.f60 [(0,.s a),(4,.var b),(5,.s c)] s
theorem QbQ:∀ b c d e f a,Q2m b c d e f a =
 ix Qh b d λi=>
 fa 2 i λj=>
 ld Q1 a j λk=>
 bd Qa [(0,QB,e),(1,Q1,k),(2,Q0,f)] λl=>
 bx Qa l λh=>
 pt c 0 h λg=>
 gA Qa g λv=>some (.ret v,a):=by intros;unfold Q2m;exact (QM _).trans (by kernel_rfl)
theorem Q7t:∀ a c b d,Q2n a c b d =
 ln Q0b a λj=>
 bn Q1 .lss b j λk=>
 condS k (
 ix Qh a b λm=>
 ld Qh d m λn=>
 ca Q7c [n] d λg f=>
 ex g 0 λe=>
 ex g 1 λo=>
 bn QB .neq e (iv 0) λp=>
 condS p (
 bn QB .neq e (iv 8) λq=>
 condS q (
 Q2m a c b e (sv []) f) (
 Q2m a c b e o f)) (
 nx b λl=>
 Q2n a c l f)) (
 bd Qa [] λr=>
 bx Qa r λi=>
 pt c 0 i λh=>
 gA Qa h λv=>some (.ret v,d)):=by intros;unfold Q2n;exact (Qd _ _ _ _ _ _).trans (by kernel_rfl)
theorem Qff(a:AV)(d:AV)(s:St):cw (.f Q1l) [a,d] s =
 ca Q4v [(.val a)] s λm b=>
 bn Q1 .gtr m (iv 8192) λi=>
 condS i (
 bd Qa [(0,QB,(iv 4))] λj=>
 bx Qa j λc=>
 pZ Qa c λe=>
 gA Qa e λv=>some (.ret v,b)) (
 bn Q1 .gtr (.val d) (iv 100) λk=>
 condS k (
 bd Qa [(0,QB,(iv 7))] λl=>
 bx Qa l λh=>
 pZ Qa h λg=>
 gA Qa g λv=>some (.ret v,b)) (
 Q2n (.val a) ((List.map .val (C.ti Qa).zero)) (iv 0) b)):=(Q3 _ _ _).trans (by kernel_rfl)
noncomputable def Q2j:List Slot->Slot->Slot->St->Res:=λa b c s=>lpD ZJ [.seqR,.seqR,.seqR,.seqR,.seqL,.seqR,.block] Tryz.f61 [(1,.var a),(3,.s b),(6,.s c)] s
noncomputable def Q2i:List Slot->Slot->Slot->St->Res:=λa b c s=>lpD ZJ [.seqR,.seqR,.seqR,.seqL,.seqR,.block] Tryz.f61 [(1,.var a),(3,.s b),(5,.s c)] s
noncomputable def Q2h:List Slot->Slot->Slot->St->Res:=λa b c s=>lpD ZJ [.seqR,.seqR,.seqL,.seqR,.block] Tryz.f61 [(1,.var a),(3,.s b),(4,.s c)] s
theorem Q7n:∀ b d c a,Q2j b d c a =
 gC Qf 5 b λg=>
 ln Qf g λh=>
 bn Q1 .lss c h λi=>
 condS i (
 gC Qf 5 b λk=>
 ix QF k c λl=>
 ld QF a l λm=>
 ca Q1X [m] a λn e=>
 ap Qh e d n λo f=>
 nx c λj=>
 Q2j b o j f) (
 some (.ret d,a)):=by intros;unfold Q2j;exact (Qd _ _ _ _ _ _).trans (by kernel_rfl)
theorem Q7m:∀ a d c b,Q2i a d c b =
 gC Q8 4 a λg=>
 ln Q8 g λh=>
 bn Q1 .lss c h λi=>
 condS i (
 gC Q8 4 a λk=>
 ix Q6 k c λl=>
 ld Q6 b l λm=>
 ca ZJ [m] b λn e=>
 ap Qh e d n λo f=>
 nx c λj=>
 Q2i a o j f) (
 Q2j a d (iv 0) b):=by intros;unfold Q2i;exact (Qd _ _ _ _ _ _).trans (by kernel_rfl)
theorem Q7l:∀ a d c b,Q2h a d c b =
 gC QG 6 a λg=>
 ln QG g λh=>
 bn Q1 .lss c h λi=>
 condS i (
 gC QG 6 a λk=>
 ix QL k c λl=>
 ld QL b l λm=>
 ca Q1k [m,(bv true)] b λn e=>
 ap Qh e d n λo f=>
 nx c λj=>
 Q2h a o j f) (
 Q2i a d (iv 0) b):=by intros;unfold Q2h;exact (Qd _ _ _ _ _ _).trans (by kernel_rfl)
theorem Qf7(b:AV)(s:St):cw (.f ZJ) [b] s =
 bx Q6 (.val b) λa=>
 gA Q6 a λe=>
 gC Q1 1 a λg=>
 bd Qh [(0,Q1,(iv 2)),(10,Q6,e),(2,Q1,g)] λc=>
 bs Qh [c] λd=>
 Q2h a d (iv 0) s:=(Q3 _ _ _).trans (by kernel_rfl)
noncomputable def Q19:List Slot->Slot->Slot->St->Res:=λa b c s=>lpD Z9 [.seqR,.seqR,.seqR,.seqL,.seqR,.block] Tryz.f62 [(1,.var a),(3,.s b),(5,.s c)] s
noncomputable def Q18:List Slot->Slot->Slot->St->Res:=λa b c s=>lpD Z9 [.seqR,.seqR,.seqL,.seqR,.block] Tryz.f62 [(1,.var a),(3,.s b),(4,.s c)] s
theorem Q5V:∀ a d b c,Q19 a d b c =
 gC Qf 5 a λg=>
 ln Qf g λh=>
 bn Q1 .lss b h λi=>
 condS i (
 gC Qf 5 a λk=>
 ix QF k b λl=>
 fa 0 l λm=>
 bind1 (ldV (C.ti Ql) true c m) λn=>
 cn Zf [n] c λo e=>
 gC Qf 5 a λp=>
 ix QF p b λq=>
 fa 5 q λr=>
 bind1 (ldV (C.ti Q6) true e r) λt=>
 cn Z9 [t] e λu f=>
 bind1 (max3 d o u) λv=>
 nx b λj=>
 Q19 a v j f) (
 nx d λw=>
 some (.ret w,c)):=by intros;unfold Q19;exact (Qd _ _ _ _ _ _).trans (by kernel_rfl)
theorem Q5U:∀ a d c b,Q18 a d c b =
 gC Q8 4 a λf=>
 ln Q8 f λg=>
 bn Q1 .lss c g λh=>
 condS h (
 gC Q8 4 a λj=>
 ix Q6 j c λk=>
 ld Q6 b k λl=>
 ca Z9 [l] b λm e=>
 bind1 (max2 d m) λn=>
 nx c λi=>
 Q18 a n i e) (
 Q19 a d (iv 0) b):=by intros;unfold Q18;exact (Qd _ _ _ _ _ _).trans (by kernel_rfl)
theorem QcT(a:AV)(s:St):cw (.f Z9) [a] s =
 bx Q6 (.val a) λb=>
 gC QG 6 b λd=>
 ca Q13 [d] s λe c=>
 Q18 b e (iv 0) c:=(Q3 _ _ _).trans (by kernel_rfl)
theorem Qe4(a:AV)(s:St):cw (.f Q3I) [a] s =
 bn Q1 .lss (.val a) (iv 0) λe=>
 condS e (
 bn Q1 .sub (iv 0) (.val a) λg=>
 ca Q12 [g] s λh b=>
 bn Q0 .add (sv [126]) h λi=>
 some (.ret i,b)) (
 ca Q12 [(.val a)] s λd c=>
 some (.ret d,c)):=(Q3 _ _ _).trans (by kernel_rfl)
theorem QiF(a:AV)(b:AV)(s:St):cw (.f QA) [a,b] s =
 bx Q6 (.val a) λc=>
 gA Q6 c λj=>
 cn Zg [j] s λk d=>
 gA Q6 c λl=>
 cn ZK [l] d λm e=>
 bn Q1 .lss m (.val b) λh=>
 cn Zc [k,h] e λi g=>
 some (.ret i,g):=(Q3 _ _ _).trans (by kernel_rfl)
noncomputable def Q4D:Slot->Slot->Slot->Slot->Slot->Slot->St->Res:=λa b c d e f s=>pwD Q21 [.seqR,.seqR,.seqL,.seqR,.block,.loop,.seqR,.seqR,.seqL,.block,.seqR,.seqR] Tryz.f65 [(0,.s a),(1,.s b),(5,.s c),(6,.s d),(8,.s e),(9,.s f)] s
noncomputable def Q2V:Slot->Slot->Slot->Slot->Slot->St->Res:=λa b c d e s=>lpD Q21 [.seqR,.seqR,.seqL,.seqR,.block] Tryz.f65 [(0,.s a),(1,.s b),(5,.s c),(8,.s d),(9,.s e)] s
theorem Q8n:∀ b c d e f g a,Q4D b c d e f g a =
 ix Q6 b e λi=>
 ld Q6 a i λj=>
 ca QA [j,(iv 0)] a λk h=>
 bn Q0 .add d k λl=>
 nx g λm=>
 Q2V b c l f m h:=by intros;unfold Q4D;exact (QM _).trans (by kernel_rfl)
theorem Q8o:∀ f c d e a b,Q2V f c d e a b =
 bn Q1 .lss a e λg=>
 condS g (
 bn Q1 .gtr a (iv 0) λh=>
 condS h (
 bn Q0 .add d c λi=>
 Q4D f c i a e a b) (
 Q4D f c d a e a b)) (
 bn Q0 .add (sv [40]) d λj=>
 bn Q0 .add j (sv [41]) λk=>
 some (.ret k,b)):=by intros;unfold Q2V;exact (Qd _ _ _ _ _ _).trans (by kernel_rfl)
theorem QgX(a:AV)(b:AV)(s:St):cw (.f Q21) [a,b] s =
 ln Q8 (.val a) λc=>
 Q2V (.val a) (.val b) (sv []) c (iv 0) s:=(Q3 _ _ _).trans (by kernel_rfl)
noncomputable def Q2o:Slot->Slot->Slot->Slot->Slot->St->Res:=λa b c d e s=>pwD Q0A [.seqR,.seqR,.seqL,.seqR,.block,.loop,.seqR,.seqR,.seqL,.block,.seqR,.seqR] Tryz.f66 [(0,.s a),(3,.s b),(4,.s c),(7,.s d),(8,.s e)] s
noncomputable def Q2p:Slot->Slot->Slot->Slot->St->Res:=λa b c d s=>lpD Q0A [.seqR,.seqR,.seqL,.seqR,.block] Tryz.f66 [(0,.s a),(3,.s b),(7,.s c),(8,.s d)] s
theorem QbU:∀ a g d h i b,Q2o a g d h i b =
 ix QF a d λn=>
 fa 5 n λo=>
 ld Q6 b o λp=>
 bx Q6 p λc=>
 pZ Q6 c λf=>
 ix QF a d λq=>
 fa 0 q λr=>
 ld Ql b r λt=>
 cn Q0M [t,(iv 0)] b λu j=>
 bn Q0 .add g u λv=>
 bn Q0 .add v (sv [32,61,62,32]) λx=>
 gA Q6 f λy=>
 cn Zg [y] j λz k=>
 ln Qf a λA=>
 bn Q1 .sub A (iv 1) λB=>
 bn Q1 .lss d B λe=>
 iT e λw=>
 bind1 (gd w (ofSlots (C.ti Q6) (List.take (C.ti Q6).size f))) λD=>
 iT e λJ=>
 back (noPan (cal cw J (tgtV (.val (.fn Q0h [])) [D]) k)) λE l=>
 pk e E (bv false) λF=>
 cn Zc [z,F] l λG m=>
 bn Q0 .add x G λH=>
 nx i λI=>
 Q2p a H h I m:=by intros;unfold Q2o;exact (QM _).trans (by kernel_rfl)
theorem Q7v:∀ e c d a b,Q2p e c d a b =
 bn Q1 .lss a d λh=>
 condS h (
 bn Q1 .gtr a (iv 0) λf=>
 condS f (
 bn Q0 .add c (sv [32,124,32]) λg=>
 Q2o e g a d a b) (
 Q2o e c a d a b)) (
 some (.ret c,b)):=by intros;unfold Q2p;exact (Qd _ _ _ _ _ _).trans (by kernel_rfl)
theorem Qfl(a:AV)(s:St):cw (.f Q0A) [a] s =
 ln Qf (.val a) λb=>
 Q2p (.val a) (sv []) b (iv 0) s:=(Q3 _ _ _).trans (by kernel_rfl)
theorem Q3z(k:AV)(s:St):cw (.f Q90) [k] s =
 bx Q6 (.val k) λb=>
 gC Q8 4 b λf3=>
 ix Q6 f3 (iv 0) λg1=>
 ld Q6 s g1 λJ=>
 bx Q6 J λc=>
 pZ Q6 c λa=>
 gC Q8 4 b λO=>
 ix Q6 O (iv 1) λP=>
 ld Q6 s P λR=>
 bx Q6 R λn=>
 pZ Q6 n λd=>
 gC Q2 0 b λg=>
 bn Q2 .eql g (iv 18) λU=>
 condS U (
 gA Q6 a λV=>
 cn Zg [V] s λW o=>
 gA Q6 a λY=>
 cn ZK [Y] o λa1 A=>
 bn Q1 .lss a1 (iv 2) λh=>
 iF h λw=>
 iF h λh0=>
 gG h0 w Q2 0 a λa2=>
 iF h λh2=>
 gB h2 Q2 .eql a2 (iv 11) λa3=>
 pk h (bv true) a3 λa4=>
 cn Zc [W,a4] A λa5 B=>
 bn Q0 .add a5 (sv [32,58,61,32]) λa6=>
 gA Q6 d λa7=>
 cn QA [a7,(iv 1)] B λa8 D=>
 bn Q0 .add a6 a8 λa9=>
 some (.ret a9,D)) (
 bn Q2 .eql g (iv 15) λb0=>
 condS b0 (
 gA Q6 a λb1=>
 cn QA [b1,(iv 4)] s λb2 E=>
 bn Q0 .add b2 (sv [32,111,114,101,108,115,101,32]) λb3=>
 gA Q6 d λb4=>
 cn QA [b4,(iv 3)] E λb5 F=>
 bn Q0 .add b3 b5 λb6=>
 some (.ret b6,F)) (
 bn Q2 .eql g (iv 14) λb7=>
 condS b7 (
 gA Q6 a λb8=>
 cn QA [b8,(iv 5)] s λb9 G=>
 bn Q0 .add b9 (sv [32,97,110,100,97,108,115,111,32]) λd0=>
 gA Q6 d λd1=>
 cn QA [d1,(iv 4)] G λd2 H=>
 bn Q0 .add d0 d2 λd3=>
 some (.ret d3,H)) (
 bn Q2 .eql g (iv 6) λd4=>
 condS d4 (
 gC Q2 0 a λd5=>
 bn Q2 .eql d5 (iv 3) λe=>
 iT e λh3=>
 iT e λh4=>
 gG h4 h3 Q8 4 a λd6=>
 iT e λh5=>
 gL h5 Q8 d6 λd7=>
 iT e λh6=>
 gB h6 Q1 .eql d7 (iv 0) λd8=>
 pk e d8 (bv false) λi=>
 iT i λh7=>
 iT i λh8=>
 gG h8 h7 Q0 2 a λd9=>
 iT i λh9=>
 gB h9 Q0 .neq d9 (sv [40,41]) λe0=>
 pk i e0 (bv false) λe1=>
 gA Q6 a λe2=>
 cn Zg [e2] s λe3 I=>
 gA Q6 a λe4=>
 cn ZK [e4] I λe5 p=>
 bn Q1 .lss e5 (iv 8) λm=>
 iF m λh1=>
 pk m (bv true) (gdV h1 e1) λe6=>
 cn Zc [e3,e6] p λe7 q=>
 bn Q0 .add e7 (sv [32]) λe8=>
 gA Q6 d λe9=>
 cn QA [e9,(iv 9)] q λf0 r=>
 bn Q0 .add e8 f0 λf1=>
 some (.ret f1,r)) (
 gA Q6 b λf2=>
 ca ZK [f2] s λj l=>
 bn Q1 .eql j (iv 5) λf4=>
 condS f4 (
 gA Q6 a λf5=>
 cn QA [f5,(iv 6)] l λf6 t=>
 gC Q1 3 b λf7=>
 cn Q7L [f7] t λf8 u=>
 bn Q0 .add f6 f8 λf9=>
 gA Q6 d λg0=>
 cn QA [g0,(iv 6)] u λg2 v=>
 bn Q0 .add f9 g2 λg3=>
 some (.ret g3,v)) (
 gA Q6 a λg4=>
 cn QA [g4,j] l λg5 x=>
 gC Q1 3 b λg6=>
 cn Q7L [g6] x λg7 y=>
 bn Q0 .add g5 g7 λg8=>
 gA Q6 d λg9=>
 nx j λL=>
 cn QA [g9,L] y λM z=>
 bn Q0 .add g8 M λN=>
 some (.ret N,z)))))):=(Q3 _ _ _).trans (by kernel_rfl)
theorem Qeo(a:AV)(s:St):cw (.f Q6h) [a] s =
 bx Ql (.val a) λb=>
 bindA (avs b) λl1=>
 bind1 (fnS Q4I [(.val (.cp l1))]) λc=>
 some (.ret c,s):=(Q3 _ _ _).trans (by kernel_rfl)
theorem Qbn(a:AV)(s:St):cw (.f Q3Y) [a] s =
 ld Ql s (.val a) λc=>
 ca Q0a [c] s λd b=>
 some (.ret d,b):=(Q3 _ _ _).trans (by kernel_rfl)
noncomputable def Q1I:Slot->Slot->Slot->Slot->St->Res:=λa b c d s=>lpD Q0a [.seqR,.seqR,.seqL,.seqR,.block] Tryz.f70 [(3,.s a),(7,.s b),(8,.s c),(9,.s d)] s
theorem Q76:∀ d e f b a,Q1I d e f b a =
 bn Q1 .lss b f λi=>
 condS i (
 ix Ql e b λj=>
 ld Ql a j λk=>
 bx Ql k λc=>
 pZ Ql c λg=>
 gA Ql g λl=>
 ca Q0a [l] a λm h=>
 bind1 (max2 d m) λn=>
 nx b λo=>
 Q1I n e f o h) (
 nx d λp=>
 some (.ret p,a)):=by intros;unfold Q1I;exact (Qd _ _ _ _ _ _).trans (by kernel_rfl)
theorem Qen(a:AV)(s:St):cw (.f Q0a) [a] s =
 bx Ql (.val a) λc=>
 gC Qv 4 c λb=>
 ln Qv b λd=>
 Q1I (iv 0) b d (iv 0) s:=(Q3 _ _ _).trans (by kernel_rfl)
noncomputable def Zt:Slot->Slot->Slot->St->Res:=λa b c s=>pwD Q23 [.seqR,.seqR,.seqR] Tryz.f71 [(1,.s a),(5,.s b),(6,.s c)] s
theorem Qd8:∀ c d b a,Zt c d b a =
 bn Q1 .lss d c λf=>
 condS f (
 ca Zx [b] a λg e=>
 some (.ret g,e)) (
 some (.ret b,a)):=by intros;unfold Zt;exact (QM _).trans (by kernel_rfl)
theorem Qh9(g:AV)(b:AV)(s:St):cw (.f Q23) [g,b] s =
 bx Ql (.val g) λi=>
 bindA (avs i) λl2=>
 bs Q0 [(sv [95])] λb8=>
 ca Qq [b8] s λb9 a=>
 fa 0 (.val (.cp l2)) λd0=>
 ld Qi a d0 λd=>
 bn Qi .eql d (iv 2) λr=>
 condS r (
 fa 2 (.val (.cp l2)) λt=>
 ld Q0 a t λu=>
 bs Q0 [u] λv=>
 ca Qq [v] a λw m=>
 Zt (.val b) (iv 2) w m) (
 bn Qi .eql d (iv 3) λx=>
 condS x (
 fa 3 (.val (.cp l2)) λy=>
 ld Q1 a y λz=>
 ca Q4x [z] a λA n=>
 Zt (.val b) (iv 2) A n) (
 bn Qi .eql d (iv 4) λB=>
 condS B (
 fa 2 (.val (.cp l2)) λD=>
 ld Q0 a D λE=>
 bs Q0 [E] λF=>
 ca Qq [F] a λh c=>
 fa 4 (.val (.cp l2)) λG=>
 ld Qv c G λH=>
 ln Qv H λI=>
 bn Q1 .gtr I (iv 0) λJ=>
 condS J (
 fa 4 (.val (.cp l2)) λL=>
 ld Qv c L λM=>
 ix Ql M (iv 0) λN=>
 ld Ql c N λO=>
 ca Q23 [O,(iv 2)] c λP o=>
 bs Qj [h,P] λR=>
 ca Qs [R] o λU p=>
 Zt (.val b) (iv 1) U p) (
 Zt (.val b) (iv 2) h c)) (
 bn Qi .eql d (iv 5) λV=>
 condS V (
 fa 4 (.val (.cp l2)) λW=>
 ld Qv a W λY=>
 ln Qv Y λa2=>
 bind1 (fnS Q24 [(.val (.cp l2))]) λa3=>
 ca QX [(sv [44]),a2,a3] a λa4 q=>
 ca Zx [a4] q λa5 j=>
 Zt (.val b) (iv 2) a5 j) (
 bn Qi .eql d (iv 6) λa6=>
 condS a6 (
 fa 2 (.val (.cp l2)) λa7=>
 bind1 (ldV (C.ti Q0) true a a7) λa8=>
 bs Q0 [a8,(sv [97,115])] λa9=>
 cn Qq [a9] a λb0 e=>
 fa 4 (.val (.cp l2)) λb1=>
 bind1 (ldV (C.ti Qv) true e b1) λb2=>
 ix Ql b2 (iv 0) λb3=>
 bind1 (ldV (C.ti Ql) true e b3) λb4=>
 cn Q2A [b4] e λb5 k=>
 bs Qj [b0,b5] λb6=>
 cn Qs [b6] k λb7 l=>
 Zt (.val b) (iv 0) b7 l) (
 Zt (.val b) (iv 2) b9 a))))):=(Q3 _ _ _).trans (by kernel_rfl)
noncomputable def Q2k:List Slot->Slot->Slot->St->Res:=λa b c s=>lpD Q0z [.seqR,.seqR,.seqL,.seqR,.block] Tryz.f72 [(1,.var a),(3,.s b),(4,.s c)] s
theorem Q7o:∀ b d c a,Q2k b d c a =
 gC Qv 4 b λg=>
 ln Qv g λh=>
 bn Q1 .lss c h λi=>
 condS i (
 gC Qv 4 b λk=>
 ix Ql k c λl=>
 ld Ql a l λm=>
 ca Q0z [m] a λn e=>
 ap Qh e d n λo f=>
 nx c λj=>
 Q2k b o j f) (
 some (.ret d,a)):=by intros;unfold Q2k;exact (Qd _ _ _ _ _ _).trans (by kernel_rfl)
theorem Qf8(b:AV)(s:St):cw (.f Q0z) [b] s =
 bx Ql (.val b) λa=>
 gA Ql a λc=>
 gC Q1 1 a λd=>
 bd Qh [(0,Q1,(iv 3)),(17,Ql,c),(2,Q1,d)] λe=>
 bs Qh [e] λg=>
 Q2k a g (iv 0) s:=(Q3 _ _ _).trans (by kernel_rfl)
noncomputable def Q1a:List Slot->Slot->Slot->St->Res:=λa b c s=>lpD Zf [.seqR,.seqR,.seqL,.seqR,.block] Tryz.f73 [(1,.var a),(3,.s b),(4,.s c)] s
theorem Q61:∀ b d c a,Q1a b d c a =
 gC Qv 4 b λm=>
 ln Qv m λn=>
 bn Q1 .lss c n λo=>
 condS o (
 gC Qv 4 b λg=>
 ix Ql g c λh=>
 ld Ql a h λi=>
 ca Zf [i] a λj e=>
 bind1 (max2 d j) λk=>
 nx c λf=>
 Q1a b k f e) (
 nx d λl=>
 some (.ret l,a)):=by intros;unfold Q1a;exact (Qd _ _ _ _ _ _).trans (by kernel_rfl)
theorem QcZ(a:AV)(s:St):cw (.f Zf) [a] s =
 bx Ql (.val a) λb=>
 Q1a b (iv 0) (iv 0) s:=(Q3 _ _ _).trans (by kernel_rfl)
theorem QiG(a:AV)(b:AV)(s:St):cw (.f Q0M) [a,b] s =
 bx Ql (.val a) λc=>
 gA Ql c λj=>
 cn Q0q [j] s λk d=>
 gA Ql c λl=>
 cn Q4H [l] d λm e=>
 bn Q1 .lss m (.val b) λh=>
 cn Zc [k,h] e λi g=>
 some (.ret i,g):=(Q3 _ _ _).trans (by kernel_rfl)
noncomputable def Q1R:List Slot->Slot->List Slot->St->Res:=λa b c s=>pwD Q58 [.seqR,.scope,.seqR,.seqR,.seqR,.seqR,.seqR] Tryz.f75 [(3,.var a),(4,.s b),(5,.var c)] s
noncomputable def Q1S:Slot->List Slot->Slot->List Slot->Slot->St->Res:=λa b c d e s=>lpD Q58 [.seqR,.scope,.seqR,.seqR,.seqR,.seqR,.seqL,.seqR,.block] Tryz.f75 [(0,.s a),(3,.var b),(4,.s c),(5,.var d),(6,.s e)] s
theorem QeT:∀ c d a b,Q1R c d a b =
 gC QB 0 a λi=>
 bn QB .neq i (iv 0) λj=>
 condS j (
 gA Qa a λk=>
 bx Qa k λg=>
 pt c 0 g λe=>
 rt [(some (.val (.nils))),(ofSlots (C.ti Qa) (List.take (C.ti Qa).size e))] b) (
 gA Qa a λl=>
 bx Qa l λh=>
 pt c 0 h λf=>
 rt [(some d),(ofSlots (C.ti Qa) (List.take (C.ti Qa).size f))] b):=by intros;unfold Q1R;exact (QM _).trans (by kernel_rfl)
theorem QeU:∀ d e a f b h,Q1S d e a f b h =
 ln Q0 d λB=>
 bn Q1 .lss b B λD=>
 condS D (
 bind1 (indexS (C.ti Q0) (C.ti T_0) d b) λa2=>
 ca Q39 [(sv [32,9,10,13]),a2] h λa3 j=>
 bn Q1 .geq a3 (iv 0) λa4=>
 condS a4 (
 nx b λa5=>
 Q1S d e a f a5 j) (
 bind1 (sliceS (C.ti Q0) 0 d (some b) none none) λa6=>
 ca Q38 [a6,(sv [40,42])] j λa7 g=>
 condS a7 (
 ca Q5a [d,b] g λo k=>
 bn Q1 .lss o (iv 0) λa8=>
 condS a8 (
 bd Qa [(0,QB,(iv 12)),(1,Q1,b)] λa9=>
 bx Qa a9 λu=>
 pt f 0 u λp=>
 Q1R e a p k) (
 Q1S d e a f o k)) (
 ln Q0W a λb0=>
 bn Q1 .geq b0 (iv 16384) λb1=>
 condS b1 (
 bd Qa [(0,QB,(iv 4)),(1,Q1,b)] λb2=>
 bx Qa b2 λv=>
 pt f 0 v λq=>
 Q1R e a q g) (
 bind1 (sliceS (C.ti Q0) 0 d (some b) none none) λE=>
 ln Q0W a λF=>
 bn Q1 .gtr F (iv 0) λc=>
 iT c λw=>
 iT c λb3=>
 iT c λb4=>
 gL b4 Q0W (gdV b3 a) λG=>
 iT c λb5=>
 gB b5 Q1 .sub G (iv 1) λH=>
 iT c λb6=>
 bind1 (gd b6 (ixS (C.ti Q9).size (gdV w a) H)) λI=>
 iT c λb7=>
 bind1 (gd b7 (faV 2 I)) λJ=>
 iT c λb8=>
 bind1 (gd b8 (ldV (C.ti Q0) false g J)) λL=>
 iT c λb9=>
 gB b9 Q0 .eql L (sv [126]) λM=>
 pk c M (bv false) λN=>
 cn Q8y [E,N] g λm l=>
 ex m 0 λO=>
 ex m 1 λn=>
 bx Q9 O λx=>
 pZ Q9 x λt=>
 bn QB .neq n (iv 0) λP=>
 condS P (
 bd Qa [(0,QB,n),(1,Q1,b)] λR=>
 bx Qa R λy=>
 pt f 0 y λr=>
 Q1R e a r l) (
 bx Q1 b λz=>
 pt t 1 z λi=>
 gA Q9 i λU=>
 bs Q9 [U] λV=>
 ap Q9 l a V λW A=>
 gC Q0 2 i λY=>
 ln Q0 Y λa0=>
 bn Q1 .add b a0 λa1=>
 Q1S d e W f a1 A))))) (
 Q1R e a f h):=by intros;unfold Q1S;exact (Qd _ _ _ _ _ _).trans (by kernel_rfl)
theorem Qjz(a:AV)(s:St):cw (.f Q58) [a] s =
 ln Q0 (.val a) λg=>
 bn Q1 .gtr g (iv 65536) λh=>
 condS h (
 bd Qa [(0,QB,(iv 4))] λi=>
 bx Qa i λc=>
 pZ Qa c λb=>
 rt [(some (.val (.nils))),(ofSlots (C.ti Qa) (List.take (C.ti Qa).size b))] s) (
 bd Qa [] λj=>
 bx Qa j λe=>
 pZ Qa e λd=>
 Q1S (.val a) ((List.map .val (C.ti Qa).zero)) (.val (.nils)) d (iv 0) s):=(Q3 _ _ _).trans (by kernel_rfl)
theorem Q1W(a:AV)(b:AV)(s:St):cw (.f Zv) [a,b] s =
 ca Zh [(.val a),(.val b)] s λd c=>
 bn Q1 .geq d (iv 0) λe=>
 some (.ret e,c):=(Q3 _ _ _).trans (by kernel_rfl)
theorem Q9t(a:AV)(b:AV)(s:St):cw (.f Zs) [a,b] s =
 bx Qo (.val a) λc=>
 gA Qo c λe=>
 ld Q3M s (.val b) λg=>
 ca Q1N [e,g] s λh d=>
 nt h λi=>
 some (.ret i,d):=(Q3 _ _ _).trans (by kernel_rfl)
theorem Qd9(a:AV)(s:St):cw (.f Q3f) [a] s =
 bn Q1 .rem (.val a) (iv 26) λi=>
 bn Q1 .add (iv 97) i λj=>
 bind1 (convS (C.ti Q1) (C.ti Q27) j) λk=>
 bind1 (convS (C.ti Q27) (C.ti Q0) k) λl=>
 bn Q0 .add (sv [39]) l λb=>
 bn Q1 .gtr (.val a) (iv 25) λd=>
 condS d (
 bn Q1 .quo (.val a) (iv 26) λe=>
 ca Q5b [e] s λg c=>
 bn Q0 .add b g λh=>
 some (.ret h,c)) (
 some (.ret b,s)):=(Q3 _ _ _).trans (by kernel_rfl)
theorem Qh7(a:AV)(b:AV)(s:St):cw (.f Q3n) [a,b] s =
 fa 3 (.val b) λd=>
 ld Qn s d λe=>
 ix Qo e (.val a) λg=>
 ld Qo s g λh=>
 ca Q0e [h,(iv 2)] s λi c=>
 some (.ret i,c):=(Q3 _ _ _).trans (by kernel_rfl)
theorem Qh8(a:AV)(b:AV)(s:St):cw (.f Q3o) [a,b] s =
 fa 3 (.val b) λd=>
 ld Qn s d λe=>
 ix Qo e (.val a) λg=>
 ld Qo s g λh=>
 ca Q0e [h,(iv 0)] s λi c=>
 some (.ret i,c):=(Q3 _ _ _).trans (by kernel_rfl)
noncomputable def Q2s:Slot->List Slot->Slot->Slot->St->Res:=λa d b c s=>lpD Q2K [.seqR,.seqR,.seqR,.seqL,.seqR,.block] Tryz.f81 [(1,.s a),(2,.var d),(17,.s b),(18,.s c)] s
theorem Q7x:∀ c e d b a,Q2s c e d b a =
 bn Q1 .lss b d λh=>
 condS h (
 gC Qn 3 e λi=>
 ix Qo i b λj=>
 ld Qo a j λk=>
 ca Q2K [k,c] a λg f=>
 bn Q1 .lss g (iv 0) λl=>
 condS l (
 some (.ret (iv (-1)),f)) (
 nx b λm=>
 Q2s g e d m f)) (
 some (.ret c,a)):=by intros;unfold Q2s;exact (Qd _ _ _ _ _ _).trans (by kernel_rfl)
theorem Qfn(c:AV)(d:AV)(s:St):cw (.f Q2K) [c,d] s =
 bx Qo (.val c) λb=>
 bn Q1 .sub (.val d) (iv 1) λg=>
 bn Q1 .lss g (iv 0) λa=>
 iF a λw=>
 bind1 (gd w (ofSlots (C.ti Qo) (List.take (C.ti Qo).size b))) λh=>
 iF a λn=>
 cg n Q5j [h] s λi e=>
 iF a λo=>
 gN o i λj=>
 pk a (bv true) j λk=>
 condS k (
 some (.ret (iv (-1)),e)) (
 gC Qn 3 b λl=>
 ln Qn l λm=>
 Q2s g b m (iv 0) e):=(Q3 _ _ _).trans (by kernel_rfl)
theorem QiD(a:AV)(s:St):cw (.f Q46) [a] s =
 bn Q1 .rem (.val a) (iv 26) λi=>
 bn Q1 .add (iv 97) i λj=>
 bind1 (convS (C.ti Q1) (C.ti Qb) j) λl=>
 bs Qb [l] λm=>
 bind1 (convS (C.ti QQ) (C.ti Q0) m (C.ti Qb).k) λb=>
 bn Q1 .gtr (.val a) (iv 25) λd=>
 condS d (
 bn Q1 .quo (.val a) (iv 26) λe=>
 ca Q12 [e] s λg c=>
 bn Q0 .add b g λh=>
 some (.ret h,c)) (
 some (.ret b,s)):=(Q3 _ _ _).trans (by kernel_rfl)
theorem QjK(a:AV)(b:AV)(s:St):cw (.f Q2z) [a,b] s =
 bx Qo (.val a) λc=>
 gA Qo c λj=>
 cn Zu [j] s λk d=>
 gA Qo c λl=>
 cn Q5k [l] d λm e=>
 bn Q1 .lss m (.val b) λh=>
 cn Zc [k,h] e λi g=>
 some (.ret i,g):=(Q3 _ _ _).trans (by kernel_rfl)
noncomputable def Q0d:Slot->Slot->Slot->Slot->Slot->Slot->Slot->Slot->St->Res:=λg h a b c d e f s=>lpD Q0r [.seqR,.seqR,.seqL,.seqR,.block,.loop,.seqR,.seqR,.seqL,.block,.seqR,.seqR,.seqR,.seqL,.seqR,.block] Tryz.f86 [(3,.s g),(6,.s h),(11,.s a),(12,.s b),(13,.s c),(35,.s d),(36,.s e),(37,.s f)] s
noncomputable def Q1h:Slot->List Slot->Slot->Slot->Slot->Slot->Slot->Slot->Slot->St->Res:=λg h i a b c d e f s=>lpD Q0r [.seqR,.seqR,.seqL,.seqR,.block,.loop,.seqR,.seqR,.seqL,.block,.seqR,.seqR,.seqL,.seqR,.block] Tryz.f86 [(3,.s g),(5,.var h),(6,.s i),(11,.s a),(12,.s b),(13,.s c),(21,.s d),(22,.s e),(23,.s f)] s
noncomputable def ZP:Slot->Slot->Slot->Slot->St->Res:=λd a b c s=>lpD Q0r [.seqR,.seqR,.seqL,.seqR,.block] Tryz.f86 [(3,.s d),(11,.s a),(12,.s b),(13,.s c)] s
theorem Q69:∀ h i c d e f g b a,Q0d h i c d e f g b a =
 bn Q1 .lss b g λm=>
 condS m (
 ix Z6 f b λn=>
 ld Z6 a n λo=>
 bx Z6 o λk=>
 pZ Z6 k λj=>
 gC QD 2 j λp=>
 condS p (
 gC Qo 3 j λq=>
 ca Q1n [q] a λr l=>
 bind1 (max2 i r) λt=>
 nx b λu=>
 Q0d h t c d e f g u l) (
 nx b λv=>
 Q0d h i c d e f g v a)) (
 nx i λw=>
 bind1 (max2 h w) λx=>
 nx e λy=>
 ZP x c d y a):=by intros;unfold Q0d;exact (Qd _ _ _ _ _ _).trans (by kernel_rfl)
theorem Q68:∀ h i j c d e f g b a,Q1h h i j c d e f g b a =
 bn Q1 .lss b g λo=>
 condS o (
 ix Zi f b λp=>
 ld Zi a p λq=>
 bx Zi q λm=>
 pZ Zi m λl=>
 gC QF 2 l λr=>
 bs QF [r] λt=>
 ca ZO [t] a λu n=>
 bind1 (max2 j u) λv=>
 nx b λw=>
 Q1h h i v c d e f g w n) (
 gC QC 4 i λk=>
 ln QC k λx=>
 Q0d h j c d e k x (iv 0) a):=by intros;unfold Q1h;exact (Qd _ _ _ _ _ _).trans (by kernel_rfl)
theorem Q67:∀ g e f b a,ZP g e f b a =
 bn Q1 .lss b f λj=>
 condS j (
 ix QL e b λk=>
 ld QL a k λl=>
 bx QL l λc=>
 pZ QL c λd=>
 gC Qf 5 d λm=>
 ca ZO [m] a λn i=>
 gC QE 6 d λh=>
 ln QE h λo=>
 Q1h g d n e f b h o (iv 0) i) (
 some (.ret g,a)):=by intros;unfold ZP;exact (Qd _ _ _ _ _ _).trans (by kernel_rfl)
theorem Q8t(a:AV)(s:St):cw (.f Q0r) [a] s =
 ln QG (.val a) λb=>
 ZP (iv 0) (.val a) b (iv 0) s:=(Q3 _ _ _).trans (by kernel_rfl)
theorem Qh2(b:AV)(d:AV)(s:St):cw (.f Q5m) [b,d] s =
 fa 6 (.val d) λw=>
 ld QE s w λx=>
 ix Zi x (.val b) λy=>
 ld Zi s y λz=>
 bx Zi z λc=>
 pZ Zi c λa=>
 gC Q0 0 a λk=>
 bs Q0 [k] λl=>
 cn Qq [l] s λm e=>
 gC Ql 2 a λn=>
 cn Q23 [n,(iv 2)] e λo g=>
 bs Q0 [(sv [61])] λp=>
 cn Qq [p] g λq h=>
 gC Q6 7 a λr=>
 cn ZL [r] h λt i=>
 bs Qj [m,o,q,t] λu=>
 cn Qs [u] i λv j=>
 some (.ret v,j):=(Q3 _ _ _).trans (by kernel_rfl)
theorem QjP(b:AV)(s:St):cw (.f Q7M) [b] s =
 bx Z6 (.val b) λa=>
 gC QD 2 a λo=>
 nt o λp=>
 condS p (
 gC Q0 0 a λq=>
 bs Q0 [q] λr=>
 ca Qq [r] s λt c=>
 some (.ret t,c)) (
 gC Q0 0 a λh=>
 bs Q0 [h,(sv [111,102])] λi=>
 cn Qq [i] s λj d=>
 gC Qo 3 a λk=>
 cn Q0e [k,(iv 0)] d λl e=>
 bs Qj [j,l] λm=>
 cn Qs [m] e λn g=>
 some (.ret n,g)):=(Q3 _ _ _).trans (by kernel_rfl)
theorem Qh3(a:AV)(s:St):cw (.f Q5n) [a] s =
 ca Q3f [(.val a)] s λd b=>
 bs Q0 [d] λe=>
 ca Qq [e] b λg c=>
 some (.ret g,c):=(Q3 _ _ _).trans (by kernel_rfl)
theorem Qh4(a:AV)(b:AV)(s:St):cw (.f Q5o) [a,b] s =
 fa 4 (.val b) λd=>
 ld QC s d λe=>
 ix Z6 e (.val a) λg=>
 ld Z6 s g λh=>
 ca Q7M [h] s λi c=>
 some (.ret i,c):=(Q3 _ _ _).trans (by kernel_rfl)
noncomputable def Q1s:Slot->Slot->Slot->Slot->Slot->St->Res:=λa b c d e s=>lpD Q13 [.seqR,.seqR,.seqL,.seqR,.block,.loop,.seqR,.seqL,.block,.seqR,.seqR,.seqR,.seqL,.seqR,.block] Tryz.f93 [(0,.s a),(3,.s b),(4,.s c),(5,.s d),(8,.s e)] s
noncomputable def Q2R:Slot->Slot->Slot->Slot->Slot->St->Res:=λa b c d e s=>lpD Q13 [.seqR,.seqR,.seqL,.seqR,.block,.loop,.seqR,.seqL,.block,.seqR,.seqR,.seqL,.seqR,.block] Tryz.f93 [(0,.s a),(3,.s b),(4,.s c),(5,.s d),(7,.s e)] s
noncomputable def Q2Q:Slot->Slot->Slot->Slot->Slot->St->Res:=λa b c d e s=>lpD Q13 [.seqR,.seqR,.seqL,.seqR,.block,.loop,.seqR,.seqL,.block,.seqR,.seqL,.seqR,.block] Tryz.f93 [(0,.s a),(3,.s b),(4,.s c),(5,.s d),(6,.s e)] s
noncomputable def Q02:Slot->Slot->Slot->St->Res:=λa b c s=>lpD Q13 [.seqR,.seqR,.seqL,.seqR,.block] Tryz.f93 [(0,.s a),(3,.s b),(4,.s c)] s
theorem Q8g:∀ b e c f d a,Q1s b e c f d a =
 ix QL b c λt=>
 fa 4 t λu=>
 ld QC a u λv=>
 ln QC v λw=>
 bn Q1 .lss d w λx=>
 condS x (
 ix QL b c λA=>
 fa 4 A λB=>
 ld QC a B λD=>
 ix Z6 D d λE=>
 fa 2 E λF=>
 ld QD a F λG=>
 condS G (
 ix QL b c λh=>
 fa 4 h λi=>
 ld QC a i λj=>
 ix Z6 j d λk=>
 fa 3 k λl=>
 ld Qo a l λm=>
 ca Q0T [m] a λn g=>
 bind1 (max2 f n) λo=>
 nx d λy=>
 Q1s b e c o y g) (
 nx d λz=>
 Q1s b e c f z a)) (
 nx f λp=>
 bind1 (max2 e p) λq=>
 nx c λr=>
 Q02 b q r a):=by intros;unfold Q1s;exact (Qd _ _ _ _ _ _).trans (by kernel_rfl)
theorem Q8f:∀ b f c g d a,Q2R b f c g d a =
 ix QL b c λi=>
 fa 6 i λj=>
 ld QE a j λk=>
 ln QE k λl=>
 bn Q1 .lss d l λm=>
 condS m (
 ix QL b c λo=>
 fa 6 o λp=>
 bind1 (ldV (C.ti QE) true a p) λq=>
 ix Zi q d λr=>
 fa 2 r λt=>
 fa 0 t λu=>
 bind1 (ldV (C.ti Ql) true a u) λv=>
 cn Zf [v] a λw e=>
 ix QL b c λx=>
 fa 6 x λy=>
 bind1 (ldV (C.ti QE) true e y) λz=>
 ix Zi z d λA=>
 fa 2 A λB=>
 fa 5 B λD=>
 bind1 (ldV (C.ti Q6) true e D) λE=>
 cn Z9 [E] e λF h=>
 bind1 (max3 g w F) λG=>
 nx d λn=>
 Q2R b f c G n h) (
 Q1s b f c g (iv 0) a):=by intros;unfold Q2R;exact (Qd _ _ _ _ _ _).trans (by kernel_rfl)
theorem Q8e:∀ b f c g d a,Q2Q b f c g d a =
 ix QL b c λi=>
 fa 5 i λj=>
 ld Qf a j λk=>
 ln Qf k λl=>
 bn Q1 .lss d l λm=>
 condS m (
 ix QL b c λo=>
 fa 5 o λp=>
 bind1 (ldV (C.ti Qf) true a p) λq=>
 ix QF q d λr=>
 fa 0 r λt=>
 bind1 (ldV (C.ti Ql) true a t) λu=>
 cn Zf [u] a λv e=>
 ix QL b c λw=>
 fa 5 w λx=>
 bind1 (ldV (C.ti Qf) true e x) λy=>
 ix QF y d λz=>
 fa 5 z λA=>
 bind1 (ldV (C.ti Q6) true e A) λB=>
 cn Z9 [B] e λD h=>
 bind1 (max3 g v D) λE=>
 nx d λn=>
 Q2Q b f c E n h) (
 Q2R b f c g (iv 0) a):=by intros;unfold Q2Q;exact (Qd _ _ _ _ _ _).trans (by kernel_rfl)
theorem Q8d:∀ b c d a,Q02 b c d a =
 ln QG b λe=>
 bn Q1 .lss d e λf=>
 condS f (
 Q2Q b c d (iv 0) (iv 0) a) (
 some (.ret c,a)):=by intros;unfold Q02;exact (Qd _ _ _ _ _ _).trans (by kernel_rfl)
theorem Qaq(a:AV)(s:St):cw (.f Q13) [a] s =
 Q02 (.val a) (iv 0) (iv 0) s:=(Q3 _ _ _).trans (by kernel_rfl)
noncomputable def Q5H:List Slot->Slot->Slot->Slot->Slot->St->Res:=λa b c d e s=>pwD Q1M [.seqR,.seqR,.seqR,.seqL,.seqR,.block,.loop,.seqR,.seqR,.seqL,.block,.seqR,.seqR] Tryz.f94 [(1,.var a),(3,.s b),(4,.s c),(44,.s d),(45,.s e)] s
noncomputable def Q3x:List Slot->Slot->Slot->Slot->Slot->St->Res:=λa b c d e s=>pwD Q1M [.seqR,.seqR,.seqR,.seqR,.seqR,.seqR,.seqL,.seqR,.block,.loop,.seqR,.seqR,.seqL,.block,.seqR,.seqR] Tryz.f94 [(1,.var a),(3,.s b),(5,.s c),(67,.s d),(68,.s e)] s
noncomputable def Q2q:List Slot->Slot->Slot->Slot->St->Res:=λa b c d s=>lpD Q1M [.seqR,.seqR,.seqR,.seqR,.seqR,.seqR,.seqL,.seqR,.block] Tryz.f94 [(1,.var a),(3,.s b),(67,.s c),(68,.s d)] s
noncomputable def Q3y:List Slot->Slot->Slot->Slot->St->Res:=λa b c d s=>lpD Q1M [.seqR,.seqR,.seqR,.seqL,.seqR,.block] Tryz.f94 [(1,.var a),(3,.s b),(44,.s c),(45,.s d)] s
theorem Q8J:∀ b c d e f a,Q5H b c d e f a =
 gC QC 4 b λh=>
 ix Z6 h d λi=>
 ld Z6 a i λj=>
 ca Q6z [j] a λk g=>
 bn Q0 .add c k λl=>
 nx f λm=>
 Q3y b l e m g:=by intros;unfold Q5H;exact (QM _).trans (by kernel_rfl)
theorem Qe1:∀ d e f g h b,Q3x d e f g h b =
 gC QE 6 d λk=>
 ix Zi k f λl=>
 ld Zi b l λm=>
 bx Zi m λc=>
 pZ Zi c λa=>
 gC Q0 0 a λn=>
 bn Q0 .add e n λo=>
 bn Q0 .add o (sv [32]) λp=>
 gC Ql 2 a λq=>
 cn Q0M [q,(iv 2)] b λr i=>
 bn Q0 .add p r λt=>
 bn Q0 .add t (sv [32,61,32]) λu=>
 gC Q6 7 a λv=>
 cn QA [v,(iv 0)] i λw j=>
 bn Q0 .add u w λx=>
 nx h λy=>
 Q2q d x g y j:=by intros;unfold Q3x;exact (QM _).trans (by kernel_rfl)
theorem Q8L:∀ e c d a b,Q2q e c d a b =
 bn Q1 .lss a d λf=>
 condS f (
 bn Q1 .gtr a (iv 0) λg=>
 condS g (
 bn Q0 .add c (sv [32,97,110,100,32]) λh=>
 Q3x e h a d a b) (
 Q3x e c a d a b)) (
 some (.ret c,b)):=by intros;unfold Q2q;exact (Qd _ _ _ _ _ _).trans (by kernel_rfl)
theorem Q8K:∀ b d e a c,Q3y b d e a c =
 bn Q1 .lss a e λf=>
 condS f (
 bn Q1 .gtr a (iv 0) λg=>
 condS g (
 bn Q0 .add d (sv [32,124,32]) λh=>
 Q5H b h a e a c) (
 Q5H b d a e a c)) (
 gC Qx 0 b λi=>
 bn Qx .eql i (iv 3) λj=>
 condS j (
 some (.ret d,c)) (
 gC QE 6 b λk=>
 ln QE k λl=>
 Q2q b (sv [102,117,110,32]) l (iv 0) c)):=by intros;unfold Q3y;exact (Qd _ _ _ _ _ _).trans (by kernel_rfl)
theorem Q5G(b:AV)(s:St):cw (.f Q1M) [b] s =
 bx QL (.val b) λa=>
 gC Qx 0 a λd=>
 bn Qx .eql d (iv 1) λi=>
 condS i (
 gC Qf 5 a λj=>
 ix QF j (iv 0) λk=>
 fa 0 k λl=>
 bind1 (ldV (C.ti Ql) true s l) λm=>
 cn Q0M [m,(iv 0)] s λn c=>
 bn Q0 .add (sv [118,97,108,32]) n λo=>
 bn Q0 .add o (sv [32,61,32]) λp=>
 gC Qf 5 a λq=>
 ix QF q (iv 0) λr=>
 fa 5 r λt=>
 bind1 (ldV (C.ti Q6) true c t) λu=>
 cn QA [u,(iv 0)] c λv e=>
 bn Q0 .add p v λw=>
 some (.ret w,e)) (
 bn Qx .eql d (iv 4) λx=>
 condS x (
 gC QC 4 a λy=>
 ix Z6 y (iv 0) λz=>
 ld Z6 s z λA=>
 ca Q6z [A] s λB g=>
 bn Q0 .add (sv [101,120,99,101,112,116,105,111,110,32]) B λD=>
 some (.ret D,g)) (
 gC Q1 3 a λE=>
 cn Q3J [E] s λF h=>
 bn Q0 .add (sv [100,97,116,97,116,121,112,101,32]) F λG=>
 gC Q0 2 a λH=>
 bn Q0 .add G H λI=>
 bn Q0 .add I (sv [32,61,32]) λJ=>
 gC QC 4 a λL=>
 ln QC L λM=>
 Q3y a J M (iv 0) h)):=(Q3 _ _ _).trans (by kernel_rfl)
noncomputable def Q7f(a:Slot)(b:Slot):Am.Obj:=.loop .ready none Q5r [(3,.s a),(5,.s b)] [8] (rngAsg (codeAt [.seqR,.seqR,.seqL,.seqR,.block] (body Tryz.f95))) (rngBody (codeAt [.seqR,.seqR,.seqL,.seqR,.block] (body Tryz.f95)))
theorem Qde(d:Slot)(b:Slot)(f:AV)(loc:Nat)(e:St):yldR C (Q7f d b) loc [f] e=noPan (
 bx Z7 (.val f) λh=>
 pZ Z7 h λg=>
 bindS (beginL loc e) λj=>
 gA Z7 g λy=>
 ca Q40 [y] j λo a=>
 condS o (
 ld Q1 a b λp=>
 nx p λq=>
 bx Q1 q λi=>
 sto a b i λc=>
 ld Q1 c b λr=>
 ld Q1 c d λu=>
 bn Q1 .geq r u λw=>
 condS w (
 bindS (setLoop loc .done (some (.exit 0)) c) λk=>
 some (.ret (bv false),k)) (
 bindS (setLoop loc .ready none c) λl=>
 some (.ret (bv true),l))) (
 ld Q1 a b λt=>
 ld Q1 a d λv=>
 bn Q1 .geq t v λx=>
 condS x (
 bindS (setLoop loc .done (some (.exit 0)) a) λm=>
 some (.ret (bv false),m)) (
 bindS (setLoop loc .ready none a) λn=>
 some (.ret (bv true),n)))):=by kernel_rfl
theorem Qhb(b:AV)(d:AV)(s:St):cw (.f Q5r) [b,d] s =
 bx Q1 (.val d) λh=>
 bindA (avs h) λl3=>
 bx Q1 (iv 0) λc=>
 sto (St.addLoc s (.var (List.map .val (C.ti Q1).zero))) (.val (.vp s.locs.length 0)) c λa=>
 rangeC C cw (.val b) a.locs.length (St.addLoc a (Q7f (.val (.cp l3)) (.val (.vp s.locs.length 0)))) λi=>
 endX a.locs.length i (λe=>
 ld Q1 e (.val (.vp s.locs.length 0)) λl=>
 some (.ret l,e)) (λk=>
 some (.ret (iv 0),k)) (λj g=>
 bif Nat.beq j 0 then (
 ld Q1 g (.val (.vp s.locs.length 0)) λm=>
 some (.ret m,g)) else (
(none:Res))):=(Q3 _ _ _).trans (by kernel_rfl)
noncomputable def QN:List Slot->List Slot->Slot->Slot->St->Res:=λa b c d s=>pwD Q1v [.seqR,.seqR,.seqR,.seqR] Tryz.f96 [(1,.var a),(2,.var b),(3,.s c),(4,.s d)] s
theorem Q9b:∀ e d a f b,QN e d a f b =
 bn QB .eql a (iv 0) λl=>
 condS l (
 bd Qa [] λm=>
 bx Qa m λc=>
 pt d 0 c λg=>
 gA Qa g λv=>some (.ret v,b)) (
 bn QB .neq a (iv 8) λn=>
 condS n (
 gC Q1 7 e λo=>
 bd Qa [(0,QB,a),(1,Q1,o),(2,Q0,(sv []))] λq=>
 bx Qa q λj=>
 pt d 0 j λh=>
 gA Qa h λv=>some (.ret v,b)) (
 gC Q1 7 e λp=>
 bd Qa [(0,QB,a),(1,Q1,p),(2,Q0,f)] λr=>
 bx Qa r λk=>
 pt d 0 k λi=>
 gA Qa i λv=>some (.ret v,b))):=by intros;unfold QN;exact (QM _).trans (by kernel_rfl)
theorem Qay(c:AV)(s:St):cw (.f Q1v) [c] s =
 bx Z7 (.val c) λa=>
 gC Q32 0 a λo=>
 bn Q32 .neq o (.val (.nilp)) λp=>
 condS p (
 gA Z7 a λq=>
 cn Q0s [q] s λr d=>
 gC Q32 0 a λt=>
 bind1 (nilCheckV t) λu=>
 fa 2 u λv=>
 bind1 (ldV (C.ti Q0) true d v) λw=>
 QN a ((List.map .val (C.ti Qa).zero)) r w d) (
 gC Q26 2 a λx=>
 bn Q26 .neq x (.val (.nilp)) λy=>
 condS y (
 gC Q26 2 a λz=>
 bind1 (nilCheckV z) λA=>
 fa 0 A λB=>
 ld Q0 s B λb=>
 ca Q2B [b] s λD e=>
 nt D λE=>
 condS E (
 QN a ((List.map .val (C.ti Qa).zero)) (iv 8) b e) (
 QN a ((List.map .val (C.ti Qa).zero)) (iv 0) b e)) (
 gC Q1o 3 a λF=>
 bn Q1o .neq F (.val (.nilp)) λG=>
 condS G (
 gC Q1o 3 a λH=>
 bind1 (nilCheckV H) λI=>
 bind1 (ldV (C.ti Z6) true s I) λJ=>
 cn Q5w [J] s λL g=>
 gC Q1o 3 a λM=>
 bind1 (nilCheckV M) λN=>
 fa 0 N λO=>
 bind1 (ldV (C.ti Q0) true g O) λP=>
 QN a ((List.map .val (C.ti Qa).zero)) L P g) (
 gC Q33 4 a λR=>
 bn Q33 .neq R (.val (.nilp)) λU=>
 condS U (
 gC Q33 4 a λV=>
 bind1 (nilCheckV V) λW=>
 bind1 (ldV (C.ti Q6) true s W) λY=>
 cn Q5x [Y] s λa2 h=>
 gC Q33 4 a λa3=>
 bind1 (nilCheckV a3) λa4=>
 fa 2 a4 λa5=>
 bind1 (ldV (C.ti Q0) true h a5) λa6=>
 QN a ((List.map .val (C.ti Qa).zero)) a2 a6 h) (
 gC Q34 5 a λa7=>
 bn Q34 .neq a7 (.val (.nilp)) λa8=>
 condS a8 (
 gC Q34 5 a λb0=>
 bind1 (nilCheckV b0) λb1=>
 bind1 (ldV (C.ti Ql) true s b1) λb2=>
 cn Q3g [b2] s λb3 i=>
 gC Q34 5 a λb4=>
 bind1 (nilCheckV b4) λb5=>
 fa 2 b5 λb6=>
 bind1 (ldV (C.ti Q0) true i b6) λb7=>
 QN a ((List.map .val (C.ti Qa).zero)) b3 b7 i) (
 gC Q6E 6 a λa1=>
 bind1 (nilCheckV a1) λa9=>
 bind1 (ldV (C.ti Qo) true s a9) λb8=>
 cn Q25 [b8] s λb9 j=>
 gC Q6E 6 a λk=>
 bind1 (nilCheckV k) λl=>
 fa 2 l λm=>
 bind1 (ldV (C.ti Q0) true j m) λn=>
 QN a ((List.map .val (C.ti Qa).zero)) b9 n j))))):=(Q3 _ _ _).trans (by kernel_rfl)
theorem Qa8(a:AV)(b:AV)(s:St):cw (.f Q3a) [a,b] s =
 bd QH [(0,Qw,(.val a))] λd=>
 ca ZR [d,(.val b)] s λe c=>
 rt [] c:=(Q3 _ _ _).trans (by kernel_rfl)
noncomputable def Q05:Slot->List Slot->Slot->Slot->St->Res:=λa b c d s=>lpD ZR [.seqR,.seqR,.seqL,.seqR,.block] Tryz.f98 [(1,.s a),(2,.var b),(29,.s c),(30,.s d)] s
theorem Q4q:∀ b c e d a,Q05 b c e d a =
 bn Q1 .lss d e λh=>
 condS h (
 gA QH c λi=>
 bind1 (nilCheckV b) λj=>
 fa 4 j λk=>
 ld Q8 a k λl=>
 ix Q6 l d λm=>
 cn ZR [i,m] a λn f=>
 nt n λo=>
 condS o (
 some (.ret (bv false),f)) (
 nx d λp=>
 Q05 b c e p f)) (
 gA QH c λq=>
 bind1 (nilCheckV b) λr=>
 fa 5 r λt=>
 ld Qf a t λu=>
 cn ZC [q,u] a λv g=>
 some (.ret v,g)):=by intros;unfold Q05;exact (Qd _ _ _ _ _ _).trans (by kernel_rfl)
theorem Qaz(e:AV)(b:AV)(s:St):cw (.f ZR) [e,b] s =
 bx QH (.val e) λc=>
 gC Qw 0 c λz=>
 bind1 (nilCheckV (.val b)) λh=>
 fa 1 h λi=>
 ld Q1 s i λj=>
 bd Z7 [(4,Q33,(.val b)),(7,Q1,j)] λk=>
 back (noPan (cal cw true (tgtV z [k]) s)) λl g=>
 nt l λa=>
 iF a λw=>
 bind1 (gd w (ofSlots (C.ti QH) (List.take (C.ti QH).size c))) λm=>
 iF a λA=>
 iF a λB=>
 bind1 (gd B (nilCheckV (gdV A (.val b)))) λn=>
 iF a λD=>
 bind1 (gd D (faV 6 n)) λo=>
 iF a λE=>
 bind1 (gd E (ldV (C.ti QG) false g o)) λp=>
 iF a λF=>
 back (noPan (cal cw F (tgtV (.val (.fn ZQ [])) [m,p,(bv true)]) g)) λq d=>
 iF a λG=>
 gN G q λr=>
 pk a (bv true) r λt=>
 condS t (
 some (.ret (bv false),d)) (
 bind1 (nilCheckV (.val b)) λu=>
 fa 4 u λv=>
 ld Q8 d v λx=>
 ln Q8 x λy=>
 Q05 (.val b) c y (iv 0) d):=(Q3 _ _ _).trans (by kernel_rfl)
noncomputable def Q0I:Slot->Slot->Slot->Slot->St->Res:=λa b c d s=>lpD ZO [.seqR,.seqR,.seqL,.seqR,.block] Tryz.f99 [(3,.s a),(6,.s b),(7,.s c),(8,.s d)] s
theorem Q5S:∀ d e f b a,Q0I d e f b a =
 bn Q1 .lss b f λr=>
 condS r (
 ix QF e b λj=>
 ld QF a j λk=>
 bx QF k λc=>
 pZ QF c λg=>
 gC Ql 0 g λl=>
 cn Q0a [l] a λm h=>
 gC Q6 5 g λn=>
 cn Q09 [n] h λo i=>
 bind1 (max3 d m o) λp=>
 nx b λq=>
 Q0I p e f q i) (
 some (.ret d,a)):=by intros;unfold Q0I;exact (Qd _ _ _ _ _ _).trans (by kernel_rfl)
theorem Q7A(a:AV)(s:St):cw (.f ZO) [a] s =
 ln Qf (.val a) λb=>
 Q0I (iv 0) (.val a) b (iv 0) s:=(Q3 _ _ _).trans (by kernel_rfl)
noncomputable def Z4:Slot->Slot->Slot->Slot->St->Res:=λa b c d s=>lpD Zk [.seqR,.seqL,.seqR,.block] Tryz.f100 [(0,.s a),(1,.s b),(7,.s c),(8,.s d)] s
theorem Q0S:∀ c d e b a,Z4 c d e b a =
 bn Q1 .lss b e λj=>
 condS j (
 ix Q0 c b λf=>
 ld Q0 a f λg=>
 bn Q0 .eql d g λh=>
 condS h (
 some (.ret b,a)) (
 nx b λi=>
 Z4 c d e i a)) (
 some (.ret (iv (-1)),a)):=by intros;unfold Z4;exact (Qd _ _ _ _ _ _).trans (by kernel_rfl)
theorem Q5Q(a:AV)(b:AV)(s:St):cw (.f Zk) [a,b] s =
 ln Qj (.val a) λc=>
 Z4 (.val a) (.val b) c (iv 0) s:=(Q3 _ _ _).trans (by kernel_rfl)
theorem QjC(a:AV)(s:St):cw (.f Q5b) [a] s =
 ca Q6g [(.val a)] s λc b=>
 some (.ret c,b):=(Q3 _ _ _).trans (by kernel_rfl)
noncomputable def QV:Slot->Slot->Slot->Slot->St->Res:=λd a b c s=>lpD Z2 [.seqR,.seqR,.seqR,.seqR,.seqL,.seqR,.block] Tryz.f102 [(6,.s d),(25,.s a),(26,.s b),(27,.s c)] s
noncomputable def QU:Slot->Slot->Slot->Slot->Slot->St->Res:=λa d e b c s=>lpD Z2 [.seqR,.seqR,.seqL,.seqR,.block] Tryz.f102 [(0,.s a),(3,.s d),(9,.s e),(10,.s b),(11,.s c)] s
theorem Q0H:∀ e c d b a,QV e c d b a =
 bn Q1 .lss b d λg=>
 condS g (
 ix Qj c b λh=>
 ld Qj a h λi=>
 ap Q0 a e i λj f=>
 nx b λk=>
 QV j c d k f) (
 some (.ret e,a)):=by intros;unfold QV;exact (Qd _ _ _ _ _ _).trans (by kernel_rfl)
theorem Q0G:∀ b e f d c a,QU b e f d c a =
 bn Q1 .lss c d λi=>
 condS i (
 ix Qj f c λj=>
 ld Qj a j λk=>
 ln Qj k λl=>
 bn Q1 .add e l λg=>
 bn Q1 .lss g (iv 0) λm=>
 condS m (
 bind1 (ifcS Q0 (sv [108,101,110,32,111,117,116,32,111,102,32,114,97,110,103,101])) λn=>
 panK n a) (
 nx c λo=>
 QU b g f d o a)) (
 ca Q08 [(.val (.nils)),e] a λp h=>
 ln Q1O b λq=>
 QV p b q (iv 0) h):=by intros;unfold QU;exact (Qd _ _ _ _ _ _).trans (by kernel_rfl)
theorem Q57(a:AV)(s:St):cw (.f Z2) [a] s =
 ln Q1O (.val a) λb=>
 QU (.val a) (iv 0) (.val a) b (iv 0) s:=(Q3 _ _ _).trans (by kernel_rfl)
noncomputable def Q1E:Slot->Slot->Slot->St->Res:=λa b c s=>pwD Q22 [.seqR,.seqR,.seqR] Tryz.f103 [(0,.s a),(1,.s b),(4,.s c)] s
theorem Qbg:∀ b c d a,Q1E b c d a =
 ld Qf a c λh=>
 ix QF h b λi=>
 fa 0 i λj=>
 ld Ql a j λk=>
 ca Q2A [k] a λl e=>
 bs Q0 [(sv [61,62])] λm=>
 ca Qq [m] e λn f=>
 bs Qj [l,n,d] λo=>
 ca Qs [o] f λp g=>
 some (.ret p,g):=by intros;unfold Q1E;exact (QM _).trans (by kernel_rfl)
theorem Qed(b:AV)(c:AV)(s:St):cw (.f Q22) [b,c] s =
 ld Qf s (.val c) λt=>
 ix QF t (.val b) λu=>
 fa 5 u λv=>
 ld Q6 s v λx=>
 ca ZL [x] s λg d=>
 bn Q1 .add (.val b) (iv 1) λi=>
 ld Qf d (.val c) λj=>
 ln Qf j λk=>
 bn Q1 .lss i k λa=>
 iT a λw=>
 bind1 (gd w (ldV (C.ti Qf) false d (.val c))) λl=>
 iT a λy=>
 iT a λz=>
 bind1 (gd z (ixS (C.ti QF).size l (gdV y (.val b)))) λm=>
 iT a λA=>
 bind1 (gd A (faV 5 m)) λn=>
 iT a λB=>
 bind1 (gd B (ldV (C.ti Q6) false d n)) λo=>
 iT a λD=>
 cg D Q0N [o] d λp e=>
 pk a p (bv false) λq=>
 condS q (
 ca Zx [g] e λr h=>
 Q1E (.val b) (.val c) r h) (
 Q1E (.val b) (.val c) g e):=(Q3 _ _ _).trans (by kernel_rfl)
noncomputable def Q5M:List Slot->Slot->Slot->St->Res:=λa b c s=>pwD Q0N [.seqR,.seqL,.seqR,.block,.seqR,.els,.seqR] Tryz.f104 [(1,.var a),(4,.s b),(9,.s c)] s
noncomputable def Q3C:List Slot->Slot->Slot->St->Res:=λa b c s=>pwD Q0N [.seqR,.seqL,.seqR,.block,.seqR] Tryz.f104 [(1,.var a),(4,.s b),(5,.s c)] s
theorem Q1F:∀ c e f a,Q5M c e f a =
 condS f (
 gC Q8 4 c λi=>
 gC Q8 4 c λj=>
 ln Q8 j λk=>
 bn Q1 .sub k (iv 1) λl=>
 ix Q6 i l λm=>
 ld Q6 a m λn=>
 ca Q0N [n] a λo g=>
 some (.ret o,g)) (
 bn Q2 .eql e (iv 18) λp=>
 condS p (
 gC Q8 4 c λq=>
 ix Q6 q (iv 1) λr=>
 ld Q6 a r λt=>
 ca Q3m [t] a λu d=>
 bn Q1 .geq u (iv 1) λb=>
 iT b λw=>
 iT b λB=>
 gG B w Q8 4 c λv=>
 iT b λD=>
 bind1 (gd D (ixS (C.ti Q6).size v (iv 1))) λx=>
 iT b λE=>
 bind1 (gd E (ldV (C.ti Q6) false d x)) λy=>
 iT b λF=>
 cg F Q0N [y] d λz h=>
 pk b z (bv false) λA=>
 some (.ret A,h)) (
 some (.ret (bv false),a))):=by intros;unfold Q5M;exact (QM _).trans (by kernel_rfl)
theorem ZB:∀ c a e b,Q3C c a e b =
 condS e (
 some (.ret (bv true),b)) (
 bn Q2 .eql a (iv 12) λd=>
 condS d (
 Q5M c a d b) (
 bn Q2 .eql a (iv 8) λf=>
 Q5M c a f b)):=by intros;unfold Q3C;exact (QM _).trans (by kernel_rfl)
theorem QiP(c:AV)(s:St):cw (.f Q0N) [c] s =
 bx Q6 (.val c) λb=>
 gC Q2 0 b λa=>
 bn Q2 .eql a (iv 5) λd=>
 condS d (
 Q3C b a d s) (
 bn Q2 .eql a (iv 9) λe=>
 condS e (
 Q3C b a e s) (
 bn Q2 .eql a (iv 11) λg=>
 Q3C b a g s)):=(Q3 _ _ _).trans (by kernel_rfl)
theorem Qh6(e:AV)(s:St):cw (.f Q3m) [e] s =
 bx Q6 (.val e) λa=>
 gC Q2 0 a λv=>
 bn Q2 .eql v (iv 3) λb=>
 iT b λw=>
 iT b λy=>
 gG y w Q8 4 a λx=>
 iT b λz=>
 gL z Q8 x λg=>
 iT b λA=>
 gB A Q1 .gtr g (iv 0) λh=>
 pk b h (bv false) λi=>
 condS i (
 some (.ret (iv 8),s)) (
 gC Q2 0 a λj=>
 bn Q2 .eql j (iv 13) λc=>
 iT c λB=>
 iT c λD=>
 gG D B Q1 3 a λk=>
 iT c λE=>
 gB E Q1 .leq k (iv 2) λl=>
 pk c l (bv false) λm=>
 condS m (
 some (.ret (iv 6),s)) (
 gC Q2 0 a λn=>
 bn Q2 .eql n (iv 13) λd=>
 iT d λF=>
 iT d λG=>
 gG G F Q1 3 a λo=>
 iT d λH=>
 gB H Q1 .leq o (iv 5) λp=>
 pk d p (bv false) λq=>
 condS q (
 some (.ret (iv 7),s)) (
 gC Q2 0 a λr=>
 bind1 (ixA 21 (C.ti Q1).size (.val (.cp glob1)) r) λt=>
 ld Q1 s t λu=>
 some (.ret u,s)))):=(Q3 _ _ _).trans (by kernel_rfl)
noncomputable def Q0Z:Slot->Slot->Slot->St->Res:=λa b c s=>lpD Q4v [.seqR,.seqR,.seqL,.seqR,.block] Tryz.f106 [(0,.s a),(3,.s b),(4,.s c)] s
theorem Q7q:∀ b d c a,Q0Z b d c a =
 ln Q0b b λl=>
 bn Q1 .lss c l λm=>
 condS m (
 ix Qh b c λg=>
 fa 0 g λh=>
 ld Q1 a h λi=>
 bn Q1 .leq i (iv 4) λj=>
 condS j (
 nx d λk=>
 nx c λe=>
 Q0Z b k e a) (
 nx c λf=>
 Q0Z b d f a)) (
 some (.ret d,a)):=by intros;unfold Q0Z;exact (Qd _ _ _ _ _ _).trans (by kernel_rfl)
theorem Qfb(a:AV)(s:St):cw (.f Q4v) [a] s =
 Q0Z (.val a) (iv 0) (iv 0) s:=(Q3 _ _ _).trans (by kernel_rfl)
theorem Qfi(d:AV)(s:St):cw (.f Q7c) [d] s =
 bx Qh (.val d) λa=>
 gC Q1 0 a λc=>
 bn Q1 .eql c (iv 1) λY=>
 condS Y (
 gC QL 3 a λa1=>
 gC QD 1 a λn=>
 cn Q8X [a1,n] s λo j=>
 gC Q0 5 a λp=>
 rt [(some o),(some p)] j) (
 bn Q1 .eql c (iv 2) λq=>
 condS q (
 gC Q6 10 a λr=>
 cn Q8Y [r] s λt k=>
 gC Q0 12 a λu=>
 rt [(some t),(some u)] k) (
 bn Q1 .eql c (iv 3) λv=>
 condS v (
 gC Ql 17 a λx=>
 cn Q8Z [x] s λy l=>
 gC Q0 19 a λz=>
 rt [(some y),(some z)] l) (
 bn Q1 .eql c (iv 4) λA=>
 condS A (
 gC Qo 22 a λB=>
 cn Q9D [B] s λD m=>
 gC Q0 24 a λE=>
 rt [(some D),(some E)] m) (
 bn Q1 .eql c (iv 5) λF=>
 condS F (
 gC Q0 26 a λG=>
 ca Q1L [G] s λH e=>
 nt H λI=>
 condS I (
 gC Q0 26 a λJ=>
 rt [(some (iv 8)),(some J)] e) (
 rt [(some (iv 0)),(some (sv []))] e)) (
 gC QD 42 a λL=>
 nt L λb=>
 iT b λw=>
 iT b λi=>
 chkP w i λ_=>
 iT b λa2=>
 bind1 (gd a2 (bif (w&&i) then (ofSlots (C.ti Qo) (List.take (C.ti Qo).size (List.drop 43 a))) else none)) λM=>
 iT b λa3=>
 cg a3 Q6d [M] s λN g=>
 iT b λa4=>
 gN a4 N λO=>
 pk b O (bv false) λP=>
 condS P (
 rt [(some (iv 29)),(some (sv []))] g) (
 gC Q0 40 a λR=>
 ca Q3e [R] g λU h=>
 nt U λV=>
 condS V (
 gC Q0 40 a λW=>
 rt [(some (iv 8)),(some W)] h) (
 rt [(some (iv 0)),(some (sv []))] h))))))):=(Q3 _ _ _).trans (by kernel_rfl)
noncomputable def Q0Y:List Slot->Slot->Slot->St->Res:=λa b c s=>lpD Q1k [.seqR,.seqR,.seqR,.seqR,.seqL,.seqR,.block] Tryz.f108 [(2,.var a),(5,.s b),(8,.s c)] s
noncomputable def Q2g:List Slot->Slot->Slot->St->Res:=λa b c s=>lpD Q1k [.seqR,.seqR,.seqR,.seqL,.seqR,.block] Tryz.f108 [(2,.var a),(5,.s b),(7,.s c)] s
noncomputable def Q2f:List Slot->Slot->Slot->St->Res:=λa b c s=>lpD Q1k [.seqR,.seqR,.seqL,.seqR,.block] Tryz.f108 [(2,.var a),(5,.s b),(6,.s c)] s
theorem Q41:∀ b f d e,Q0Y b f d e =
 gC QC 4 b λk=>
 ln QC k λl=>
 bn Q1 .lss d l λm=>
 condS m (
 gC QC 4 b λp=>
 ix Z6 p d λq=>
 ld Z6 e q λr=>
 bx Z6 r λc=>
 pZ Z6 c λa=>
 gA Z6 a λt=>
 gC Q1 1 a λu=>
 bd Qh [(0,Q1,(iv 6)),(40,Z6,t),(2,Q1,u)] λv=>
 bs Qh [v] λw=>
 ap Qh e f w λh g=>
 gC QD 2 a λx=>
 condS x (
 gC Qo 3 a λy=>
 gC Q1 1 a λz=>
 ca Q1Y [y,z] g λA i=>
 ap Qh i h A λB j=>
 nx d λn=>
 Q0Y b B n j) (
 nx d λo=>
 Q0Y b h o g)) (
 some (.ret f,e)):=by intros;unfold Q0Y;exact (Qd _ _ _ _ _ _).trans (by kernel_rfl)
theorem Q7k:∀ a d b c,Q2g a d b c =
 gC QE 6 a λh=>
 ln QE h λi=>
 bn Q1 .lss b i λj=>
 condS j (
 gC QE 6 a λl=>
 ix Zi l b λm=>
 ld Zi c m λn=>
 gC QE 6 a λo=>
 ix Zi o b λp=>
 fa 1 p λq=>
 ld Q1 c q λr=>
 bd Qh [(0,Q1,(iv 5)),(26,Zi,n),(2,Q1,r)] λt=>
 bs Qh [t] λu=>
 ap Qh c d u λv e=>
 gC QE 6 a λw=>
 ix Zi w b λx=>
 fa 2 x λy=>
 ld QF e y λz=>
 ca Q1X [z] e λA f=>
 ap Qh f v A λB g=>
 nx b λk=>
 Q2g a B k g) (
 Q0Y a d (iv 0) c):=by intros;unfold Q2g;exact (Qd _ _ _ _ _ _).trans (by kernel_rfl)
theorem Q7j:∀ a d c b,Q2f a d c b =
 gC Qf 5 a λg=>
 ln Qf g λh=>
 bn Q1 .lss c h λi=>
 condS i (
 gC Qf 5 a λk=>
 ix QF k c λl=>
 ld QF b l λm=>
 ca Q1X [m] b λn e=>
 ap Qh e d n λo f=>
 nx c λj=>
 Q2f a o j f) (
 Q2g a d (iv 0) b):=by intros;unfold Q2f;exact (Qd _ _ _ _ _ _).trans (by kernel_rfl)
theorem Qf6(b:AV)(c:AV)(s:St):cw (.f Q1k) [b,c] s =
 bx QL (.val b) λa=>
 gA QL a λd=>
 gC Q1 1 a λe=>
 bd Qh [(0,Q1,(iv 1)),(3,QL,d),(2,Q1,e),(1,QD,(.val c))] λg=>
 bs Qh [g] λh=>
 Q2f a h (iv 0) s:=(Q3 _ _ _).trans (by kernel_rfl)
theorem QdQ(a:AV)(s:St):cw (.f Q1X) [a] s =
 bx QF (.val a) λb=>
 gC Ql 0 b λg=>
 cn Q0z [g] s λh c=>
 gC Q6 5 b λi=>
 cn ZJ [i] c λj d=>
 ap Qh d h j λk e=>
 some (.ret k,e):=(Q3 _ _ _).trans (by kernel_rfl)
noncomputable def Q2O:Slot->Slot->Slot->St->Res:=λa b c s=>lpD Q12 [.seqR,.seqR,.seqR,.seqR,.seqL,.seqR,.block] Tryz.f110 [(0,.s a),(3,.s b),(4,.s c)] s
noncomputable def Q4z:Slot->Slot->St->Res:=λa b s=>pwD Q12 [.seqR,.seqR,.seqR] Tryz.f110 [(0,.s a),(3,.s b)] s
theorem Q4N:∀ d b c a,Q2O d b c a =
 bn Za .gtr b (.val (.int .u64 0)) λe=>
 condS e (
 bn Za .rem b (.val (.int .u64 10)) λg=>
 bn Za .add (.val (.int .u64 48)) g λh=>
 bind1 (convS (C.ti Za) (C.ti Qb) h) λi=>
 bs Qb [i] λj=>
 bind1 (convS (C.ti QQ) (C.ti Q0) j (C.ti Qb).k) λl=>
 bn Q0 .add l c λm=>
 bn Za .quo b (.val (.int .u64 10)) λf=>
 Q2O d f m a) (
 bn Q1 .lss d (iv 0) λn=>
 condS n (
 bn Q0 .add (sv [45]) c λo=>
 some (.ret o,a)) (
 some (.ret c,a))):=by intros;unfold Q2O;exact (Qd _ _ _ _ _ _).trans (by kernel_rfl)
theorem QcK:∀ c a b,Q4z c a b =
 bn Za .rem a (.val (.int .u64 10)) λd=>
 bn Za .add (.val (.int .u64 48)) d λe=>
 bind1 (convS (C.ti Za) (C.ti Qb) e) λf=>
 bs Qb [f] λg=>
 bind1 (convS (C.ti QQ) (C.ti Q0) g (C.ti Qb).k) λh=>
 bn Za .quo a (.val (.int .u64 10)) λi=>
 Q2O c i h b:=by intros;unfold Q4z;exact (QM _).trans (by kernel_rfl)
theorem QgH(a:AV)(s:St):cw (.f Q12) [a] s =
 bind1 (convS (C.ti Q1) (C.ti Za) (.val a)) λb=>
 bn Q1 .lss (.val a) (iv 0) λd=>
 condS d (
 bind1 (unS .neg b) λc=>
 Q4z (.val a) c s) (
 Q4z (.val a) b s):=(Q3 _ _ _).trans (by kernel_rfl)
theorem Qe7(a:AV)(b:AV)(s:St):cw (.f Zc) [a,b] s =
 condS (.val b) (
 bn Q0 .add (sv [40]) (.val a) λc=>
 bn Q0 .add c (sv [41]) λd=>
 some (.ret d,s)) (
 some (.ret (.val a),s)):=(Q3 _ _ _).trans (by kernel_rfl)
noncomputable def Q11:List Slot->Slot->Slot->St->Res:=λb c a s=>pwD ZK [.seqR,.seqL,.seqR,.block,.seqR,.els,.seqR,.els,.seqR,.els,.seqR,.els,.seqR,.els,.seqR] Tryz.f112 [(1,.var b),(4,.s c),(18,.s a)] s
noncomputable def Q10:List Slot->Slot->Slot->St->Res:=λa b c s=>pwD ZK [.seqR,.seqL,.seqR,.block,.seqR] Tryz.f112 [(1,.var a),(4,.s b),(5,.s c)] s
theorem QT:∀ c e d a,Q11 c e d a =
 condS d (
 some (.ret (iv 8),a)) (
 bn Q2 .eql e (iv 13) λf=>
 condS f (
 gC Q1 3 c λg=>
 bn Q1 .geq g (iv 6) λh=>
 condS h (
 some (.ret (iv 5),a)) (
 gC Q1 3 c λi=>
 bn Q1 .leq i (iv 2) λj=>
 condS j (
 some (.ret (iv 6),a)) (
 some (.ret (iv 7),a)))) (
 gC Q2 0 c λk=>
 bn Q2 .eql k (iv 3) λb=>
 iT b λw=>
 iT b λp=>
 gG p w Q8 4 c λl=>
 iT b λq=>
 gL q Q8 l λm=>
 iT b λr=>
 gB r Q1 .gtr m (iv 0) λn=>
 pk b n (bv false) λo=>
 condS o (
 some (.ret (iv 8),a)) (
 some (.ret (iv 9),a)))):=by intros;unfold Q11;exact (QM _).trans (by kernel_rfl)
theorem Qy:∀ c a g b,Q10 c a g b =
 condS g (
 some (.ret (iv 0),b)) (
 bn Q2 .eql a (iv 18) λh=>
 condS h (
 some (.ret (iv 1),b)) (
 bn Q2 .eql a (iv 11) λi=>
 condS i (
 some (.ret (iv 2),b)) (
 bn Q2 .eql a (iv 15) λj=>
 condS j (
 some (.ret (iv 3),b)) (
 bn Q2 .eql a (iv 14) λk=>
 condS k (
 some (.ret (iv 4),b)) (
 bn Q2 .eql a (iv 6) λd=>
 condS d (
 Q11 c a d b) (
 bn Q2 .eql a (iv 16) λe=>
 condS e (
 Q11 c a e b) (
 bn Q2 .eql a (iv 17) λf=>
 condS f (
 Q11 c a f b) (
 bn Q2 .eql a (iv 19) λl=>
 Q11 c a l b)))))))):=by intros;unfold Q10;exact (QM _).trans (by kernel_rfl)
theorem Qfk(c:AV)(s:St):cw (.f ZK) [c] s =
 bx Q6 (.val c) λb=>
 gC Q2 0 b λa=>
 bn Q2 .eql a (iv 12) λd=>
 condS d (
 Q10 b a d s) (
 bn Q2 .eql a (iv 5) λe=>
 condS e (
 Q10 b a e s) (
 bn Q2 .eql a (iv 8) λg=>
 condS g (
 Q10 b a g s) (
 bn Q2 .eql a (iv 9) λh=>
 Q10 b a h s))):=(Q3 _ _ _).trans (by kernel_rfl)
noncomputable def Q4C:List Slot->Slot->Slot->St->Res:=λa b c s=>pwD Q0h [.seqR,.seqL,.seqR,.block,.seqR,.els,.seqR] Tryz.f113 [(1,.var a),(4,.s b),(9,.s c)] s
noncomputable def Q2T:List Slot->Slot->Slot->St->Res:=λa b c s=>pwD Q0h [.seqR,.seqL,.seqR,.block,.seqR] Tryz.f113 [(1,.var a),(4,.s b),(5,.s c)] s
theorem Q1b:∀ c e f a,Q4C c e f a =
 condS f (
 gC Q8 4 c λi=>
 gC Q8 4 c λj=>
 ln Q8 j λk=>
 bn Q1 .sub k (iv 1) λl=>
 ix Q6 i l λm=>
 ld Q6 a m λn=>
 ca Q0h [n] a λo g=>
 some (.ret o,g)) (
 bn Q2 .eql e (iv 18) λp=>
 condS p (
 gC Q8 4 c λq=>
 ix Q6 q (iv 1) λr=>
 ld Q6 a r λt=>
 ca ZK [t] a λu d=>
 bn Q1 .gtr u (iv 0) λb=>
 iT b λw=>
 iT b λB=>
 gG B w Q8 4 c λv=>
 iT b λD=>
 bind1 (gd D (ixS (C.ti Q6).size v (iv 1))) λx=>
 iT b λE=>
 bind1 (gd E (ldV (C.ti Q6) false d x)) λy=>
 iT b λF=>
 cg F Q0h [y] d λz h=>
 pk b z (bv false) λA=>
 some (.ret A,h)) (
 some (.ret (bv false),a))):=by intros;unfold Q4C;exact (QM _).trans (by kernel_rfl)
theorem Zo:∀ c a e b,Q2T c a e b =
 condS e (
 some (.ret (bv true),b)) (
 bn Q2 .eql a (iv 12) λd=>
 condS d (
 Q4C c a d b) (
 bn Q2 .eql a (iv 8) λf=>
 Q4C c a f b)):=by intros;unfold Q2T;exact (QM _).trans (by kernel_rfl)
theorem QgU(c:AV)(s:St):cw (.f Q0h) [c] s =
 bx Q6 (.val c) λb=>
 gC Q2 0 b λa=>
 bn Q2 .eql a (iv 5) λd=>
 condS d (
 Q2T b a d s) (
 bn Q2 .eql a (iv 9) λe=>
 condS e (
 Q2T b a e s) (
 bn Q2 .eql a (iv 11) λg=>
 Q2T b a g s)):=(Q3 _ _ _).trans (by kernel_rfl)
theorem QjJ(a:AV)(s:St):cw (.f Q7L) [a] s =
 bs Q0 [(sv []),(sv [43]),(sv [45]),(sv [42]),(sv [100,105,118]),(sv [109,111,100]),(sv [61]),(sv [60,62]),(sv [60]),(sv [60,61])] λc=>
 ix Q0 c (.val a) λd=>
 ld Q0 s d λe=>
 bn Q0 .add (sv [32]) e λg=>
 bn Q0 .add g (sv [32]) λb=>
 some (.ret b,s):=(Q3 _ _ _).trans (by kernel_rfl)
theorem QbY(a:AV)(b:AV)(s:St):cw (.f Q4I) [a,b] s =
 bd QH [(0,Qw,(.val a))] λd=>
 ca Zn [d,(.val b)] s λe c=>
 rt [] c:=(Q3 _ _ _).trans (by kernel_rfl)
noncomputable def Q06:Slot->List Slot->Slot->Slot->St->Res:=λa b c d s=>lpD Zn [.seqR,.seqR,.seqL,.seqR,.block] Tryz.f116 [(1,.s a),(2,.var b),(20,.s c),(21,.s d)] s
theorem Q4r:∀ c d e b a,Q06 c d e b a =
 bn Q1 .lss b e λg=>
 condS g (
 gA QH d λh=>
 bind1 (nilCheckV c) λi=>
 fa 4 i λj=>
 ld Qv a j λk=>
 ix Ql k b λl=>
 cn Zn [h,l] a λm f=>
 nt m λn=>
 condS n (
 some (.ret (bv false),f)) (
 nx b λo=>
 Q06 c d e o f)) (
 some (.ret (bv true),a)):=by intros;unfold Q06;exact (Qd _ _ _ _ _ _).trans (by kernel_rfl)
theorem QaA(c:AV)(a:AV)(s:St):cw (.f Zn) [c,a] s =
 bx QH (.val c) λd=>
 gC Qw 0 d λp=>
 bind1 (nilCheckV (.val a)) λe=>
 fa 1 e λg=>
 ld Q1 s g λh=>
 bd Z7 [(5,Q34,(.val a)),(7,Q1,h)] λi=>
 back (noPan (cal cw true (tgtV p [i]) s)) λj b=>
 nt j λk=>
 condS k (
 some (.ret (bv false),b)) (
 bind1 (nilCheckV (.val a)) λl=>
 fa 4 l λm=>
 ld Qv b m λn=>
 ln Qv n λo=>
 Q06 (.val a) d o (iv 0) b):=(Q3 _ _ _).trans (by kernel_rfl)
theorem Qeg(a:AV)(b:AV)(s:St):cw (.f Q24) [a,b] s =
 fa 4 (.val b) λd=>
 ld Qv s d λe=>
 ix Ql e (.val a) λg=>
 ld Ql s g λh=>
 ca Q2A [h] s λi c=>
 some (.ret i,c):=(Q3 _ _ _).trans (by kernel_rfl)
theorem QbW(c:AV)(s:St):cw (.f Q4H) [c] s =
 bx Ql (.val c) λb=>
 gC Qi 0 b λi=>
 bn Qi .eql i (iv 6) λj=>
 condS j (
 some (.ret (iv 0),s)) (
 gC Qi 0 b λk=>
 bn Qi .eql k (iv 4) λa=>
 iT a λw=>
 iT a λl=>
 gG l w Qv 4 b λd=>
 iT a λm=>
 gL m Qv d λe=>
 iT a λn=>
 gB n Q1 .gtr e (iv 0) λg=>
 pk a g (bv false) λh=>
 condS h (
 some (.ret (iv 1),s)) (
 some (.ret (iv 2),s))):=(Q3 _ _ _).trans (by kernel_rfl)
theorem Qa7(a:AV)(b:AV)(s:St):cw (.f Q38) [a,b] s =
 ca ZN [(.val a),(.val b)] s λd c=>
 some (.ret d,c):=(Q3 _ _ _).trans (by kernel_rfl)
noncomputable def Q0C:Slot->Slot->Slot->St->Res:=λa b c s=>lpD Q5a [.seqR,.seqL,.seqR,.block] Tryz.f121 [(0,.s a),(1,.s b),(5,.s c)] s
theorem QcD:∀ c a d b,Q0C c a d b =
 nx a λp=>
 ln Q0 c λq=>
 bn Q1 .lss p q λh=>
 condS h (
 bn Q1 .add a (iv 2) λi=>
 bind1 (sliceS (C.ti Q0) 0 c (some a) (some i) none) λe=>
 bn Q0 .eql e (sv [40,42]) λk=>
 condS k (
 nx d λl=>
 bn Q1 .add a (iv 2) λm=>
 Q0C c m l b) (
 bn Q0 .eql e (sv [42,41]) λn=>
 condS n (
 bn Q1 .sub d (iv 1) λf=>
 bn Q1 .add a (iv 2) λg=>
 bn Q1 .eql f (iv 0) λo=>
 condS o (
 some (.ret g,b)) (
 Q0C c g f b)) (
 nx a λj=>
 Q0C c j d b))) (
 some (.ret (iv (-1)),b)):=by intros;unfold Q0C;exact (Qd _ _ _ _ _ _).trans (by kernel_rfl)
theorem QgC(a:AV)(b:AV)(s:St):cw (.f Q5a) [a,b] s =
 Q0C (.val a) (.val b) (iv 0) s:=(Q3 _ _ _).trans (by kernel_rfl)
noncomputable def Q5B:Slot->List Slot->St->Res:=λa b s=>pwD Q8y [.seqR,.seqR,.seqR] Tryz.f122 [(2,.s a),(4,.var b)] s
theorem QgB:∀ e b a,Q5B e b a =
 ld Q0 a e λj=>
 ca Q7J [j] a λd c=>
 bn Q0 .neq d (sv []) λk=>
 condS k (
 bd Q9 [(0,Z3,(iv 6)),(2,Q0,d)] λl=>
 bx Q9 l λh=>
 pt b 0 h λf=>
 rt [(ofSlots (C.ti Q9) (List.take (C.ti Q9).size f)),(some (iv 0))] c) (
 bd Q9 [] λm=>
 bx Q9 m λi=>
 pt b 0 i λg=>
 rt [(ofSlots (C.ti Q9) (List.take (C.ti Q9).size g)),(some (iv 11))] c):=by intros;unfold Q5B;exact (QM _).trans (by kernel_rfl)
theorem Ql7(j:AV)(k:AV)(s:St):cw (.f Q8y) [j,k] s =
 bx Q0 (.val j) λt=>
 bindA (avs t) λl2=>
 bind1 (fnS Q1K [(.val (.cp l2))]) λh=>
 ld Q0 s (.val (.cp l2)) λJ=>
 bind1 (indexS (C.ti Q0) (C.ti T_0) J (iv 0)) λi=>
 ca Q1J [i] s λL l=>
 condS L (
 back (cal cw true (tgtV h [(iv 0),(.val (.fn Q1J []))]) l) λp H=>
 ca Q59 [p,(.val k)] H λq n=>
 ex q 0 λM=>
 ex q 1 λN=>
 nt N λO=>
 condS O (
 bd Q9 [] λP=>
 bx Q9 P λc=>
 pZ Q9 c λu=>
 rt [(ofSlots (C.ti Q9) (List.take (C.ti Q9).size u)),(some (iv 13))] n) (
 bd Q9 [(0,Z3,(iv 1)),(2,Q0,p),(3,Q1,M)] λR=>
 bx Q9 R λB=>
 pZ Q9 B λv=>
 rt [(ofSlots (C.ti Q9) (List.take (C.ti Q9).size v)),(some (iv 0))] n)) (
 ca Q44 [i] l λU a=>
 condS U (
 back (cal cw true (tgtV h [(iv 0),(.val (.fn Q0L []))]) a) λb g=>
 bn Q0 .eql b (sv [95]) λV=>
 condS V (
 Q5B (.val (.cp l2)) ((List.map .val (C.ti Q9).zero)) g) (
 ln Q0 b λW=>
 bn Q1 .gtr W (iv 32) λY=>
 condS Y (
 bd Q9 [] λa2=>
 bx Q9 a2 λD=>
 pZ Q9 D λx=>
 rt [(ofSlots (C.ti Q9) (List.take (C.ti Q9).size x)),(some (iv 4))] g) (
 ca Q8V [b] g λa3 I=>
 bd Q9 [(0,Z3,a3),(2,Q0,b)] λa4=>
 bx Q9 a4 λE=>
 pZ Q9 E λy=>
 rt [(ofSlots (C.ti Q9) (List.take (C.ti Q9).size y)),(some (iv 0))] I))) (
 bn Qb .eql i (.val (.int .u8 39)) λd=>
 iT d λw=>
 bind1 (gd w (ldV (C.ti Q0) false a (.val (.cp l2)))) λa5=>
 iT d λb7=>
 gL b7 Q0 a5 λa6=>
 iT d λb8=>
 gB b8 Q1 .gtr a6 (iv 1) λa7=>
 pk d a7 (bv false) λe=>
 iT e λb9=>
 bind1 (gd b9 (ldV (C.ti Q0) false a (.val (.cp l2)))) λa8=>
 iT e λd0=>
 bind1 (gd d0 (indexS (C.ti Q0) (C.ti T_0) a8 (iv 1))) λa9=>
 iT e λd1=>
 cg d1 Q44 [a9] a λb0 o=>
 pk e b0 (bv false) λb1=>
 condS b1 (
 back (cal cw true (tgtV h [(iv 1),(.val (.fn Q0L []))]) o) λr m=>
 ln Q0 r λb2=>
 bn Q1 .sub b2 (iv 1) λb3=>
 bn Q1 .gtr b3 (iv 32) λb4=>
 condS b4 (
 bd Q9 [] λb5=>
 bx Q9 b5 λF=>
 pZ Q9 F λz=>
 rt [(ofSlots (C.ti Q9) (List.take (C.ti Q9).size z)),(some (iv 4))] m) (
 bd Q9 [(0,Z3,(iv 4)),(2,Q0,r)] λb6=>
 bx Q9 b6 λG=>
 pZ Q9 G λA=>
 rt [(ofSlots (C.ti Q9) (List.take (C.ti Q9).size A)),(some (iv 0))] m)) (
 Q5B (.val (.cp l2)) ((List.map .val (C.ti Q9).zero)) o))):=(Q3 _ _ _).trans (by kernel_rfl)
noncomputable def Z0:Slot->Slot->Slot->Slot->St->Res:=λa b c d s=>lpD Zh [.seqR,.seqL,.seqR,.block] Tryz.f123 [(0,.s a),(1,.s b),(7,.s c),(8,.s d)] s
theorem Zm:∀ c d e a b,Z0 c d e a b =
 bn Q1 .lss a e λk=>
 condS k (
 ix Qo c a λg=>
 ld Qo b g λh=>
 back (cal cw true (tgtV d [h]) b) λi f=>
 condS i (
 some (.ret a,f)) (
 nx a λj=>
 Z0 c d e j f)) (
 some (.ret (iv (-1)),b)):=by intros;unfold Z0;exact (Qd _ _ _ _ _ _).trans (by kernel_rfl)
theorem Q2W(a:AV)(b:AV)(s:St):cw (.f Zh) [a,b] s =
 ln Qn (.val a) λc=>
 Z0 (.val a) (.val b) c (iv 0) s:=(Q3 _ _ _).trans (by kernel_rfl)
noncomputable def Q0F:List Slot->Slot->Slot->Slot->St->Res:=λa b c d s=>pwD Q5j [.seqR,.seqR,.seqR,.seqR,.seqL,.seqR,.block,.seqR] Tryz.f124 [(1,.var a),(3,.s b),(38,.s c),(39,.s d)] s
theorem Qd5:∀ l b g n d,Q0F l b g n d =
 condS n (
 bn Q1 .eql b (iv 0) λp=>
 some (.ret p,d)) (
 bn Q0 .eql g (sv [114,101,102]) λq=>
 condS q (
 bn Q1 .eql b (iv 1) λr=>
 some (.ret r,d)) (
 bn Q0 .eql g (sv [45,62]) λt=>
 condS t (
 bn Q1 .eql b (iv 2) λu=>
 some (.ret u,d)) (
 bn Q0 .eql g (sv [42]) λv=>
 condS v (
 bn Q1 .geq b (iv 2) λi=>
 iT i λR=>
 iT i λU=>
 gB U Q1 .leq (gdV R b) (iv 8) λw=>
 pk i w (bv false) λx=>
 some (.ret x,d)) (
 gC Q0 2 l λy=>
 ca Q5d [y] d λm h=>
 ex m 0 λj=>
 ex m 1 λz=>
 bx Qa z λc=>
 pZ Qa c λo=>
 gC QB 0 o λA=>
 bn QB .eql A (iv 0) λf=>
 iT f λV=>
 iT f λW=>
 gL W Q0W (gdV V j) λB=>
 iT f λY=>
 gB Y Q1 .eql B (iv 1) λD=>
 pk f D (bv false) λe=>
 iT e λa0=>
 iT e λa1=>
 bind1 (gd a1 (ixS (C.ti Q9).size (gdV a0 j) (iv 0))) λE=>
 iT e λa2=>
 bind1 (gd a2 (faV 0 E)) λF=>
 iT e λa3=>
 bind1 (gd a3 (ldV (C.ti Z3) false h F)) λG=>
 iT e λa4=>
 gB a4 Z3 .eql G (iv 2) λH=>
 pk e H (bv false) λa=>
 iT a λa5=>
 iT a λa6=>
 bind1 (gd a6 (ixS (C.ti Q9).size (gdV a5 j) (iv 0))) λI=>
 iT a λa7=>
 bind1 (gd a7 (faV 2 I)) λJ=>
 iT a λa8=>
 bind1 (gd a8 (ldV (C.ti Q0) false h J)) λL=>
 iT a λa9=>
 iT a λb0=>
 gG b0 a9 Q0 2 l λM=>
 iT a λb1=>
 gB b1 Q0 .eql L M λN=>
 pk a N (bv false) λk=>
 iT k λb2=>
 iT k λb3=>
 gB b3 Q1 .leq (gdV b2 b) (iv 8) λO=>
 pk k O (bv false) λP=>
 some (.ret P,h))))):=by intros;unfold Q0F;exact (QM _).trans (by kernel_rfl)
theorem QgY(i:AV)(s:St):cw (.f Q5j) [i] s =
 bx Qo (.val i) λa=>
 gC Qn 3 a λD=>
 ln Qn D λc=>
 gC Qt 0 a λm=>
 bn Qt .eql m (iv 1) λn=>
 condS n (
 gC Q1 1 a λo=>
 bn Q1 .geq o (iv 0) λd=>
 iT d λw=>
 iT d λE=>
 gG E w Q1 1 a λp=>
 iT d λG=>
 gB G Q1 .leq p (iv 1000) λq=>
 pk d q (bv false) λe=>
 iT e λH=>
 iT e λI=>
 gG I H Q0 2 a λr=>
 iT e λJ=>
 gB J Q0 .eql r (sv []) λt=>
 pk e t (bv false) λh=>
 iT h λL=>
 iT h λM=>
 gB M Q1 .eql (gdV L c) (iv 0) λu=>
 pk h u (bv false) λv=>
 some (.ret v,s)) (
 gC Qt 0 a λx=>
 bn Qt .neq x (iv 2) λg=>
 iF g λN=>
 iF g λO=>
 gG O N Q1 1 a λy=>
 iF g λF=>
 gB F Q1 .neq y (iv 0) λz=>
 pk g (bv true) z λA=>
 condS A (
 some (.ret (bv false),s)) (
 gC Q0 2 a λb=>
 bn Q0 .eql b (sv [105,110,116]) λj=>
 condS j (
 Q0F a c b j s) (
 bn Q0 .eql b (sv [98,111,111,108]) λk=>
 condS k (
 Q0F a c b k s) (
 bn Q0 .eql b (sv [117,110,105,116]) λl=>
 condS l (
 Q0F a c b l s) (
 bn Q0 .eql b (sv [101,120,110]) λB=>
 Q0F a c b B s))))):=(Q3 _ _ _).trans (by kernel_rfl)
theorem Qd7(d:AV)(s:St):cw (.f Q5k) [d] s =
 bx Qo (.val d) λa=>
 gC Qt 0 a λk=>
 bn Qt .eql k (iv 2) λc=>
 iT c λw=>
 iT c λn=>
 gG n w Q0 2 a λl=>
 iT c λo=>
 gB o Q0 .eql l (sv [45,62]) λm=>
 pk c m (bv false) λe=>
 condS e (
 some (.ret (iv 0),s)) (
 gC Qt 0 a λg=>
 bn Qt .eql g (iv 2) λb=>
 iT b λp=>
 iT b λq=>
 gG q p Q0 2 a λh=>
 iT b λr=>
 gB r Q0 .eql h (sv [42]) λi=>
 pk b i (bv false) λj=>
 condS j (
 some (.ret (iv 1),s)) (
 some (.ret (iv 2),s))):=(Q3 _ _ _).trans (by kernel_rfl)
noncomputable def Q04:Slot->Slot->List Slot->Slot->Slot->Slot->Slot->Slot->St->Res:=λc d e h a b f g s=>lpD ZQ [.seqR,.seqL,.seqR,.block,.loop,.seqR,.seqR,.seqL,.block,.seqR,.seqR,.seqR,.seqR,.seqR,.block] Tryz.f127 [(1,.s c),(2,.s d),(3,.var e),(8,.s h),(14,.s a),(15,.s b),(80,.s f),(81,.s g)] s
noncomputable def Q03:Slot->Slot->List Slot->Slot->Slot->Slot->Slot->Slot->St->Res:=λc d e h a b f g s=>lpD ZQ [.seqR,.seqL,.seqR,.block,.loop,.seqR,.seqR,.seqL,.block,.seqR,.seqR,.seqR,.seqL,.seqR,.block] Tryz.f127 [(1,.s c),(2,.s d),(3,.var e),(8,.s h),(14,.s a),(15,.s b),(45,.s f),(46,.s g)] s
noncomputable def Ze:Slot->Slot->List Slot->Slot->Slot->St->Res:=λa d e b c s=>lpD ZQ [.seqR,.seqL,.seqR,.block] Tryz.f127 [(1,.s a),(2,.s d),(3,.var e),(14,.s b),(15,.s c)] s
theorem Q4p:∀ k l f n i j m g d,Q04 k l f n i j m g d =
 bn Q1 .lss g m λF=>
 condS F (
 bind1 (nilCheckV n) λG=>
 fa 4 G λH=>
 ld QC d H λI=>
 ix Z6 I g λe=>
 gC Qw 0 f λJ=>
 bind1 (nilCheckV e) λL=>
 fa 1 L λM=>
 ld Q1 d M λN=>
 bd Z7 [(3,Q1o,e),(7,Q1,N)] λO=>
 back (noPan (cal cw true (tgtV J [O]) d)) λP h=>
 nt P λc=>
 iF c λR=>
 iF c λU=>
 bind1 (gd U (nilCheckV (gdV R e))) λp=>
 iF c λV=>
 bind1 (gd V (faV 2 p)) λq=>
 iF c λW=>
 bind1 (gd W (ldV (C.ti QD) false h q)) λa=>
 iF c λb=>
 bindB (Slot.isB (gdV b a) true) λY=>
 bind1 (gd Y (ofSlots (C.ti QH) (List.take (C.ti QH).size f))) λr=>
 bindB (Slot.isB (gdV b a) true) λa0=>
 bindB (Slot.isB (gdV b a) true) λa1=>
 bind1 (gd a1 (nilCheckV (gdV a0 e))) λt=>
 bindB (Slot.isB (gdV b a) true) λa2=>
 bind1 (gd a2 (faV 3 t)) λu=>
 bindB (Slot.isB (gdV b a) true) λa3=>
 bindB (Slot.isB (gdV b a) true) λa4=>
 bind1 (gd a4 (nilCheckV (gdV a3 e))) λv=>
 bindB (Slot.isB (gdV b a) true) λa5=>
 bind1 (gd a5 (faV 1 v)) λw=>
 bindB (Slot.isB (gdV b a) true) λa6=>
 bind1 (gd a6 (ldV (C.ti Q1) false h w)) λx=>
 bindB (Slot.isB (gdV b a) true) λa7=>
 back (noPan (cal cw a7 (tgtV (.val (.fn ZD [])) [r,u,x]) h)) λy o=>
 bindB (Slot.isB (gdV b a) true) λa8=>
 gN a8 y λz=>
 iF c λa9=>
 bind1 (gd a9 (pickS (gdV b a) z (bv false))) λA=>
 pk c (bv true) A λB=>
 condS B (
 some (.ret (bv false),o)) (
 nx g λD=>
 Q04 k l f n i j m D o)) (
 nx j λE=>
 Ze k l f i E d):=by intros;unfold Q04;exact (Qd _ _ _ _ _ _).trans (by kernel_rfl)
theorem Q4o:∀ i j c d g h k e b,Q03 i j c d g h k e b =
 bn Q1 .lss e k λn=>
 condS n (
 bind1 (nilCheckV d) λo=>
 fa 6 o λp=>
 ld QE b p λq=>
 ix Zi q e λf=>
 gC Qw 0 c λr=>
 bind1 (nilCheckV f) λt=>
 fa 1 t λu=>
 ld Q1 b u λv=>
 bd Z7 [(2,Q26,f),(7,Q1,v)] λw=>
 back (noPan (cal cw true (tgtV r [w]) b)) λx l=>
 nt x λa=>
 iF a λV=>
 bind1 (gd V (ofSlots (C.ti QH) (List.take (C.ti QH).size c))) λy=>
 iF a λW=>
 iF a λY=>
 bind1 (gd Y (nilCheckV (gdV W f))) λz=>
 iF a λN=>
 bind1 (gd N (faV 2 z)) λA=>
 iF a λO=>
 bind1 (gd O (ldV (C.ti QF) false l A)) λB=>
 iF a λP=>
 bind1 (gd P (bslF (C.ti QF).size [B])) λD=>
 iF a λR=>
 back (noPan (cal cw R (tgtV (.val (.fn ZC [])) [y,D]) l)) λE m=>
 iF a λU=>
 gN U E λF=>
 pk a (bv true) F λG=>
 condS G (
 some (.ret (bv false),m)) (
 nx e λH=>
 Q03 i j c d g h k H m)) (
 bind1 (nilCheckV d) λI=>
 fa 4 I λJ=>
 ld QC b J λL=>
 ln QC L λM=>
 Q04 i j c d g h M (iv 0) b):=by intros;unfold Q03;exact (Qd _ _ _ _ _ _).trans (by kernel_rfl)
theorem Q4n:∀ g i e h d c,Ze g i e h d c =
 bn Q1 .lss d h λk=>
 condS k (
 ix QL g d λb=>
 gC Qw 0 e λl=>
 bind1 (nilCheckV b) λm=>
 fa 1 m λn=>
 ld Q1 c n λo=>
 bd Z7 [(0,Q32,b),(1,QD,i),(7,Q1,o)] λp=>
 back (noPan (cal cw true (tgtV l [p]) c)) λq j=>
 nt q λa=>
 iF a λw=>
 bind1 (gd w (ofSlots (C.ti QH) (List.take (C.ti QH).size e))) λr=>
 iF a λF=>
 iF a λG=>
 bind1 (gd G (nilCheckV (gdV F b))) λt=>
 iF a λH=>
 bind1 (gd H (faV 5 t)) λu=>
 iF a λI=>
 bind1 (gd I (ldV (C.ti Qf) false j u)) λv=>
 iF a λJ=>
 back (noPan (cal cw J (tgtV (.val (.fn ZC [])) [r,v]) j)) λx f=>
 iF a λL=>
 gN L x λy=>
 pk a (bv true) y λz=>
 condS z (
 some (.ret (bv false),f)) (
 bind1 (nilCheckV b) λA=>
 fa 6 A λB=>
 ld QE f B λD=>
 ln QE D λE=>
 Q03 g i e b h d E (iv 0) f)) (
 some (.ret (bv true),c)):=by intros;unfold Ze;exact (Qd _ _ _ _ _ _).trans (by kernel_rfl)
theorem Q6a(b:AV)(a:AV)(c:AV)(s:St):cw (.f ZQ) [b,a,c] s =
 bx QH (.val b) λd=>
 ln QG (.val a) λe=>
 Ze (.val a) (.val c) d e (iv 0) s:=(Q3 _ _ _).trans (by kernel_rfl)
noncomputable def Q2v:Slot->Slot->Slot->Slot->St->Res:=λa b c d s=>lpD Q1n [.seqR,.seqR,.seqL,.seqR,.block] Tryz.f128 [(3,.s a),(7,.s b),(8,.s c),(9,.s d)] s
theorem Q7D:∀ d e f b a,Q2v d e f b a =
 bn Q1 .lss b f λi=>
 condS i (
 ix Qo e b λj=>
 ld Qo a j λk=>
 bx Qo k λc=>
 pZ Qo c λg=>
 gA Qo g λl=>
 ca Q1n [l] a λm h=>
 bind1 (max2 d m) λn=>
 nx b λo=>
 Q2v n e f o h) (
 nx d λp=>
 some (.ret p,a)):=by intros;unfold Q2v;exact (Qd _ _ _ _ _ _).trans (by kernel_rfl)
theorem Qfz(a:AV)(s:St):cw (.f Q1n) [a] s =
 bx Qo (.val a) λc=>
 gC Qn 3 c λb=>
 ln Qn b λd=>
 Q2v (iv 0) b d (iv 0) s:=(Q3 _ _ _).trans (by kernel_rfl)
noncomputable def Q1z:List Slot->Slot->Slot->St->Res:=λa b c s=>lpD Q0T [.seqR,.seqR,.seqL,.seqR,.block] Tryz.f130 [(1,.var a),(3,.s b),(4,.s c)] s
theorem Q6U:∀ b d c a,Q1z b d c a =
 gC Qn 3 b λm=>
 ln Qn m λn=>
 bn Q1 .lss c n λo=>
 condS o (
 gC Qn 3 b λg=>
 ix Qo g c λh=>
 ld Qo a h λi=>
 ca Q0T [i] a λj e=>
 bind1 (max2 d j) λk=>
 nx c λf=>
 Q1z b k f e) (
 nx d λl=>
 some (.ret l,a)):=by intros;unfold Q1z;exact (Qd _ _ _ _ _ _).trans (by kernel_rfl)
theorem QdS(a:AV)(s:St):cw (.f Q0T) [a] s =
 bx Qo (.val a) λb=>
 Q1z b (iv 0) (iv 0) s:=(Q3 _ _ _).trans (by kernel_rfl)
theorem QiE(b:AV)(s:St):cw (.f Q6z) [b] s =
 bx Z6 (.val b) λa=>
 gC QD 2 a λh=>
 condS h (
 gC Q0 0 a λi=>
 bn Q0 .add i (sv [32,111,102,32]) λj=>
 gC Qo 3 a λk=>
 cn Zu [k] s λd c=>
 bn Q0 .add j d λe=>
 some (.ret e,c)) (
 gC Q0 0 a λg=>
 some (.ret g,s)):=(Q3 _ _ _).trans (by kernel_rfl)
noncomputable def Q0w:Slot->Slot->Slot->Slot->St->Res:=λa b c d s=>lpD Q3J [.seqR,.seqR,.seqR,.seqL,.seqR,.block] Tryz.f132 [(0,.s a),(3,.s b),(7,.s c),(8,.s d)] s
theorem Q6Y:∀ c d e a b,Q0w c d e a b =
 bn Q1 .lss a e λw=>
 condS w (
 bn Q1 .gtr a (iv 0) λi=>
 condS i (
 bn Q0 .add d (sv [44,32]) λj=>
 bn Q0 .add j (sv [39]) λk=>
 ca Q46 [a] b λm f=>
 bn Q0 .add k m λo=>
 nx a λq=>
 Q0w c o e q f) (
 bn Q0 .add d (sv [39]) λl=>
 ca Q46 [a] b λn g=>
 bn Q0 .add l n λp=>
 nx a λr=>
 Q0w c p e r g)) (
 bn Q1 .gtr c (iv 1) λt=>
 ca Zc [d,t] b λu h=>
 bn Q0 .add u (sv [32]) λv=>
 some (.ret v,h)):=by intros;unfold Q0w;exact (Qd _ _ _ _ _ _).trans (by kernel_rfl)
theorem Qe5(a:AV)(s:St):cw (.f Q3J) [a] s =
 bn Q1 .eql (.val a) (iv 0) λb=>
 condS b (
 some (.ret (sv []),s)) (
 Q0w (.val a) (sv []) (.val a) (iv 0) s):=(Q3 _ _ _).trans (by kernel_rfl)
theorem Qbq(b:AV)(s:St):cw (.f Q40) [b] s =
 bx Z7 (.val b) λc=>
 gC Q26 2 c λe=>
 bn Q26 .eql e (.val (.nilp)) λa=>
 iT a λw=>
 iT a λi=>
 gG i w Q1o 3 c λg=>
 iT a λj=>
 gB j Q1o .eql g (.val (.nilp)) λh=>
 pk a h (bv false) λd=>
 some (.ret d,s):=(Q3 _ _ _).trans (by kernel_rfl)
noncomputable def Z5:List Slot->Slot->Slot->Slot->Slot->St->Res:=λa b c d e s=>pwD Q0s [.seqR,.seqR,.seqR,.seqR,.seqR] Tryz.f134 [(1,.var a),(3,.s b),(5,.s c),(7,.s d),(8,.s e)] s
theorem Q7T:∀ m b n o p a,Z5 m b n o p a =
 nt p λd=>
 iF d λf6=>
 iF d λd1=>
 gG d1 f6 QD 1 m λh=>
 iF d λi=>
 bindB (Slot.isB (gdV i h) true) λd2=>
 bindB (Slot.isB (gdV i h) true) λd3=>
 bind1 (gd d3 (nilCheckV (gdV d2 b))) λb8=>
 bindB (Slot.isB (gdV i h) true) λd4=>
 bind1 (gd d4 (faV 0 b8)) λb9=>
 bindB (Slot.isB (gdV i h) true) λd5=>
 bind1 (gd d5 (ldV (C.ti Qx) false a b9)) λd0=>
 bindB (Slot.isB (gdV i h) true) λd6=>
 gB d6 Qx .neq d0 (iv 1) λq=>
 iF d λd7=>
 bind1 (gd d7 (pickS (gdV i h) q (bv false))) λf=>
 iF d λj=>
 bindB (Slot.isB (gdV j f) true) λd8=>
 bindB (Slot.isB (gdV j f) true) λd9=>
 bind1 (gd d9 (nilCheckV (gdV d8 b))) λr=>
 bindB (Slot.isB (gdV j f) true) λe0=>
 bind1 (gd e0 (faV 0 r)) λt=>
 bindB (Slot.isB (gdV j f) true) λe1=>
 bind1 (gd e1 (ldV (C.ti Qx) false a t)) λu=>
 bindB (Slot.isB (gdV j f) true) λe2=>
 gB e2 Qx .neq u (iv 2) λv=>
 iF d λe3=>
 bind1 (gd e3 (pickS (gdV j f) v (bv false))) λw=>
 pk d (bv true) w λx=>
 condS x (
 some (.ret (iv 29),a)) (
 bind1 (nilCheckV b) λy=>
 fa 0 y λz=>
 ld Qx a z λk=>
 bn Qx .eql k (iv 1) λA=>
 condS A (
 bind1 (nilCheckV b) λB=>
 fa 5 B λD=>
 ld Qf a D λE=>
 ln Qf E λF=>
 bn Q1 .eql F (iv 1) λG=>
 nt G λb3=>
 condS b3 (
 some (.ret (iv 19),a)) (
 some (.ret (iv 0),a))) (
 bn Qx .eql k (iv 2) λH=>
 condS H (
 nt n λb4=>
 condS b4 (
 some (.ret (iv 19),a)) (
 some (.ret (iv 0),a))) (
 bn Qx .eql k (iv 3) λI=>
 condS I (
 bind1 (nilCheckV b) λJ=>
 fa 2 J λL=>
 ld Q0 a L λM=>
 ca Q2B [M] a λN e=>
 nt N λO=>
 condS O (
 some (.ret (iv 8),e)) (
 bind1 (nilCheckV b) λP=>
 fa 3 P λR=>
 ld Q1 e R λU=>
 bn Q1 .geq U (iv 0) λg=>
 iT g λe4=>
 iT g λe5=>
 bind1 (gd e5 (nilCheckV (gdV e4 b))) λV=>
 iT g λe6=>
 bind1 (gd e6 (faV 3 V)) λW=>
 iT g λe7=>
 bind1 (gd e7 (ldV (C.ti Q1) false e W)) λY=>
 iT g λe8=>
 gB e8 Q1 .leq Y (iv 8) λa0=>
 pk g a0 (bv false) λl=>
 iT l λe9=>
 pk l (gdV e9 o) (bv false) λc=>
 iT c λf0=>
 iT c λf1=>
 bind1 (gd f1 (nilCheckV (gdV f0 b))) λa1=>
 iT c λf2=>
 bind1 (gd f2 (faV 4 a1)) λa2=>
 iT c λf3=>
 bind1 (gd f3 (ldV (C.ti QC) false e a2)) λa3=>
 iT c λf4=>
 gL f4 QC a3 λa4=>
 iT c λf5=>
 gB f5 Q1 .leq a4 (iv 64) λa5=>
 pk c a5 (bv false) λa6=>
 nt a6 λb5=>
 condS b5 (
 some (.ret (iv 19),e)) (
 some (.ret (iv 0),e)))) (
 bn Qx .eql k (iv 4) λa7=>
 condS a7 (
 bind1 (nilCheckV b) λa8=>
 fa 4 a8 λa9=>
 ld QC a a9 λb0=>
 ln QC b0 λb1=>
 bn Q1 .eql b1 (iv 1) λb2=>
 nt b2 λb6=>
 condS b6 (
 some (.ret (iv 19),a)) (
 some (.ret (iv 0),a))) (
 bind1 (unS .not (bv true)) λb7=>
 condS b7 (
 some (.ret (iv 19),a)) (
 some (.ret (iv 0),a))))))):=by intros;unfold Z5;exact (QM _).trans (by kernel_rfl)
theorem Q9a(q:AV)(s:St):cw (.f Q0s) [q] s =
 bx Z7 (.val q) λd=>
 gC Q32 0 d λa=>
 bind1 (nilCheckV a) λr=>
 fa 5 r λt=>
 ld Qf s t λu=>
 ln Qf u λv=>
 bn Q1 .gtr v (iv 0) λh=>
 bind1 (nilCheckV a) λx=>
 fa 6 x λy=>
 ld QE s y λz=>
 ln QE z λA=>
 bn Q1 .gtr A (iv 0) λb=>
 bind1 (nilCheckV a) λB=>
 fa 2 B λD=>
 ld Q0 s D λE=>
 bn Q0 .neq E (sv []) λe=>
 iF e λw=>
 iF e λb1=>
 bind1 (gd b1 (nilCheckV (gdV w a))) λF=>
 iF e λb2=>
 bind1 (gd b2 (faV 3 F)) λG=>
 iF e λb3=>
 bind1 (gd b3 (ldV (C.ti Q1) false s G)) λH=>
 iF e λb7=>
 gB b7 Q1 .neq H (iv 0) λI=>
 pk e (bv true) I λi=>
 bind1 (nilCheckV a) λJ=>
 fa 4 J λL=>
 ld QC s L λM=>
 ln QC M λN=>
 bn Q1 .gtr N (iv 0) λc=>
 bind1 (nilCheckV a) λO=>
 fa 0 O λP=>
 ld Qx s P λg=>
 bn Qx .eql g (iv 1) λR=>
 condS R (
 nt b λj=>
 iT j λd5=>
 iT j λd6=>
 bind1 (gd d6 (unS .not (gdV d5 i))) λU=>
 pk j U (bv false) λk=>
 iT k λd7=>
 iT k λd8=>
 bind1 (gd d8 (unS .not (gdV d7 c))) λV=>
 pk k V (bv false) λW=>
 Z5 d a b c W s) (
 bn Qx .eql g (iv 2) λY=>
 condS Y (
 nt h λl=>
 iT l λb4=>
 iT l λb5=>
 bind1 (gd b5 (unS .not (gdV b4 i))) λa1=>
 pk l a1 (bv false) λm=>
 iT m λb6=>
 iT m λb8=>
 bind1 (gd b8 (unS .not (gdV b6 c))) λa2=>
 pk m a2 (bv false) λa3=>
 Z5 d a b c a3 s) (
 bn Qx .eql g (iv 3) λa4=>
 condS a4 (
 nt h λn=>
 iT n λb9=>
 iT n λd0=>
 bind1 (gd d0 (unS .not (gdV b9 b))) λa5=>
 pk n a5 (bv false) λa6=>
 Z5 d a b c a6 s) (
 bn Qx .eql g (iv 4) λa7=>
 condS a7 (
 nt h λo=>
 iT o λd1=>
 iT o λd2=>
 bind1 (gd d2 (unS .not (gdV d1 b))) λa8=>
 pk o a8 (bv false) λp=>
 iT p λd3=>
 iT p λd4=>
 bind1 (gd d4 (unS .not (gdV d3 i))) λa9=>
 pk p a9 (bv false) λb0=>
 Z5 d a b c b0 s) (
 Z5 d a b c (bv false) s)))):=(Q3 _ _ _).trans (by kernel_rfl)
theorem QjV(b:AV)(s:St):cw (.f Q2B) [b] s =
 bn Q0 .neq (.val b) (sv []) λc=>
 iT c λw=>
 iT c λq=>
 bind1 (gd q (indexS (C.ti Q0) (C.ti T_0) (gdV w (.val b)) (iv 0))) λo=>
 iT c λr=>
 cg r Q5v [o] s λp e=>
 pk c p (bv false) λd=>
 iT d λt=>
 iT d λu=>
 cg u Q5u [(gdV t (.val b))] e λi g=>
 pk d i (bv false) λa=>
 iT a λv=>
 iT a λx=>
 gB x Q0 .add (sv [32]) (gdV v (.val b)) λj=>
 iT a λy=>
 gB y Q0 .add j (sv [32]) λk=>
 iT a λz=>
 cg z Q3p [(.val (.str Qdm)),k] g λl h=>
 iT a λA=>
 gN A l λm=>
 pk a m (bv false) λn=>
 some (.ret n,h):=(Q3 _ _ _).trans (by kernel_rfl)
theorem Qdg(l:AV)(s:St):cw (.f Q5w) [l] s =
 bx Z6 (.val l) λk=>
 gC Qo 3 k λD=>
 bx Qo D λc=>
 pZ Qo c λe=>
 gC QD 2 k λE=>
 nt E λa=>
 iT a λw=>
 iT a λF=>
 gG F w Qt 0 e λn=>
 iT a λP=>
 gB P Qt .neq n (iv 0) λg=>
 iT a λi=>
 bindB (Slot.isB (gdV i g) false) λR=>
 bindB (Slot.isB (gdV i g) false) λU=>
 gG U R Q1 1 e λo=>
 bindB (Slot.isB (gdV i g) false) λV=>
 gB V Q1 .neq o (iv 0) λp=>
 iT a λW=>
 bind1 (gd W (pickS (gdV i g) (bv true) p)) λh=>
 iT a λj=>
 bindB (Slot.isB (gdV j h) false) λY=>
 bindB (Slot.isB (gdV j h) false) λG=>
 gG G Y Q0 2 e λq=>
 bindB (Slot.isB (gdV j h) false) λH=>
 gB H Q0 .neq q (sv []) λr=>
 iT a λI=>
 bind1 (gd I (pickS (gdV j h) (bv true) r)) λb=>
 iT a λd=>
 bindB (Slot.isB (gdV d b) false) λJ=>
 bindB (Slot.isB (gdV d b) false) λL=>
 gG L J Qn 3 e λt=>
 bindB (Slot.isB (gdV d b) false) λM=>
 gL M Qn t λu=>
 bindB (Slot.isB (gdV d b) false) λN=>
 gB N Q1 .gtr u (iv 0) λv=>
 iT a λO=>
 bind1 (gd O (pickS (gdV d b) (bv true) v)) λx=>
 pk a x (bv false) λy=>
 condS y (
 some (.ret (iv 29),s)) (
 gC Q0 0 k λz=>
 ca Q3L [z] s λA m=>
 nt A λB=>
 condS B (
 some (.ret (iv 8),m)) (
 some (.ret (iv 0),m))):=(Q3 _ _ _).trans (by kernel_rfl)
theorem Qdh(P:AV)(s:St):cw (.f Q5x) [P] s =
 bindL (boxCells (C.ti Q6) (.val P)) λa=>
 bind1 (ofSlots (C.ti Q2) (List.take (C.ti Q2).size (List.drop 0 a))) λf9=>
 back (cal cw true (tgtV (.val (.fn Q2L [])) [f9]) s) λV R=>
 bind1 (extractS V 0) λg9=>
 bind1 (extractS V 1) λY=>
 bindL (boxCells (C.ti Q7) g9) λc=>
 bindL (putAt (List.map .val (C.ti Q7).zero) 0 c) λb=>
 bind1 (unS .not Y) λg=>
 bindB (Slot.isB g false) λw=>
 bindB (Slot.isB g false) λh4=>
 bind1 (gd h4 (bif w then (ofSlots (C.ti QD) (List.take (C.ti QD).size (List.drop 0 b))) else none)) λd4=>
 bindB (Slot.isB g false) λi3=>
 bind1 (gd i3 (unS .not d4)) λI=>
 bindB (Slot.isB g false) λM=>
 bindB (Slot.isB (gdV M I) true) λk2=>
 bindB (Slot.isB (gdV M I) true) λl3=>
 bind1 (gd l3 (bif k2 then (ofSlots (C.ti Q0) (List.take (C.ti Q0).size (List.drop 2 a))) else none)) λd5=>
 bindB (Slot.isB (gdV M I) true) λm3=>
 bind1 (gd m3 (binS (C.ti Q0) .neq d5 (.val (.str [])))) λd6=>
 bindB (Slot.isB g false) λn2=>
 bind1 (gd n2 (pickS (gdV M I) d6 (.val (.bool false)))) λd7=>
 bind1 (pickS g (.val (.bool true)) d7) λh=>
 bindB (Slot.isB h false) λo3=>
 bindB (Slot.isB h false) λp2=>
 bind1 (gd p2 (bif o3 then (ofSlots (C.ti QD) (List.take (C.ti QD).size (List.drop 1 b))) else none)) λd8=>
 bindB (Slot.isB h false) λh5=>
 bind1 (gd h5 (unS .not d8)) λJ=>
 bindB (Slot.isB h false) λL=>
 bindB (Slot.isB (gdV L J) true) λh6=>
 bindB (Slot.isB (gdV L J) true) λh7=>
 bind1 (gd h7 (bif h6 then (ofSlots (C.ti Q1) (List.take (C.ti Q1).size (List.drop 3 a))) else none)) λd9=>
 bindB (Slot.isB (gdV L J) true) λh8=>
 bind1 (gd h8 (binS (C.ti Q1) .neq d9 (.val (.int .i64 0)))) λe0=>
 bindB (Slot.isB h false) λh9=>
 bind1 (gd h9 (pickS (gdV L J) e0 (.val (.bool false)))) λe1=>
 bind1 (pickS h (.val (.bool true)) e1) λi=>
 bindB (Slot.isB i false) λi0=>
 bindB (Slot.isB i false) λi1=>
 bind1 (gd i1 (bif i0 then (ofSlots (C.ti QD) (List.take (C.ti QD).size (List.drop 2 b))) else none)) λe2=>
 bindB (Slot.isB i false) λi2=>
 bind1 (gd i2 (unS .not e2)) λt=>
 bindB (Slot.isB i false) λA=>
 bindB (Slot.isB (gdV A t) true) λi4=>
 bindB (Slot.isB (gdV A t) true) λi5=>
 bind1 (gd i5 (bif i4 then (ofSlots (C.ti Qf) (List.take (C.ti Qf).size (List.drop 5 a))) else none)) λe3=>
 bindB (Slot.isB (gdV A t) true) λi6=>
 bind1 (gd i6 (lenS (C.ti Qf) e3)) λe4=>
 bindB (Slot.isB (gdV A t) true) λi7=>
 bind1 (gd i7 (binS (C.ti Q1) .gtr e4 (.val (.int .i64 0)))) λe5=>
 bindB (Slot.isB i false) λi8=>
 bind1 (gd i8 (pickS (gdV A t) e5 (.val (.bool false)))) λe6=>
 bind1 (pickS i (.val (.bool true)) e6) λj=>
 bindB (Slot.isB j false) λi9=>
 bindB (Slot.isB j false) λj0=>
 bind1 (gd j0 (bif i9 then (ofSlots (C.ti QD) (List.take (C.ti QD).size (List.drop 3 b))) else none)) λe7=>
 bindB (Slot.isB j false) λj1=>
 bind1 (gd j1 (unS .not e7)) λu=>
 bindB (Slot.isB j false) λB=>
 bindB (Slot.isB (gdV B u) true) λj2=>
 bindB (Slot.isB (gdV B u) true) λj3=>
 bind1 (gd j3 (bif j2 then (ofSlots (C.ti QG) (List.take (C.ti QG).size (List.drop 6 a))) else none)) λe8=>
 bindB (Slot.isB (gdV B u) true) λj4=>
 bind1 (gd j4 (lenS (C.ti QG) e8)) λe9=>
 bindB (Slot.isB (gdV B u) true) λj5=>
 bind1 (gd j5 (binS (C.ti Q1) .gtr e9 (.val (.int .i64 0)))) λf0=>
 bindB (Slot.isB j false) λj6=>
 bind1 (gd j6 (pickS (gdV B u) f0 (.val (.bool false)))) λf1=>
 bind1 (pickS j (.val (.bool true)) f1) λk=>
 bindB (Slot.isB k false) λj7=>
 bindB (Slot.isB k false) λj8=>
 bind1 (gd j8 (bif j7 then (ofSlots (C.ti Q1) (List.take (C.ti Q1).size (List.drop 5 b))) else none)) λf2=>
 bindB (Slot.isB k false) λj9=>
 bind1 (gd j9 (binS (C.ti Q1) .eql f2 (.val (.int .i64 0)))) λv=>
 bindB (Slot.isB k false) λD=>
 bindB (Slot.isB (gdV D v) true) λk0=>
 bindB (Slot.isB (gdV D v) true) λk1=>
 bind1 (gd k1 (bif k0 then (ofSlots (C.ti Q8) (List.take (C.ti Q8).size (List.drop 4 a))) else none)) λf3=>
 bindB (Slot.isB (gdV D v) true) λk3=>
 bind1 (gd k3 (lenS (C.ti Q8) f3)) λf4=>
 bindB (Slot.isB (gdV D v) true) λk4=>
 bind1 (gd k4 (binS (C.ti Q1) .gtr f4 (.val (.int .i64 0)))) λf5=>
 bindB (Slot.isB k false) λk5=>
 bind1 (gd k5 (pickS (gdV D v) f5 (.val (.bool false)))) λf6=>
 bind1 (pickS k (.val (.bool true)) f6) λf7=>
 condS f7 (
 some (.ret (.val (.int .i64 29)),R)) (
 bind1 (ofSlots (C.ti Q2) (List.take (C.ti Q2).size (List.drop 0 a))) λf8=>
 bind1 (binS (C.ti Q2) .eql f8 (.val (.int .i64 2))) λx=>
 bindB (Slot.isB x true) λk6=>
 bindB (Slot.isB x true) λk7=>
 bind1 (gd k7 (bif k6 then (ofSlots (C.ti Q0) (List.take (C.ti Q0).size (List.drop 2 a))) else none)) λg0=>
 bindB (Slot.isB x true) λk8=>
 back (cal cw k8 (tgtV (.val (.fn Q2B [])) [g0]) R) λg1 W=>
 bindB (Slot.isB x true) λk9=>
 bind1 (gd k9 (unS .not g1)) λg2=>
 bind1 (pickS x g2 (.val (.bool false))) λl=>
 bindB (Slot.isB l false) λl0=>
 bindB (Slot.isB l false) λl1=>
 bind1 (gd l1 (bif l0 then (ofSlots (C.ti Q2) (List.take (C.ti Q2).size (List.drop 0 a))) else none)) λg3=>
 bindB (Slot.isB l false) λl2=>
 bind1 (gd l2 (binS (C.ti Q2) .eql g3 (.val (.int .i64 3)))) λy=>
 bindB (Slot.isB l false) λE=>
 bindB (Slot.isB (gdV E y) true) λl4=>
 bindB (Slot.isB (gdV E y) true) λl5=>
 bind1 (gd l5 (bif l4 then (ofSlots (C.ti Q0) (List.take (C.ti Q0).size (List.drop 2 a))) else none)) λg4=>
 bindB (Slot.isB (gdV E y) true) λl6=>
 back (cal cw l6 (tgtV (.val (.fn Q1u [])) [g4]) W) λg5 U=>
 bindB (Slot.isB (gdV E y) true) λl7=>
 bind1 (gd l7 (unS .not g5)) λg6=>
 bindB (Slot.isB l false) λl8=>
 bind1 (gd l8 (pickS (gdV E y) g6 (.val (.bool false)))) λg7=>
 bind1 (pickS l (.val (.bool true)) g7) λg8=>
 condS g8 (
 some (.ret (.val (.int .i64 8)),U)) (
 bind1 (ofSlots (C.ti Q2) (List.take (C.ti Q2).size (List.drop 0 a))) λh0=>
 bind1 (binS (C.ti Q2) .eql h0 (.val (.int .i64 1))) λz=>
 bindB (Slot.isB z true) λl9=>
 bindB (Slot.isB z true) λm0=>
 bind1 (gd m0 (bif l9 then (ofSlots (C.ti Q1) (List.take (C.ti Q1).size (List.drop 3 a))) else none)) λh1=>
 bindB (Slot.isB z true) λm1=>
 back (cal cw m1 (tgtV (.val (.fn Q5t [])) [h1]) U) λh2 O=>
 bindB (Slot.isB z true) λm2=>
 bind1 (gd m2 (unS .not h2)) λh3=>
 bind1 (pickS z h3 (.val (.bool false))) λm=>
 bindB (Slot.isB m false) λm4=>
 bindB (Slot.isB m false) λm5=>
 bind1 (gd m5 (bif m4 then (ofSlots (C.ti Q2) (List.take (C.ti Q2).size (List.drop 0 a))) else none)) λa1=>
 bindB (Slot.isB m false) λm6=>
 bind1 (gd m6 (binS (C.ti Q2) .eql a1 (.val (.int .i64 13)))) λe=>
 bindB (Slot.isB m false) λn=>
 bindB (Slot.isB (gdV n e) true) λm7=>
 bindB (Slot.isB (gdV n e) true) λm8=>
 bind1 (gd m8 (bif m7 then (ofSlots (C.ti Q1) (List.take (C.ti Q1).size (List.drop 3 a))) else none)) λa2=>
 bindB (Slot.isB (gdV n e) true) λm9=>
 bind1 (gd m9 (binS (C.ti Q1) .lss a2 (.val (.int .i64 1)))) λH=>
 bindB (Slot.isB (gdV n e) true) λN=>
 bindB (Slot.isB (gdV N H) false) λn0=>
 bindB (Slot.isB (gdV N H) false) λn1=>
 bind1 (gd n1 (bif n0 then (ofSlots (C.ti Q1) (List.take (C.ti Q1).size (List.drop 3 a))) else none)) λa3=>
 bindB (Slot.isB (gdV N H) false) λn3=>
 bind1 (gd n3 (binS (C.ti Q1) .gtr a3 (.val (.int .i64 9)))) λa4=>
 bindB (Slot.isB (gdV n e) true) λn4=>
 bind1 (gd n4 (pickS (gdV N H) (.val (.bool true)) a4)) λa5=>
 bindB (Slot.isB m false) λn5=>
 bind1 (gd n5 (pickS (gdV n e) a5 (.val (.bool false)))) λa6=>
 bind1 (pickS m (.val (.bool true)) a6) λa7=>
 condS a7 (
 some (.ret (.val (.int .i64 2)),O)) (
 bind1 (ofSlots (C.ti Q8) (List.take (C.ti Q8).size (List.drop 4 a))) λa8=>
 bind1 (lenS (C.ti Q8) a8) λa9=>
 bind1 (ofSlots (C.ti Q1) (List.take (C.ti Q1).size (List.drop 4 b))) λb0=>
 bind1 (binS (C.ti Q1) .lss a9 b0) λd=>
 bindB (Slot.isB d false) λn6=>
 bindB (Slot.isB d false) λn7=>
 bind1 (gd n7 (bif n6 then (ofSlots (C.ti Q8) (List.take (C.ti Q8).size (List.drop 4 a))) else none)) λb1=>
 bindB (Slot.isB d false) λn8=>
 bind1 (gd n8 (lenS (C.ti Q8) b1)) λb2=>
 bindB (Slot.isB d false) λn9=>
 bindB (Slot.isB d false) λo0=>
 bind1 (gd o0 (bif n9 then (ofSlots (C.ti Q1) (List.take (C.ti Q1).size (List.drop 5 b))) else none)) λb3=>
 bindB (Slot.isB d false) λo1=>
 bind1 (gd o1 (binS (C.ti Q1) .gtr b2 b3)) λb4=>
 bind1 (pickS d (.val (.bool true)) b4) λo=>
 bindB (Slot.isB o false) λo2=>
 bindB (Slot.isB o false) λo4=>
 bind1 (gd o4 (bif o2 then (ofSlots (C.ti QD) (List.take (C.ti QD).size (List.drop 2 b))) else none)) λp=>
 bindB (Slot.isB o false) λF=>
 bindB (Slot.isB (gdV F p) true) λo5=>
 bindB (Slot.isB (gdV F p) true) λo6=>
 bind1 (gd o6 (bif o5 then (ofSlots (C.ti Qf) (List.take (C.ti Qf).size (List.drop 5 a))) else none)) λb5=>
 bindB (Slot.isB (gdV F p) true) λo7=>
 bind1 (gd o7 (lenS (C.ti Qf) b5)) λb6=>
 bindB (Slot.isB (gdV F p) true) λo8=>
 bind1 (gd o8 (binS (C.ti Q1) .eql b6 (.val (.int .i64 0)))) λb7=>
 bindB (Slot.isB o false) λo9=>
 bind1 (gd o9 (pickS (gdV F p) b7 (.val (.bool false)))) λb8=>
 bind1 (pickS o (.val (.bool true)) b8) λq=>
 bindB (Slot.isB q false) λp0=>
 bindB (Slot.isB q false) λp1=>
 bind1 (gd p1 (bif p0 then (ofSlots (C.ti QD) (List.take (C.ti QD).size (List.drop 3 b))) else none)) λr=>
 bindB (Slot.isB q false) λG=>
 bindB (Slot.isB (gdV G r) true) λp3=>
 bindB (Slot.isB (gdV G r) true) λp4=>
 bind1 (gd p4 (bif p3 then (ofSlots (C.ti QG) (List.take (C.ti QG).size (List.drop 6 a))) else none)) λb9=>
 bindB (Slot.isB (gdV G r) true) λp5=>
 bind1 (gd p5 (lenS (C.ti QG) b9)) λd0=>
 bindB (Slot.isB (gdV G r) true) λp6=>
 bind1 (gd p6 (binS (C.ti Q1) .eql d0 (.val (.int .i64 0)))) λd1=>
 bindB (Slot.isB q false) λp7=>
 bind1 (gd p7 (pickS (gdV G r) d1 (.val (.bool false)))) λd2=>
 bind1 (pickS q (.val (.bool true)) d2) λd3=>
 condS d3 (
 some (.ret (.val (.int .i64 19)),O)) (
 some (.ret (.val (.int .i64 0)),O))))):=(Q3 _ _ _).trans (by kernel_rfl)
end Go.Proofs.YtgfhplcmcdimiaaGreatDoor